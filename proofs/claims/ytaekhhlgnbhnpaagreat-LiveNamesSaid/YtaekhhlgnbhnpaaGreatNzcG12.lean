import Derived.Test.YtaekhhlgnbhnpaaGreatNzcG11
import Derived.Laws.StructEq
set_option linter.unusedVariables false
set_option linter.unusedSimpArgs false
open Bool renaming false_eq_true→azx
open ForInStep renaming yield→azO
open Go.Op renaming equalIn→aAY
open List renaming append_assoc→azT,length_append→aAZ
open Nat renaming le_refl→ay7,le_trans→ayV,lt_of_lt_of_le→aza
open Option renaming bind_some→aAh,map_some→az3
namespace Go.Tw
open Go
theorem aaY {α β:Type} (P:Program):∀ (s:Sem α) (f:α→Sem β),cF P (s.bind f)=(cF P s).bind fun a=>cF P (f a)
 | .pure a,f=>rfl
 | .program k,f=>by
  show cF P ((k P).bind f)=_;rw [aaY P (k P) f];rfl
 | .load _ _ _,f=>rfl
 | .store _ _ _ _,f=>rfl
 | .new _ _,f=>rfl
 | .shape _ _,f=>rfl
 | .freeze _ _ _,f=>rfl
 | .frozen _ _,f=>rfl
 | .getObj _ _,f=>rfl
 | .setObj _ _ _,f=>rfl
 | .choose _ _,f=>rfl
 | .sys _ _,f=>rfl
 | .mark _ _,f=>rfl
 | .halt _,f=>rfl
theorem rD {α β:Type} (P:Program) (s:Sem α) (f:α→Sem β):cF P (s >>= f)=(cF P s).bind fun a=>cF P (f a):=aaY P s f
theorem v8 {α:Type} (P:Program) (a:α):cF P (Pure.pure a:Sem α)=some a:=rfl
theorem alN (P:Program):cF P program=some P:=rfl
def wB (P : Program) (xs ys : Array Value) : List Field → Option Bool
 | [] => some true
 | f :: fs => if f.name ≠ "_" then
     (match P.underlying f.type, xs[f.offset]?, ys[f.offset]? with
     | some (.int _), some (.int k a), some (.int k' b) => if k = k' then (if a = b then wB P xs ys fs else some false) else none
     | _, _, _ => none)
   else wB P xs ys fs
theorem ag2 {P:Program} {t:TypeId} {d:TypeDesc} (h:P.underlying t=some d):cF P (underlying t)=some d:=by
 simp only [underlying,rD];show (some P).bind _=_;simp [h,v8]
theorem arV {P:Program} {t:TypeId} {k:IntKind} (h:P.underlying t=some (.int k)):cF P (isAgg t)=some false:=by
 unfold isAgg;simp only [rD,ag2 h];rfl
theorem alO {P:Program} {t:TypeId} {k:IntKind} (h:P.underlying t=some (.int k)) {cs:Array Value} {a:Nat} {v:Value} (b:cs[a]? = some v):cF P (part t cs a)=some v:=by
 simp only [part,rD,arV h,b];rfl
theorem arW {P:Program} {d:Nat} {t:TypeId} {k k':IntKind} {a b:Int} (h:P.underlying t=some (.int k')):cF P (aAY (d+1) t (.int k a) (.int k b))=some (a == b):=by
 simp [aAY,rD,ag2 h,v8]
def aaZ (P:Program) (t:TypeId):List Field:=match P.underlying t with | some (.struct fs)=>fs.toList | _=>[]
theorem arX {P : Program} {d : Nat} {xs ys : Array Value} : ∀ (fs : List Field) (b : Bool), wB P xs ys fs = some b →
   cF P (do
     let r ← forIn fs ((none, ()) : Option Bool × Unit) fun f r =>
       if f.name ≠ "_" then do
         let a ← part f.type xs f.offset
         let b ← part f.type ys f.offset
         let c ← aAY (d + 1) f.type a b
         if (!c) = true then pure (ForInStep.done (some false, ())) else pure (azO (none, ()))
       else pure (azO (none, ()))
     match r.1 with
     | some a => pure a
     | none => pure true : Sem Bool) = some b := by
 intro fs
 induction fs with
 | nil => intro b h; simp only [wB] at h; cases h; simp [v8]
 | cons f fs ih =>
   intro b h
   simp only [List.forIn_cons, rD] at ih ⊢
   unfold wB at h
   by_cases hn : f.name ≠ "_"
   · rw [if_pos hn] at h
     split at h
     · rename_i k0 k a k' c hu hx hy
       by_cases hk : k = k'
       · subst hk
         rw [if_pos rfl] at h
         simp only [if_pos hn, rD, alO hu hx, alO hu hy, aAh, arW hu]
         by_cases hac : a = c
         · subst hac
           rw [if_pos rfl] at h
           simp only [beq_self_eq_true, Bool.not_true, azx, if_false, v8, aAh]
           exact ih b h
         · rw [if_neg hac] at h
           cases h
           simp [hac, v8]
       · rw [if_neg hk] at h; cases h
     · cases h
   · rw [if_neg hn] at h
     simp only [if_neg hn, v8, aAh]
     exact ih b h
theorem alP {P:Program} {t:TypeId} {f ys:Array Value} {b:Bool} (e:(match P.underlying t with | some (.struct _)=>true | _=>false)=true) (i:P.stoodInHeld t=false) (h:wB P f ys (aaZ P t)=some b):cF P (Op.equal t (.agg f) (.agg ys))=some b:=by
 obtain ⟨c,a⟩:∃ c,P.underlying t=some (.struct c):=by
  split at e
  ·exact ⟨_,by assumption⟩
  ·cases e
 have g:aaZ P t=c.toList:=by unfold aaZ;rw [a]
 rw [g] at h;have:=arX (d:=9998) c.toList b h;unfold Op.equal Op.maxDepth;rw [show (10000:Nat)=9998+1+1 from rfl];rw [aAY.eq_def];simp only [rD,ag2 a,aAh];simp only [alN,aAh,i,azx,if_false];rw [←Array.forIn_toList];simp only [rD] at this ⊢;refine Eq.trans ?_ this;congr 1;funext r;obtain ⟨o,u⟩:=r;cases o <;> rfl
theorem arY {P:Program} {t:TypeId} {x y:Operand} {a b:List AV} {u v:List Value} {c:Bool} (e:pY a=some u) (g:pY b=some v) (i:(match P.underlying t with | some (.struct _)=>true | _=>false)=true) (k:P.stoodInHeld t=false) (j:P.eqGuardType P.depth t=false) (h:wB P u.toArray v.toArray (aaZ P t)=some c):dR P .eql t x y (.agg a) (.agg b)=some (.val (.bool c))∧dR P .neq t x y (.agg a) (.agg b)=some (.val (.bool !c)):=by
 have f:=alP i k h;have d:∀ op,cF P (eqGuard op t x y (.agg u.toArray) (.agg v.toArray))=some ():=fun op=>by
  cases op <;> (first | rfl | (unfold eqGuard;simp [rD,alN,j,v8]))
 constructor
 ·simp only [dR,i6,e,g,az3,aAh,pZ,rD,d];simp only [binOp,rD,f,aAh,v8];rfl
 ·simp only [dR,i6,e,g,az3,aAh,pZ,rD,d];simp only [binOp,rD,f,aAh,v8];rfl
structure m6 (m:aF) (v:AV) (n:Nat) (cells:List AV):Prop where
 form:aZ v n cells∨∃ b off c f k,v = .sl b off n c f∧m.at_ b=some k∧(k.kind = .flat∨(k.kind = .var∧c9 k.cells=true))∧k.cells.drop off=cells∧n≤c
structure m7 (m0 m:aF):Prop where
 mm:m.mm=m0.mm
 next:m0.next≤m.next
 at_:∀ j k,m0.at_ j=some k→j < m0.next→∃ wr,m.at_ j=some ⟨k.cells,k.el,k.kind,wr⟩
theorem m7.refl (m:aF):m7 m m:=⟨rfl,ay7 _,fun j k h _=>⟨k.wr,h⟩⟩
theorem m7.trans {a b c:aF} (h:m7 a b) (d:m7 b c):m7 a c:=⟨d.mm.trans h.mm,ayV h.next d.next,fun j k g f=>by
 obtain ⟨wr,l⟩:=h.at_ j k g f;obtain ⟨e,i⟩:=d.at_ j _ l (aza f h.next);exact ⟨e,i⟩⟩
structure lU (m0 m:aF):Prop where
 mm:m.mm=m0.mm
 next:m0.next≤m.next
 at_:∀ j k,m0.at_ j=some k→j < m0.next→m.at_ j=some k
theorem lU.refl (m:aF):lU m m:=⟨rfl,ay7 _,fun j k h _=>h⟩
theorem lU.trans {a b c:aF} (h:lU a b) (d:lU b c):lU a c:=⟨d.mm.trans h.mm,ayV h.next d.next,fun j k f e=>d.at_ j k (h.at_ j k f e) (aza e h.next)⟩
theorem lU.w {a b:aF} (h:lU a b):m7 a b:=⟨h.mm,h.next,fun j k c d=>⟨k.wr,h.at_ j k c d⟩⟩
def mO (m0:aF) (v:AV):Prop:=∀ j,cI v=some j→m0.next≤j
theorem zU (m0:aF):mO m0 aN:=fun j h=>by cases h
theorem mO.mono {m0 a:aF} {v:AV} (h:mO a v) (c:m0.next≤a.next):mO m0 v:=fun j b=>ayV c (h j b)
def uZ (m0:aF) (v:AV):Prop:=∀ b a n c f,v = .sl b a n c f→b < m0.next
theorem uZ.nil (m0:aF):uZ m0 aN:=fun b a n c f h=>by cases h
theorem uZ.rd {m0:aF} {v:AV} {n:Nat} {cs:List AV} (h:aZ v n cs):uZ m0 v:=fun b a d c f e=>by
 rcases h.form with ⟨rfl,_⟩ | ⟨_,_,rfl,_⟩ | ⟨_,_,rfl,_⟩ <;> cases e
section
variable {P:Program} {m:aF} {v:AV} {n:Nat} {cells:List AV}
theorem arZ (h:aZ v n cells):m6 m v n cells:=⟨.inl h⟩
theorem zV {kd:fZ} {el:TypeId} {sz:Nat} (h:cG kd m el sz v n cells) (c:kd = .flat∨(kd = .var∧c9 cells=true)):m6 m v n cells:=by
 rcases h.form with ⟨rfl,rfl,rfl⟩ | ⟨b,rfl,a,_,_⟩
 ·exact ⟨.inl ⟨.inl ⟨rfl,rfl⟩⟩⟩
 ·exact ⟨.inr ⟨b,0,n,false,_,rfl,a,c,rfl,ay7 _⟩⟩
theorem ag3 {kd:fZ} {el:TypeId} {sz:Nat} (h:cG kd m el sz v n cells):uZ m v:=fun b d i c f e=>by
 rcases h.form with ⟨rfl,_⟩ | ⟨g,rfl,_,a,_⟩
 ·cases e
 ·cases e;exact a
theorem m6.keep {m':aF} (h:m6 m v n cells) (l:m7 m m') (d:uZ m v):m6 m' v n cells:=by
 rcases h.form with h | ⟨b,a,c,f,k,rfl,o,g,i,e⟩
 ·exact ⟨.inl h⟩
 ·obtain ⟨wr,j⟩:=l.at_ b k o (d _ _ _ _ _ rfl);exact ⟨.inr ⟨b,a,c,f,_,rfl,j,g,i,e⟩⟩
theorem m6.fz (h:m6 m v n cells):∃ u p,fz m v=some (u,p)∧aZ u n cells∧p.mm=m.mm∧p.next=m.next∧∀ j k,m.at_ j=some k→∃ wr,p.at_ j=some ⟨k.cells,k.el,k.kind,wr⟩∧((∀ a n c f,v ≠ .sl j a n c f)→wr=k.wr):=by
 rcases h.form with h | ⟨b,a,c,f,k',rfl,r,g,rfl,t⟩
 ·refine ⟨v,m, ?_,h,rfl,rfl,fun b k A=>⟨k.wr,A,fun _=>rfl⟩⟩;rcases h.form with ⟨rfl,_⟩ | ⟨_,_,rfl,_⟩ | ⟨_,_,rfl,_⟩ <;> rfl
 ·obtain ⟨i,s,z,C⟩:=k';have d:∀ j k,m.at_ j=some k→∃ wr,(m.put b (some ⟨i,s,z,false⟩)).at_ j=some ⟨k.cells,k.el,k.kind,wr⟩∧((∀ o x y B,AV.sl b a n c f ≠ .sl j o x y B)→wr=k.wr):=fun j k q=>by
   by_cases e:j=b
   ·subst e;rw [r] at q;cases q;exact ⟨false,by simp [aF.put],fun w=>absurd rfl (w _ _ _ _)⟩
   ·exact ⟨k.wr,by simp [aF.put,e,q],fun _=>rfl⟩
  rcases g with g | ⟨g,l⟩
  ·simp only at g;subst g;exact ⟨.tree n c (i.drop a) f,m.put b (some ⟨i,s,.flat,false⟩),by simp [Go.Tw.fz,r],⟨.inr (.inr ⟨c,f,rfl,t⟩)⟩,rfl,rfl,d⟩
  ·simp only at g l;subst g;have l:=(qE (m:=m) 3 i l).2;exact ⟨.tree n c (i.drop a) f,m.put b (some ⟨i,s,.var,false⟩),by simp [Go.Tw.fz,r,l],⟨.inr (.inr ⟨c,f,rfl,t⟩)⟩,rfl,rfl,d⟩
theorem m6.lend (h:m6 m v n cells) (d:Nat):∃ k,lend (d+1) m v=some k∧aZ k n cells:=by
 rcases h.form with h | ⟨b,e,c,f,k',rfl,o,g,rfl,j⟩
 ·exact ⟨v,(uW (d+1) v h.plain).1,h⟩
 ·rcases g with g | ⟨g,r⟩
  ·refine ⟨.tree n c (k'.cells.drop e) f, ?_,⟨.inr (.inr ⟨c,f,rfl,j⟩)⟩⟩;unfold Go.Tw.lend;simp [o,g]
  ·refine ⟨.tree n c (k'.cells.drop e) f, ?_,⟨.inr (.inr ⟨c,f,rfl,j⟩)⟩⟩;have p:c9 (k'.cells.drop e)=true:=by
    have:∀ (l:List AV) (i:Nat),c9 l=true→c9 (l.drop i)=true:=by
     intro l
     induction l with
     | nil=>intro i h;simp [c9]
     | cons a l q =>
      intro i h;cases i with
      | zero=>exact h
      | succ i =>
       simp only [c9,Bool.and_eq_true] at h;exact q i h.2
    exact this _ _ r
   unfold Go.Tw.lend;simp [o,g,(qE (m:=m) d _ p).1]
theorem m6.lend1 (h:m6 m v n cells):∃ a,d9 3 m [v]=some [a]∧aZ a n cells:=by
 obtain ⟨a,c,b⟩:=h.lend 2;refine ⟨a, ?_,b⟩;unfold d9;rw [c];unfold d9;rfl
theorem m6.lend2 {a:AV} (c:plain a=true) (h:m6 m v n cells):∃ b,d9 3 m [a,v]=some [a,b]∧aZ b n cells:=by
 obtain ⟨b,e,d⟩:=h.lend1;refine ⟨b, ?_,d⟩;unfold d9;rw [(uW 3 a c).1,e];rfl
theorem alQ {f:FuncId} {args:List AV} {r:fF} (h:fH P f args aF.empty fun v m=>jG P m v=some r):aR P f args r:=⟨h.1,fun w I vs n a e=>(h.2 w I cZ vs ⟨fun b k g o h=>by simp [aF.empty] at h,fun b u k k' g o x h=>by simp [aF.empty] at h,n,jH.none⟩ a e (fun _ _=>rfl)).mono fun y w'=>by
 rintro ⟨v,z,m',i,ρ',rfl,s,j,t,q,_⟩;obtain ⟨c,d,l,p⟩:=ajr t q j s;exact ⟨v,i,c,rfl,d,l,p⟩⟩
theorem cG.frz {kd:fZ} {el:TypeId} {sz i:Nat} {u:AV} {cs:List AV} {d:aF} (h:cG kd m el sz u i cs) (r:d.next=m.next) (o:∀ j k,m.at_ j=some k→∃ wr,d.at_ j=some ⟨k.cells,k.el,k.kind,wr⟩∧((∀ a n c f,v ≠ .sl j a n c f)→wr=k.wr)) (g:∀ b,cI u=some b→∀ a n c f,v ≠ .sl b a n c f):cG kd d el sz u i cs:=by
 refine h.keep (by omega) fun b k l e => ?_
 obtain ⟨wr,q,p⟩:=o b k e;rw [q,p (g b l)]
theorem ar0 {m0 a:aF} (h:m7 m0 m) (i:a.mm=m.mm) (g:a.next=m.next) (l:∀ j k,m.at_ j=some k→∃ wr,a.at_ j=some ⟨k.cells,k.el,k.kind,wr⟩∧((∀ d n c f,v ≠ .sl j d n c f)→wr=k.wr)):m7 m0 a :=
 ⟨i.trans h.mm,by rw [g];exact h.next,fun j k e p=>by
  obtain ⟨wr,q⟩:=h.at_ j k e p;obtain ⟨b,o,_⟩:=l j _ q;exact ⟨b,o⟩⟩
end
theorem alR {P:Program} {kd:fZ} {el:TypeId} {m0 m:aF} {v x:AV} {K:bR→Prop} {sz y n cnt:Nat} {zl:List Value} {cells new:List AV} (i:bP P el=kd) (A:cG kd m el sz v n cells) (B:cE P el=some sz) (D:lB P el=some y) (t:gN P el=some zl) (r:zl.length=sz) (q:f9 P el sz m x=some (new,cnt)) (w:new.length=cnt*sz) (z:(n+cnt)*y≤140737488355328) (u:n+cnt≤140737488355328) (f:lU m0 m) (o:mO m0 v)
 (s:∀ g m',cG kd m' el sz g (n+cnt) (cells++new)→lU m0 m'→mO m0 g→K ⟨g,m',none⟩):eO (gA P el m v x) K :=
 uY i A B D t r q w z u fun g m' a b c d e=>s g m' a ⟨e.trans f.mm,ayV f.next b,fun j k l p=>c j k (f.at_ j k l p) (aza p f.next) fun C=>by have:=o j C;omega⟩ fun j l=>by
  rcases d j l with h | h
  ·rw [h];exact f.next
  ·exact o j h
theorem aek {P:Program} {kd:fZ} {el:TypeId} {m0 m:aF} {v x:AV} {K:bR→Prop} {sz y n cnt:Nat} {zl:List Value} {cells new:List AV} (i:bP P el=kd) (A:cG kd m el sz v n cells) (B:cE P el=some sz) (E:lB P el=some y) (t:gN P el=some zl) (r:zl.length=sz) (q:f9 P el sz m x=some (new,cnt)) (w:new.length=cnt*sz) (z:(n+cnt)*y≤140737488355328) (u:n+cnt≤140737488355328) (g:m7 m0 m) (o:mO m0 v)
 (s:∀ f m',cG kd m' el sz f (n+cnt) (cells++new)→m7 m0 m'→mO m0 f→m.next≤m'.next→(∀ j,cI f=some j→j=m.next∨cI v=some j)→(∀ j k,m.at_ j=some k→j < m.next→cI v≠some j→m'.at_ j=some k)→K ⟨f,m',none⟩):eO (gA P el m v x) K :=
 uY i A B E t r q w z u fun f m' a b c d e=>s f m' a ⟨e.trans g.mm,ayV g.next b,fun j k l p=>by
  obtain ⟨wr,C⟩:=g.at_ j k l p;exact ⟨wr,c j _ C (aza p g.next) fun D=>by have:=o j D;omega⟩⟩ (fun j l=>by
  rcases d j l with h | h
  ·rw [h];exact g.next
  ·exact o j h) b d c
theorem cG.beside {kd:fZ} {m m':aF} {el:TypeId} {sz n:Nat} {u v g:AV} {cells:List AV} (h:cG kd m el sz u n cells) (l:m.next≤m'.next) (p:∀ j,cI g=some j→j=m.next∨cI v=some j) (o:∀ j k,m.at_ j=some k→j < m.next→cI v≠some j→m'.at_ j=some k) (d:∀ b,cI u=some b→cI v≠some b):cG kd m' el sz u n cells∧∀ b,cI u=some b→cI g≠some b:=by
 have c:∀ b,cI u=some b→b < m.next:=fun b a=>by
  rcases h.form with ⟨rfl,_⟩ | ⟨q,rfl,_,c,_⟩
  ·cases a
  ·injection a with a;omega
 refine ⟨h.keep l fun b k a e=>o b k e (c b a) (d b a),fun b a f => ?_⟩;rcases p b f with i | i
 ·have:=c b a;omega
 ·exact d b a i
def wC (el:TypeId) (m:aF) (v:AV) (cs:List AV):aF:=match cI v with
 | some b=>(m.put b none).push ⟨cs,el,.flat,true⟩
 | none=>m.push ⟨cs,el,.flat,true⟩
def jI (el:TypeId):aF→AV→List AV→List AV→aF×AV
 | m,v,_,[]=>(m,v)
 | m,v,cs,x::xs=>jI el (wC el m v (cs++[x])) (.sl m.next 0 (cs.length+1) (cs.length+1) false) (cs++[x]) xs
theorem ar1 {el:TypeId} {m:aF} {v:AV} {cs:List AV}:(wC el m v cs).next=m.next+1:=by
 unfold wC;split <;> rfl
theorem ar2 {el:TypeId} {m:aF} {v:AV} {cs:List AV} (x:AV):Own (wC el m v (cs++[x])) el 1 (.sl m.next 0 (cs.length+1) (cs.length+1) false) (cs.length+1) (cs++[x]):=by
 refine ⟨.inr ⟨m.next,rfl, ?_,by rw [ar1];omega,by omega⟩,by simp⟩;unfold wC;split
 ·rw [aT,if_pos (by rw [bX])]
 ·rw [aT,if_pos rfl]
theorem alS {el:TypeId}:∀ (a ys:List AV) (m:aF) (v:AV) (cs:List AV),jI el m v cs (a++ys)=jI el (jI el m v cs a).1 (jI el m v cs a).2 (cs++a) ys
 | [],ys,m,v,cs=>by simp [jI]
 | x::a,ys,m,v,cs=>by
  rw [List.cons_append,jI,alS a ys,jI,azT];rfl
theorem wE {el:TypeId}:∀ (a:List AV) (m:aF) (v:AV) (cs:List AV),Own m el 1 v cs.length cs→Own (jI el m v cs a).1 el 1 (jI el m v cs a).2 (cs.length+a.length) (cs++a)
 | [],m,v,cs,h=>by simpa [jI] using h
 | x::a,m,v,cs,h=>by
  rw [jI];have:=wE a (wC el m v (cs++[x])) _ (cs++[x]) (by rw [aAZ];exact ar2 x);rw [aAZ,azT] at this;rw [List.length_cons,show cs.length+(a.length+1)=cs.length+[x].length+a.length by simp;omega];exact this
theorem ar3 {P:Program} {el:TypeId} {m:aF} {v x y:AV} {n:Nat} {zl:List Value} {cs:List AV} {yb:Nat} (a:bP P el = .flat) (f:Own m el 1 v n cs) (i:cE P el=some 1) (j:lB P el=some yb) (h:gN P el=some zl) (g:zl.length=1) (e:f9 P el 1 m x=some ([y],1)) (d:(n+1)*yb≤140737488355328) (l:n+1≤140737488355328) :
 gA P el m v x=some ⟨.sl m.next 0 (cs.length+1) (cs.length+1) false,wC el m v (cs++[y]),none⟩:=by
 have q:=f.len;rcases f.form with ⟨rfl,rfl,rfl⟩ | ⟨b,rfl,o,k,p⟩
 ·simp only [gA,i,j,h,e,aAh,eE,aN];simp at d l;simp [bL,g,d,a,wC,cI]
 ·have c:cs.length=n:=by omega
  simp only [gA,i,j,h,e,eE,o,a,aAh,c];simp [vS,bL,g,d,wC,cI];omega
end Go.Tw