import Derived.Test.YtaekhhlgnbhnpaaGreatQmcG11
import Derived.Laws.StructEq
set_option linter.unusedVariables false
set_option linter.unusedSimpArgs false
open Bool renaming false_eq_true→azA
open ForInStep renaming yield→azR
open Go.Op renaming equalIn→aA1
open List renaming append_assoc→azW,length_append→aA2
open Nat renaming le_refl→aza,le_trans→ayY,lt_of_lt_of_le→azd
open Option renaming bind_some→aAk,map_some→az6
namespace Go.Tw
open Go
theorem ame {α β:Type} (P:Program):∀ (s:Sem α) (f:α→Sem β),cT P (s.bind f)=(cT P s).bind fun a=>cT P (f a)
 | .pure a,f=>rfl
 | .program k,f=>by
  show cT P ((k P).bind f)=_;rw [ame P (k P) f];rfl
 | .load _ _ _,f=>rfl
 | .store _ _ _ _,f=>rfl
 | .new _ _,f=>rfl
 | .shape _ _,f=>rfl
 | .freeze _ _ _,f=>rfl
 | .frozen _ _,f=>rfl
 | .getObj _ _,f=>rfl
 | .setObj _ _ _,f=>rfl
 | .choose _ _,f=>rfl
 | .sys _ _,f=>rfl
 | .mark _ _,f=>rfl
 | .halt _,f=>rfl
theorem sX {α β:Type} (P:Program) (s:Sem α) (f:α→Sem β):cT P (s >>= f)=(cT P s).bind fun a=>cT P (f a):=ame P s f
theorem yF {α:Type} (P:Program) (a:α):cT P (Pure.pure a:Sem α)=some a:=rfl
theorem amf (P:Program):cT P program=some P:=rfl
def yG (P : Program) (xs ys : Array Value) : List Field → Option Bool
 | [] => some true
 | f :: fs => if f.name ≠ "_" then
     (match P.underlying f.type, xs[f.offset]?, ys[f.offset]? with
     | some (.int _), some (.int k a), some (.int k' b) => if k = k' then (if a = b then yG P xs ys fs else some false) else none
     | _, _, _ => none)
   else yG P xs ys fs
theorem ahd {P:Program} {t:TypeId} {d:TypeDesc} (h:P.underlying t=some d):cT P (underlying t)=some d:=by
 simp only [underlying,sX];show (some P).bind _=_;simp [h,yF]
theorem asx {P:Program} {t:TypeId} {k:IntKind} (h:P.underlying t=some (.int k)):cT P (isAgg t)=some false:=by
 unfold isAgg;simp only [sX,ahd h];rfl
theorem amg {P:Program} {t:TypeId} {k:IntKind} (h:P.underlying t=some (.int k)) {cs:Array Value} {a:Nat} {v:Value} (b:cs[a]? = some v):cT P (part t cs a)=some v:=by
 simp only [part,sX,asx h,b];rfl
theorem asy {P:Program} {d:Nat} {t:TypeId} {k k':IntKind} {a b:Int} (h:P.underlying t=some (.int k')):cT P (aA1 (d+1) t (.int k a) (.int k b))=some (a == b):=by
 simp [aA1,sX,ahd h,yF]
def abW (P:Program) (t:TypeId):List Field:=match P.underlying t with | some (.struct fs)=>fs.toList | _=>[]
theorem asz {P : Program} {d : Nat} {xs ys : Array Value} : ∀ (fs : List Field) (b : Bool), yG P xs ys fs = some b →
   cT P (do
     let r ← forIn fs ((none, ()) : Option Bool × Unit) fun f r =>
       if f.name ≠ "_" then do
         let a ← part f.type xs f.offset
         let b ← part f.type ys f.offset
         let c ← aA1 (d + 1) f.type a b
         if (!c) = true then pure (ForInStep.done (some false, ())) else pure (azR (none, ()))
       else pure (azR (none, ()))
     match r.1 with
     | some a => pure a
     | none => pure true : Sem Bool) = some b := by
 intro fs
 induction fs with
 | nil => intro b h; simp only [yG] at h; cases h; simp [yF]
 | cons f fs ih =>
   intro b h
   simp only [List.forIn_cons, sX] at ih ⊢
   unfold yG at h
   by_cases hn : f.name ≠ "_"
   · rw [if_pos hn] at h
     split at h
     · rename_i k0 k a k' c hu hx hy
       by_cases hk : k = k'
       · subst hk
         rw [if_pos rfl] at h
         simp only [if_pos hn, sX, amg hu hx, amg hu hy, aAk, asy hu]
         by_cases hac : a = c
         · subst hac
           rw [if_pos rfl] at h
           simp only [beq_self_eq_true, Bool.not_true, azA, if_false, yF, aAk]
           exact ih b h
         · rw [if_neg hac] at h
           cases h
           simp [hac, yF]
       · rw [if_neg hk] at h; cases h
     · cases h
   · rw [if_neg hn] at h
     simp only [if_neg hn, yF, aAk]
     exact ih b h
theorem amh {P:Program} {t:TypeId} {e ys:Array Value} {b:Bool} (f:(match P.underlying t with | some (.struct _)=>true | _=>false)=true) (i:P.stoodInHeld t=false) (h:yG P e ys (abW P t)=some b):cT P (Op.equal t (.agg e) (.agg ys))=some b:=by
 obtain ⟨c,a⟩:∃ c,P.underlying t=some (.struct c):=by
  split at f
  ·exact ⟨_,by assumption⟩
  ·cases f
 have g:abW P t=c.toList:=by unfold abW;rw [a]
 rw [g] at h;have:=asz (d:=9998) c.toList b h;unfold Op.equal Op.maxDepth;rw [show (10000:Nat)=9998+1+1 from rfl];rw [aA1.eq_def];simp only [sX,ahd a,aAk];simp only [amf,aAk,i,azA,if_false];rw [←Array.forIn_toList];simp only [sX] at this ⊢;refine Eq.trans ?_ this;congr 1;funext r;obtain ⟨o,u⟩:=r;cases o <;> rfl
theorem asA {P:Program} {t:TypeId} {x y:Operand} {a b:List AV} {u v:List Value} {c:Bool} (g:sM a=some u) (f:sM b=some v) (k:(match P.underlying t with | some (.struct _)=>true | _=>false)=true) (j:P.stoodInHeld t=false) (i:P.eqGuardType P.depth t=false) (h:yG P u.toArray v.toArray (abW P t)=some c):eA P .eql t x y (.agg a) (.agg b)=some (.val (.bool c))∧eA P .neq t x y (.agg a) (.agg b)=some (.val (.bool !c)):=by
 have d:=amh k j h;have e:∀ op,cT P (eqGuard op t x y (.agg u.toArray) (.agg v.toArray))=some ():=fun op=>by
  cases op <;> (first | rfl | (unfold eqGuard;simp [sX,amf,i,yF]))
 constructor
 ·simp only [eA,jO,g,f,az6,aAk,sO,sX,e];simp only [binOp,sX,d,aAk,yF];rfl
 ·simp only [eA,jO,g,f,az6,aAk,sO,sX,e];simp only [binOp,sX,d,aAk,yF];rfl
structure lW (m:aF) (v:AV) (n:Nat) (cells:List AV):Prop where
 form:aT v n cells∨∃ b off c f k,v = .sl b off n c f∧m.at_ b=some k∧(k.kind = .flat∨(k.kind = .var∧cP k.cells=true))∧k.cells.drop off=cells∧n≤c
structure nS (m0 m:aF):Prop where
 mm:m.mm=m0.mm
 next:m0.next≤m.next
 at_:∀ j k,m0.at_ j=some k→j < m0.next→∃ wr,m.at_ j=some ⟨k.cells,k.el,k.kind,wr⟩
theorem nS.refl (m:aF):nS m m:=⟨rfl,aza _,fun j k h _=>⟨k.wr,h⟩⟩
theorem nS.trans {a b c:aF} (h:nS a b) (d:nS b c):nS a c:=⟨d.mm.trans h.mm,ayY h.next d.next,fun j k g f=>by
 obtain ⟨wr,l⟩:=h.at_ j k g f;obtain ⟨e,i⟩:=d.at_ j _ l (azd f h.next);exact ⟨e,i⟩⟩
structure gX (m0 m:aF):Prop where
 mm:m.mm=m0.mm
 next:m0.next≤m.next
 at_:∀ j k,m0.at_ j=some k→j < m0.next→m.at_ j=some k
theorem gX.refl (m:aF):gX m m:=⟨rfl,aza _,fun j k h _=>h⟩
theorem gX.trans {a b c:aF} (h:gX a b) (d:gX b c):gX a c:=⟨d.mm.trans h.mm,ayY h.next d.next,fun j k f e=>d.at_ j k (h.at_ j k f e) (azd e h.next)⟩
theorem gX.w {a b:aF} (h:gX a b):nS a b:=⟨h.mm,h.next,fun j k d c=>⟨k.wr,h.at_ j k d c⟩⟩
def kB (m0:aF) (v:AV):Prop:=∀ j,cG v=some j→m0.next≤j
theorem wX (m0:aF):kB m0 aW:=fun j h=>by cases h
theorem kB.mono {m0 a:aF} {v:AV} (h:kB a v) (b:m0.next≤a.next):kB m0 v:=fun j c=>ayY b (h j c)
def rL (m0:aF) (v:AV):Prop:=∀ b a n c f,v = .sl b a n c f→b < m0.next
theorem rL.nil (m0:aF):rL m0 aW:=fun b a n c f h=>by cases h
theorem rL.rd {m0:aF} {v:AV} {n:Nat} {cs:List AV} (h:aT v n cs):rL m0 v:=fun b a d c f e=>by
 rcases h.form with ⟨rfl,_⟩ | ⟨_,_,rfl,_⟩ | ⟨_,_,rfl,_⟩ <;> cases e
section
variable {P:Program} {m:aF} {v:AV} {n:Nat} {cells:List AV}
theorem asC (h:aT v n cells):lW m v n cells:=⟨.inl h⟩
theorem yH {kd:gJ} {el:TypeId} {sz:Nat} (h:bY kd m el sz v n cells) (c:kd = .flat∨(kd = .var∧cP cells=true)):lW m v n cells:=by
 rcases h.form with ⟨rfl,rfl,rfl⟩ | ⟨b,rfl,a,_,_⟩
 ·exact ⟨.inl ⟨.inl ⟨rfl,rfl⟩⟩⟩
 ·exact ⟨.inr ⟨b,0,n,false,_,rfl,a,c,rfl,aza _⟩⟩
theorem adb {kd:gJ} {el:TypeId} {sz:Nat} (h:bY kd m el sz v n cells):rL m v:=fun b d g c f e=>by
 rcases h.form with ⟨rfl,_⟩ | ⟨i,rfl,_,a,_⟩
 ·cases e
 ·cases e;exact a
theorem lW.keep {m':aF} (h:lW m v n cells) (i:nS m m') (l:rL m v):lW m' v n cells:=by
 rcases h.form with h | ⟨b,a,c,f,k,rfl,g,e,d,o⟩
 ·exact ⟨.inl h⟩
 ·obtain ⟨wr,j⟩:=i.at_ b k g (l _ _ _ _ _ rfl);exact ⟨.inr ⟨b,a,c,f,_,rfl,j,e,d,o⟩⟩
theorem lW.fz (h:lW m v n cells):∃ t l,fz m v=some (t,l)∧aT t n cells∧l.mm=m.mm∧l.next=m.next∧∀ j k,m.at_ j=some k→∃ wr,l.at_ j=some ⟨k.cells,k.el,k.kind,wr⟩∧((∀ a n c f,v ≠ .sl j a n c f)→wr=k.wr):=by
 rcases h.form with h | ⟨b,a,c,f,k',rfl,s,g,rfl,u⟩
 ·refine ⟨v,m, ?_,h,rfl,rfl,fun b k y=>⟨k.wr,y,fun _=>rfl⟩⟩;rcases h.form with ⟨rfl,_⟩ | ⟨_,_,rfl,_⟩ | ⟨_,_,rfl,_⟩ <;> rfl
 ·obtain ⟨i,r,A,C⟩:=k';have d:∀ j k,m.at_ j=some k→∃ wr,(m.put b (some ⟨i,r,A,false⟩)).at_ j=some ⟨k.cells,k.el,k.kind,wr⟩∧((∀ o x w B,AV.sl b a n c f ≠ .sl j o x w B)→wr=k.wr):=fun j k q=>by
   by_cases e:j=b
   ·subst e;rw [s] at q;cases q;exact ⟨false,by simp [aF.put],fun z=>absurd rfl (z _ _ _ _)⟩
   ·exact ⟨k.wr,by simp [aF.put,e,q],fun _=>rfl⟩
  rcases g with g | ⟨g,p⟩
  ·simp only at g;subst g;exact ⟨.tree n c (i.drop a) f,m.put b (some ⟨i,r,.flat,false⟩),by simp [Go.Tw.fz,s],⟨.inr (.inr ⟨c,f,rfl,u⟩)⟩,rfl,rfl,d⟩
  ·simp only at g p;subst g;have p:=(oQ (m:=m) 3 i p).2;exact ⟨.tree n c (i.drop a) f,m.put b (some ⟨i,r,.var,false⟩),by simp [Go.Tw.fz,s,p],⟨.inr (.inr ⟨c,f,rfl,u⟩)⟩,rfl,rfl,d⟩
theorem lW.lend (h:lW m v n cells) (d:Nat):∃ o,lend (d+1) m v=some o∧aT o n cells:=by
 rcases h.form with h | ⟨b,e,c,f,k',rfl,j,g,rfl,k⟩
 ·exact ⟨v,(yC (d+1) v h.plain).1,h⟩
 ·rcases g with g | ⟨g,r⟩
  ·refine ⟨.tree n c (k'.cells.drop e) f, ?_,⟨.inr (.inr ⟨c,f,rfl,k⟩)⟩⟩;unfold Go.Tw.lend;simp [j,g]
  ·refine ⟨.tree n c (k'.cells.drop e) f, ?_,⟨.inr (.inr ⟨c,f,rfl,k⟩)⟩⟩;have q:cP (k'.cells.drop e)=true:=by
    have:∀ (l:List AV) (i:Nat),cP l=true→cP (l.drop i)=true:=by
     intro l
     induction l with
     | nil=>intro i h;simp [cP]
     | cons a l p =>
      intro i h;cases i with
      | zero=>exact h
      | succ i =>
       simp only [cP,Bool.and_eq_true] at h;exact p i h.2
    exact this _ _ r
   unfold Go.Tw.lend;simp [j,g,(oQ (m:=m) d _ q).1]
theorem lW.lend1 (h:lW m v n cells):∃ a,dN 3 m [v]=some [a]∧aT a n cells:=by
 obtain ⟨a,b,c⟩:=h.lend 2;refine ⟨a, ?_,c⟩;unfold dN;rw [b];unfold dN;rfl
theorem lW.lend2 {a:AV} (c:plain a=true) (h:lW m v n cells):∃ b,dN 3 m [a,v]=some [a,b]∧aT b n cells:=by
 obtain ⟨b,e,d⟩:=h.lend1;refine ⟨b, ?_,d⟩;unfold dN;rw [(yC 3 a c).1,e];rfl
theorem aeF {f:FuncId} {args:List AV} {r:fA} (h:dV P f args aF.empty fun v m=>jB P m v=some r):aQ P f args r:=⟨h.1,fun w I vs l a q=>(h.2 w I dA vs ⟨fun b k g o h=>by simp [aF.empty] at h,fun b x k k' g o y h=>by simp [aF.empty] at h,l,kG.none⟩ a q (fun _ _=>rfl)).mono fun z w'=>by
 rintro ⟨v,u,m',p,ρ',rfl,t,n,j,s,_⟩;obtain ⟨c,e,d,i⟩:=ajL j s n t;exact ⟨v,p,c,rfl,e,d,i⟩⟩
theorem bY.frz {kd:gJ} {el:TypeId} {sz i:Nat} {u:AV} {cs:List AV} {e:aF} (h:bY kd m el sz u i cs) (r:e.next=m.next) (q:∀ j k,m.at_ j=some k→∃ wr,e.at_ j=some ⟨k.cells,k.el,k.kind,wr⟩∧((∀ a n c f,v ≠ .sl j a n c f)→wr=k.wr)) (g:∀ b,cG u=some b→∀ a n c f,v ≠ .sl b a n c f):bY kd e el sz u i cs:=by
 refine h.keep (by omega) fun b k p d => ?_
 obtain ⟨wr,o,l⟩:=q b k d;rw [o,l (g b p)]
theorem asD {m0 a:aF} (h:nS m0 m) (g:a.mm=m.mm) (p:a.next=m.next) (q:∀ j k,m.at_ j=some k→∃ wr,a.at_ j=some ⟨k.cells,k.el,k.kind,wr⟩∧((∀ b n c f,v ≠ .sl j b n c f)→wr=k.wr)):nS m0 a :=
 ⟨g.trans h.mm,by rw [p];exact h.next,fun j k i e=>by
  obtain ⟨wr,o⟩:=h.at_ j k i e;obtain ⟨d,l,_⟩:=q j _ o;exact ⟨d,l⟩⟩
end
theorem adc {P:Program} {kd:gJ} {el:TypeId} {m0 m:aF} {v x:AV} {K:bL→Prop} {sz y n f:Nat} {zl:List Value} {cells new:List AV} (l:bK P el=kd) (z:bY kd m el sz v n cells) (q:bX P el=some sz) (w:jN P el=some y) (A:gF P el=some zl) (C:zl.length=sz) (t:eM P el sz m x=some (new,f)) (s:new.length=f*sz) (u:(n+f)*y≤140737488355328) (D:n+f≤140737488355328) (g:gX m0 m) (p:kB m0 v)
 (r:∀ v' m',bY kd m' el sz v' (n+f) (cells++new)→gX m0 m'→kB m0 v'→K ⟨v',m',none⟩):eO (fR P el m v x) K :=
 vN l z q w A C t s u D fun v' m' a b c d e=>r v' m' a ⟨e.trans g.mm,ayY g.next b,fun j k i o=>c j k (g.at_ j k i o) (azd o g.next) fun B=>by have:=p j B;omega⟩ fun j i=>by
  rcases d j i with h | h
  ·rw [h];exact g.next
  ·exact p j h
theorem aeG {P:Program} {kd:gJ} {el:TypeId} {m0 m:aF} {v x:AV} {K:bL→Prop} {sz y n f:Nat} {zl:List Value} {cells new:List AV} (l:bK P el=kd) (A:bY kd m el sz v n cells) (q:bX P el=some sz) (z:jN P el=some y) (B:gF P el=some zl) (D:zl.length=sz) (t:eM P el sz m x=some (new,f)) (s:new.length=f*sz) (w:(n+f)*y≤140737488355328) (E:n+f≤140737488355328) (g:nS m0 m) (p:kB m0 v)
 (r:∀ v' m',bY kd m' el sz v' (n+f) (cells++new)→nS m0 m'→kB m0 v'→m.next≤m'.next→(∀ j,cG v'=some j→j=m.next∨cG v=some j)→(∀ j k,m.at_ j=some k→j < m.next→cG v≠some j→m'.at_ j=some k)→K ⟨v',m',none⟩):eO (fR P el m v x) K :=
 vN l A q z B D t s w E fun v' m' a b c d e=>r v' m' a ⟨e.trans g.mm,ayY g.next b,fun j k i o=>by
  obtain ⟨wr,u⟩:=g.at_ j k i o;exact ⟨wr,c j _ u (azd o g.next) fun C=>by have:=p j C;omega⟩⟩ (fun j i=>by
  rcases d j i with h | h
  ·rw [h];exact g.next
  ·exact p j h) b d c
theorem bY.beside {kd:gJ} {m m':aF} {el:TypeId} {sz n:Nat} {u v v':AV} {cells:List AV} (h:bY kd m el sz u n cells) (i:m.next≤m'.next) (l:∀ j,cG v'=some j→j=m.next∨cG v=some j) (o:∀ j k,m.at_ j=some k→j < m.next→cG v≠some j→m'.at_ j=some k) (d:∀ b,cG u=some b→cG v≠some b):bY kd m' el sz u n cells∧∀ b,cG u=some b→cG v'≠some b:=by
 have c:∀ b,cG u=some b→b < m.next:=fun b a=>by
  rcases h.form with ⟨rfl,_⟩ | ⟨p,rfl,_,c,_⟩
  ·cases a
  ·injection a with a;omega
 refine ⟨h.keep i fun b k a f=>o b k f (c b a) (d b a),fun b a e => ?_⟩;rcases l b e with g | g
 ·have:=c b a;omega
 ·exact d b a g
def yI (el:TypeId) (m:aF) (v:AV) (cs:List AV):aF:=match cG v with
 | some b=>(m.put b none).push ⟨cs,el,.flat,true⟩
 | none=>m.push ⟨cs,el,.flat,true⟩
def gY (el:TypeId):aF→AV→List AV→List AV→aF×AV
 | m,v,_,[]=>(m,v)
 | m,v,cs,x::xs=>gY el (yI el m v (cs++[x])) (.sl m.next 0 (cs.length+1) (cs.length+1) false) (cs++[x]) xs
theorem asE {el:TypeId} {m:aF} {v:AV} {cs:List AV}:(yI el m v cs).next=m.next+1:=by
 unfold yI;split <;> rfl
theorem asF {el:TypeId} {m:aF} {v:AV} {cs:List AV} (x:AV):Own (yI el m v (cs++[x])) el 1 (.sl m.next 0 (cs.length+1) (cs.length+1) false) (cs.length+1) (cs++[x]):=by
 refine ⟨.inr ⟨m.next,rfl, ?_,by rw [asE];omega,by omega⟩,by simp⟩;unfold yI;split
 ·rw [cF,if_pos (by rw [fC])]
 ·rw [cF,if_pos rfl]
theorem ahe {el:TypeId}:∀ (a ys:List AV) (m:aF) (v:AV) (cs:List AV),gY el m v cs (a++ys)=gY el (gY el m v cs a).1 (gY el m v cs a).2 (cs++a) ys
 | [],ys,m,v,cs=>by simp [gY]
 | x::a,ys,m,v,cs=>by
  rw [List.cons_append,gY,ahe a ys,gY,azW];rfl
theorem sY {el:TypeId}:∀ (a:List AV) (m:aF) (v:AV) (cs:List AV),Own m el 1 v cs.length cs→Own (gY el m v cs a).1 el 1 (gY el m v cs a).2 (cs.length+a.length) (cs++a)
 | [],m,v,cs,h=>by simpa [gY] using h
 | x::a,m,v,cs,h=>by
  rw [gY];have:=sY a (yI el m v (cs++[x])) _ (cs++[x]) (by rw [aA2];exact asF x);rw [aA2,azW] at this;rw [List.length_cons,show cs.length+(a.length+1)=cs.length+[x].length+a.length by simp;omega];exact this
theorem ami {P:Program} {el:TypeId} {m:aF} {v x y:AV} {n:Nat} {zl:List Value} {cs:List AV} {yb:Nat} (a:bK P el = .flat) (i:Own m el 1 v n cs) (h:bX P el=some 1) (g:jN P el=some yb) (f:gF P el=some zl) (e:zl.length=1) (j:eM P el 1 m x=some ([y],1)) (d:(n+1)*yb≤140737488355328) (k:n+1≤140737488355328) :
 fR P el m v x=some ⟨.sl m.next 0 (cs.length+1) (cs.length+1) false,yI el m v (cs++[y]),none⟩:=by
 have p:=i.len;rcases i.form with ⟨rfl,rfl,rfl⟩ | ⟨b,rfl,o,l,q⟩
 ·simp only [fR,h,g,f,j,aAk,dR,aW];simp at d k;simp [bI,e,d,a,yI,cG]
 ·have c:cs.length=n:=by omega
  simp only [fR,h,g,f,j,dR,o,a,aAk,c];simp [xT,bI,e,d,yI,cG];omega
end Go.Tw