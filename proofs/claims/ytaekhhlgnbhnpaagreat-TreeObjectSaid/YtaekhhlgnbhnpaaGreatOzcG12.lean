import Derived.Test.YtaekhhlgnbhnpaaGreatOzcG11
import Derived.Laws.StructEq
set_option linter.unusedVariables false
set_option linter.unusedSimpArgs false
namespace Go.Tw
open Go
theorem akO {α β:Type} (P:Program):∀ (s:Sem α) (f:α→Sem β),cT P (s.bind f)=(cT P s).bind fun a=>cT P (f a)
 | .pure a,f=>rfl
 | .program k,f=>by
  show cT P ((k P).bind f)=_
  rw [akO P (k P) f]
  rfl
 | .load _ _ _,f=>rfl
 | .store _ _ _ _,f=>rfl
 | .new _ _,f=>rfl
 | .shape _ _,f=>rfl
 | .freeze _ _ _,f=>rfl
 | .frozen _ _,f=>rfl
 | .getObj _ _,f=>rfl
 | .setObj _ _ _,f=>rfl
 | .choose _ _,f=>rfl
 | .sys _ _,f=>rfl
 | .mark _ _,f=>rfl
 | .halt _,f=>rfl
theorem pZ {α β:Type} (P:Program) (s:Sem α) (f:α→Sem β):cT P (s >>= f)=(cT P s).bind fun a=>cT P (f a):=akO P s f
theorem vP {α:Type} (P:Program) (a:α):cT P (Pure.pure a:Sem α)=some a:=rfl
theorem akP (P:Program):cT P program=some P:=rfl
def tJ (P : Program) (xs ys : Array Value) : List Field → Option Bool
 | [] => some true
 | f :: fs => if f.name ≠ "_" then
     (match P.underlying f.type, xs[f.offset]?, ys[f.offset]? with
     | some (.int _), some (.int k a), some (.int k' b) => if k = k' then (if a = b then tJ P xs ys fs else some false) else none
     | _, _, _ => none)
   else tJ P xs ys fs
theorem agb {P:Program} {t:TypeId} {d:TypeDesc} (h:P.underlying t=some d):cT P (underlying t)=some d:=by
 simp only [underlying,pZ]
 show (some P).bind _=_
 simp [h,vP]
theorem aqR {P:Program} {t:TypeId} {k:IntKind} (h:P.underlying t=some (.int k)):cT P (isAgg t)=some false:=by
 unfold isAgg
 simp only [pZ,agb h]
 rfl
theorem akQ {P:Program} {t:TypeId} {k:IntKind} (h:P.underlying t=some (.int k)) {cs:Array Value} {off:Nat} {v:Value} (hv:cs[off]? = some v):cT P (part t cs off)=some v:=by
 simp only [part,pZ,aqR h,hv]
 rfl
theorem aqS {P:Program} {d:Nat} {t:TypeId} {k k':IntKind} {a b:Int} (h:P.underlying t=some (.int k')):cT P (Op.equalIn (d+1) t (.int k a) (.int k b))=some (a == b):=by
 simp [Op.equalIn,pZ,agb h,vP]
def xF (P:Program) (t:TypeId):List Field:=match P.underlying t with | some (.struct fs)=>fs.toList | _=>[]
theorem aqT {P : Program} {d : Nat} {xs ys : Array Value} : ∀ (fs : List Field) (b : Bool), tJ P xs ys fs = some b →
   cT P (do
     let r ← forIn fs ((none, ()) : Option Bool × Unit) fun f r =>
       if f.name ≠ "_" then do
         let a ← part f.type xs f.offset
         let b ← part f.type ys f.offset
         let c ← Op.equalIn (d + 1) f.type a b
         if (!c) = true then pure (ForInStep.done (some false, ())) else pure (ForInStep.yield (none, ()))
       else pure (ForInStep.yield (none, ()))
     match r.1 with
     | some a => pure a
     | none => pure true : Sem Bool) = some b := by
 intro fs
 induction fs with
 | nil => intro b h; simp only [tJ] at h; cases h; simp [pZ, vP]
 | cons f fs ih =>
   intro b h
   simp only [List.forIn_cons, pZ] at ih ⊢
   unfold tJ at h
   by_cases hn : f.name ≠ "_"
   · rw [if_pos hn] at h
     split at h
     · rename_i k0 k a k' c hu hx hy
       by_cases hk : k = k'
       · subst hk
         rw [if_pos rfl] at h
         simp only [if_pos hn, pZ, akQ hu hx, akQ hu hy, Option.bind_some, aqS hu]
         by_cases hac : a = c
         · subst hac
           rw [if_pos rfl] at h
           simp only [beq_self_eq_true, Bool.not_true, Bool.false_eq_true, if_false, vP, Option.bind_some]
           exact ih b h
         · rw [if_neg hac] at h
           cases h
           simp [hac, vP]
       · rw [if_neg hk] at h; cases h
     · cases h
   · rw [if_neg hn] at h
     simp only [if_neg hn, vP, Option.bind_some]
     exact ih b h
theorem akR {P:Program} {t:TypeId} {xs ys:Array Value} {b:Bool} (ht:(match P.underlying t with | some (.struct _)=>true | _=>false)=true) (hp:P.stoodInHeld t=false) (h:tJ P xs ys (xF P t)=some b):cT P (Op.equal t (.agg xs) (.agg ys))=some b:=by
 obtain ⟨fs,hfs⟩:∃ fs,P.underlying t=some (.struct fs):=by
  split at ht
  ·exact ⟨_,by assumption⟩
  ·cases ht
 have hF:xF P t=fs.toList:=by unfold xF;rw [hfs]
 rw [hF] at h
 have:=aqT (d:=9998) fs.toList b h
 unfold Op.equal Op.maxDepth
 rw [show (10000:Nat)=9998+1+1 from rfl]
 rw [Op.equalIn.eq_def]
 simp only [pZ,agb hfs,Option.bind_some]
 simp only [akP,Option.bind_some,hp,Bool.false_eq_true,if_false]
 rw [←Array.forIn_toList]
 simp only [pZ] at this ⊢
 refine Eq.trans ?_ this
 congr 1
 funext r
 obtain ⟨o,u⟩:=r
 cases o <;> rfl
theorem agc {P:Program} {t:TypeId} {x y:Operand} {a b:List AV} {u v:List Value} {c:Bool} (hu:qM a=some u) (hv:qM b=some v) (ht:(match P.underlying t with | some (.struct _)=>true | _=>false)=true) (hp:P.stoodInHeld t=false) (hm:P.eqGuardType P.depth t=false) (h:tJ P u.toArray v.toArray (xF P t)=some c):dV P .eql t x y (.agg a) (.agg b)=some (.val (.bool c))∧dV P .neq t x y (.agg a) (.agg b)=some (.val (.bool !c)):=by
 have he:=akR ht hp h
 have hg:∀ op,cT P (eqGuard op t x y (.agg u.toArray) (.agg v.toArray))=some ():=fun op=>by
  cases op <;> (first | rfl | (unfold eqGuard;simp [pZ,akP,hm,vP]))
 constructor
 ·simp only [dV,iZ,hu,hv,Option.map_some,Option.bind_some,qN,pZ,hg]
  simp only [binOp,pZ,he,Option.bind_some,vP]
  rfl
 ·simp only [dV,iZ,hu,hv,Option.map_some,Option.bind_some,qN,pZ,hg]
  simp only [binOp,pZ,he,Option.bind_some,vP]
  rfl
structure mN (m:aF) (v:AV) (n:Nat) (cells:List AV):Prop where
 form:bC v n cells∨∃ b off c f k,v = .sl b off n c f∧m.at_ b=some k∧(k.kind = .flat∨(k.kind = .var∧eB k.cells=true))∧k.cells.drop off=cells∧n≤c
structure mO (m0 m:aF):Prop where
 mm:m.mm=m0.mm
 next:m0.next≤m.next
 at_:∀ j k,m0.at_ j=some k→j < m0.next→∃ wr,m.at_ j=some ⟨k.cells,k.el,k.kind,wr⟩
theorem mO.refl (m:aF):mO m m:=⟨rfl,Nat.le_refl _,fun j k h _=>⟨k.wr,h⟩⟩
theorem mO.trans {a b c:aF} (h:mO a b) (h':mO b c):mO a c:=⟨h'.mm.trans h.mm,Nat.le_trans h.next h'.next,fun j k hj hl=>by
 obtain ⟨wr,h1⟩:=h.at_ j k hj hl
 obtain ⟨wr',h2⟩:=h'.at_ j _ h1 (Nat.lt_of_lt_of_le hl h.next)
 exact ⟨wr',h2⟩⟩
structure lC (m0 m:aF):Prop where
 mm:m.mm=m0.mm
 next:m0.next≤m.next
 at_:∀ j k,m0.at_ j=some k→j < m0.next→m.at_ j=some k
theorem lC.refl (m:aF):lC m m:=⟨rfl,Nat.le_refl _,fun j k h _=>h⟩
theorem lC.trans {a b c:aF} (h:lC a b) (h':lC b c):lC a c:=⟨h'.mm.trans h.mm,Nat.le_trans h.next h'.next,fun j k hj hl=>h'.at_ j k (h.at_ j k hj hl) (Nat.lt_of_lt_of_le hl h.next)⟩
theorem lC.w {a b:aF} (h:lC a b):mO a b:=⟨h.mm,h.next,fun j k hj hl=>⟨k.wr,h.at_ j k hj hl⟩⟩
def l9 (m0:aF) (v:AV):Prop:=∀ j,cF v=some j→m0.next≤j
theorem y5 (m0:aF):l9 m0 aO:=fun j h=>by cases h
theorem l9.mono {m0 m1:aF} {v:AV} (h:l9 m1 v) (hl:m0.next≤m1.next):l9 m0 v:=fun j hj=>Nat.le_trans hl (h j hj)
def uG (m0:aF) (v:AV):Prop:=∀ b off n c f,v = .sl b off n c f→b < m0.next
theorem uG.nil (m0:aF):uG m0 aO:=fun b off n c f h=>by cases h
theorem uG.rd {m0:aF} {v:AV} {n:Nat} {cs:List AV} (h:bC v n cs):uG m0 v:=fun b off n' c f e=>by
 rcases h.form with ⟨rfl,_⟩ | ⟨_,_,rfl,_⟩ | ⟨_,_,rfl,_⟩ <;> cases e
section
variable {P:Program} {m:aF} {v:AV} {n:Nat} {cells:List AV}
theorem aqU (h:bC v n cells):mN m v n cells:=⟨.inl h⟩
theorem y6 {kd:fW} {el:TypeId} {sz:Nat} (h:cO kd m el sz v n cells) (hk:kd = .flat∨(kd = .var∧eB cells=true)):mN m v n cells:=by
 rcases h.form with ⟨rfl,rfl,rfl⟩ | ⟨b,rfl,hb,_,_⟩
 ·exact ⟨.inl ⟨.inl ⟨rfl,rfl⟩⟩⟩
 ·exact ⟨.inr ⟨b,0,n,false,_,rfl,hb,hk,rfl,Nat.le_refl _⟩⟩
theorem agd {kd:fW} {el:TypeId} {sz:Nat} (h:cO kd m el sz v n cells):uG m v:=fun b off n' c f e=>by
 rcases h.form with ⟨rfl,_⟩ | ⟨b',rfl,_,hlt,_⟩
 ·cases e
 ·cases e;exact hlt
theorem mN.keep {m':aF} (h:mN m v n cells) (hk:mO m m') (ho:uG m v):mN m' v n cells:=by
 rcases h.form with h | ⟨b,off,c,f,k,rfl,h2,h3,h4,h5⟩
 ·exact ⟨.inl h⟩
 ·obtain ⟨wr,h6⟩:=hk.at_ b k h2 (ho _ _ _ _ _ rfl)
  exact ⟨.inr ⟨b,off,c,f,_,rfl,h6,h3,h4,h5⟩⟩
theorem mN.fz (h:mN m v n cells):∃ av m1,fz m v=some (av,m1)∧bC av n cells∧m1.mm=m.mm∧m1.next=m.next∧∀ j k,m.at_ j=some k→∃ wr,m1.at_ j=some ⟨k.cells,k.el,k.kind,wr⟩∧((∀ off n c f,v ≠ .sl j off n c f)→wr=k.wr):=by
 rcases h.form with h | ⟨b,off,c,f,k',rfl,h2,h3,rfl,h5⟩
 ·refine ⟨v,m, ?_,h,rfl,rfl,fun b k hb=>⟨k.wr,hb,fun _=>rfl⟩⟩
  rcases h.form with ⟨rfl,_⟩ | ⟨_,_,rfl,_⟩ | ⟨_,_,rfl,_⟩ <;> rfl
 ·obtain ⟨kc,ke,kk,kw⟩:=k'
  have hput:∀ j k,m.at_ j=some k→∃ wr,(m.put b (some ⟨kc,ke,kk,false⟩)).at_ j=some ⟨k.cells,k.el,k.kind,wr⟩∧((∀ o n' c' f',AV.sl b off n c f ≠ .sl j o n' c' f')→wr=k.wr):=fun j k hj=>by
   by_cases e:j=b
   ·subst e
    rw [h2] at hj
    cases hj
    exact ⟨false,by simp [aF.put],fun hh=>absurd rfl (hh _ _ _ _)⟩
   ·exact ⟨k.wr,by simp [aF.put,e,hj],fun _=>rfl⟩
  rcases h3 with h3 | ⟨h3,h6⟩
  ·simp only at h3
   subst h3
   exact ⟨.tree n c (kc.drop off) f,m.put b (some ⟨kc,ke,.flat,false⟩),by simp [Go.Tw.fz,h2],⟨.inr (.inr ⟨c,f,rfl,h5⟩)⟩,rfl,rfl,hput⟩
  ·simp only at h3 h6
   subst h3
   have h6:=(pW (m:=m) 3 kc h6).2
   exact ⟨.tree n c (kc.drop off) f,m.put b (some ⟨kc,ke,.var,false⟩),by simp [Go.Tw.fz,h2,h6],⟨.inr (.inr ⟨c,f,rfl,h5⟩)⟩,rfl,rfl,hput⟩
theorem mN.lend (h : mN m v n cells) (d : Nat) : ∃ av, lend (d + 1) m v = some av ∧ bC av n cells := by
 rcases h.form with h | ⟨b, off, c, f, k', rfl, h2, h3, rfl, h5⟩
 · exact ⟨v, (vK (d + 1) v h.plain).1, h⟩
 · rcases h3 with h3 | ⟨h3, h6⟩
   · refine ⟨.tree n c (k'.cells.drop off) f, ?_, ⟨.inr (.inr ⟨c, f, rfl, h5⟩)⟩⟩
     unfold Go.Tw.lend
     simp [h2, h3]
   · refine ⟨.tree n c (k'.cells.drop off) f, ?_, ⟨.inr (.inr ⟨c, f, rfl, h5⟩)⟩⟩
     have hp : eB (k'.cells.drop off) = true := by
       have : ∀ (l : List AV) (i : Nat), eB l = true → eB (l.drop i) = true := by
         intro l
         induction l with
         | nil => intro i h; simp [eB]
         | cons a l ih =>
           intro i h
           cases i with
           | zero => exact h
           | succ i =>
             simp only [eB, Bool.and_eq_true] at h
             exact ih i h.2
       exact this _ _ h6
     unfold Go.Tw.lend
     simp [h2, h3, (pW (m := m) d _ hp).1]
theorem mN.lend1 (h:mN m v n cells):∃ av,eM 3 m [v]=some [av]∧bC av n cells:=by
 obtain ⟨av,h1,h2⟩:=h.lend 2
 refine ⟨av, ?_,h2⟩
 unfold eM
 rw [h1]
 unfold eM
 rfl
theorem mN.lend2 {a:AV} (ha:plain a=true) (h:mN m v n cells):∃ av,eM 3 m [a,v]=some [a,av]∧bC av n cells:=by
 obtain ⟨av,h1,h2⟩:=h.lend1
 refine ⟨av, ?_,h2⟩
 unfold eM
 rw [(vK 3 a ha).1,h1]
 rfl
theorem akS {f:FuncId} {args:List AV} {r:gJ} (h:fA P f args aF.empty fun v m=>iT P m v=some r):aX P f args r:=⟨h.1,fun w I vs hI hsz hv=>(h.2 w I dL vs ⟨fun b k g o h=>by simp [aF.empty] at h,fun b b' k k' g o o' h=>by simp [aF.empty] at h,hI,j3.none⟩ hsz hv (fun _ _=>rfl)).mono fun en w'=>by
 rintro ⟨v,rv,m',I',ρ',rfl,hk,q1,q2,q3,_⟩
 obtain ⟨ρ'',h5,h6,h7⟩:=ais q2 q3 q1 hk
 exact ⟨v,I',ρ'',rfl,h5,h6,h7⟩⟩
theorem cO.frz {kd:fW} {el:TypeId} {sz n':Nat} {u:AV} {cs:List AV} {m1:aF} (h:cO kd m el sz u n' cs) (hn:m1.next=m.next) (hk:∀ j k,m.at_ j=some k→∃ wr,m1.at_ j=some ⟨k.cells,k.el,k.kind,wr⟩∧((∀ off n c f,v ≠ .sl j off n c f)→wr=k.wr)) (hne:∀ b,cF u=some b→∀ off n c f,v ≠ .sl b off n c f):cO kd m1 el sz u n' cs:=by
 refine h.keep (by omega) fun b k hb hat => ?_
 obtain ⟨wr,h1,h2⟩:=hk b k hat
 rw [h1,h2 (hne b hb)]
theorem aqV {m0 m1:aF} (h:mO m0 m) (hm:m1.mm=m.mm) (hn:m1.next=m.next) (hk:∀ j k,m.at_ j=some k→∃ wr,m1.at_ j=some ⟨k.cells,k.el,k.kind,wr⟩∧((∀ off n c f,v ≠ .sl j off n c f)→wr=k.wr)):mO m0 m1 :=
 ⟨hm.trans h.mm,by rw [hn];exact h.next,fun j k hj hl=>by
  obtain ⟨wr,h1⟩:=h.at_ j k hj hl
  obtain ⟨wr',h2,_⟩:=hk j _ h1
  exact ⟨wr',h2⟩⟩
end
theorem akT {P : Program} {kd : fW} {el : TypeId} {m0 m : aF} {v x : AV} {K : bY → Prop} {sz y n cnt : Nat} {zl : List Value} {cells new : List AV} (hkd : bW P el = kd) (ho : cO kd m el sz v n cells) (h1 : cH P el = some sz) (h2 : hY P el = some y) (h3 : eX P el = some zl) (h4 : zl.length = sz) (h5 : eZ P el sz m x = some (new, cnt)) (h6 : new.length = cnt * sz) (h7 : (n + cnt) * y ≤ 140737488355328) (h8 : n + cnt ≤ 140737488355328) (hk : lC m0 m) (hn : l9 m0 v)
   (hK : ∀ v' m', cO kd m' el sz v' (n + cnt) (cells ++ new) → lC m0 m' → l9 m0 v' → K ⟨v', m', none⟩) : eG (dW P el m v x) K :=
 uF hkd ho h1 h2 h3 h4 h5 h6 h7 h8 fun v' m' a b c d e => hK v' m' a ⟨e.trans hk.mm, Nat.le_trans hk.next b, fun j k hj hl => c j k (hk.at_ j k hj hl) (Nat.lt_of_lt_of_le hl hk.next) fun hb => by have := hn j hb; omega⟩ fun j hj => by
   rcases d j hj with h | h
   · rw [h]; exact hk.next
   · exact hn j h
theorem adS {P : Program} {kd : fW} {el : TypeId} {m0 m : aF} {v x : AV} {K : bY → Prop} {sz y n cnt : Nat} {zl : List Value} {cells new : List AV} (hkd : bW P el = kd) (ho : cO kd m el sz v n cells) (h1 : cH P el = some sz) (h2 : hY P el = some y) (h3 : eX P el = some zl) (h4 : zl.length = sz) (h5 : eZ P el sz m x = some (new, cnt)) (h6 : new.length = cnt * sz) (h7 : (n + cnt) * y ≤ 140737488355328) (h8 : n + cnt ≤ 140737488355328) (hk : mO m0 m) (hn : l9 m0 v)
   (hK : ∀ v' m', cO kd m' el sz v' (n + cnt) (cells ++ new) → mO m0 m' → l9 m0 v' → m.next ≤ m'.next → (∀ j, cF v' = some j → j = m.next ∨ cF v = some j) → (∀ j k, m.at_ j = some k → j < m.next → cF v ≠ some j → m'.at_ j = some k) → K ⟨v', m', none⟩) : eG (dW P el m v x) K :=
 uF hkd ho h1 h2 h3 h4 h5 h6 h7 h8 fun v' m' a b c d e => hK v' m' a ⟨e.trans hk.mm, Nat.le_trans hk.next b, fun j k hj hl => by
   obtain ⟨wr, h9⟩ := hk.at_ j k hj hl
   exact ⟨wr, c j _ h9 (Nat.lt_of_lt_of_le hl hk.next) fun hb => by have := hn j hb; omega⟩⟩ (fun j hj => by
   rcases d j hj with h | h
   · rw [h]; exact hk.next
   · exact hn j h) b d c
theorem cO.beside {kd:fW} {m m':aF} {el:TypeId} {sz n:Nat} {u v v':AV} {cells:List AV} (h:cO kd m el sz u n cells) (hn:m.next≤m'.next) (hd:∀ j,cF v'=some j→j=m.next∨cF v=some j) (hk:∀ j k,m.at_ j=some k→j < m.next→cF v≠some j→m'.at_ j=some k) (hne:∀ b,cF u=some b→cF v≠some b):cO kd m' el sz u n cells∧∀ b,cF u=some b→cF v'≠some b:=by
 have hlt:∀ b,cF u=some b→b < m.next:=fun b hb=>by
  rcases h.form with ⟨rfl,_⟩ | ⟨b',rfl,_,hlt,_⟩
  ·cases hb
  ·injection hb with hb;omega
 refine ⟨h.keep hn fun b k hb hat=>hk b k hat (hlt b hb) (hne b hb),fun b hb hb' => ?_⟩
 rcases hd b hb' with h1 | h1
 ·have:=hlt b hb;omega
 ·exact hne b hb h1
def vQ (el:TypeId) (m:aF) (v:AV) (cs:List AV):aF:=match cF v with
 | some b=>(m.put b none).push ⟨cs,el,.flat,true⟩
 | none=>m.push ⟨cs,el,.flat,true⟩
def i8 (el:TypeId):aF→AV→List AV→List AV→aF×AV
 | m,v,_,[]=>(m,v)
 | m,v,cs,x::xs=>i8 el (vQ el m v (cs++[x])) (.sl m.next 0 (cs.length+1) (cs.length+1) false) (cs++[x]) xs
theorem aqW {el:TypeId} {m:aF} {v:AV} {cs:List AV}:(vQ el m v cs).next=m.next+1:=by
 unfold vQ;split <;> rfl
theorem aqX {el:TypeId} {m:aF} {v:AV} {cs:List AV} (x:AV):cY (vQ el m v (cs++[x])) el 1 (.sl m.next 0 (cs.length+1) (cs.length+1) false) (cs.length+1) (cs++[x]):=by
 refine ⟨.inr ⟨m.next,rfl, ?_,by rw [aqW];omega,by omega⟩,by simp⟩
 unfold vQ
 split
 ·rw [aH,if_pos (by rw [aZ])]
 ·rw [aH,if_pos rfl]
theorem akU {el:TypeId}:∀ (xs ys:List AV) (m:aF) (v:AV) (cs:List AV),i8 el m v cs (xs++ys)=i8 el (i8 el m v cs xs).1 (i8 el m v cs xs).2 (cs++xs) ys
 | [],ys,m,v,cs=>by simp [i8]
 | x::xs,ys,m,v,cs=>by
  rw [List.cons_append,i8,akU xs ys,i8,List.append_assoc]
  rfl
theorem vR {el:TypeId}:∀ (xs:List AV) (m:aF) (v:AV) (cs:List AV),cY m el 1 v cs.length cs→cY (i8 el m v cs xs).1 el 1 (i8 el m v cs xs).2 (cs.length+xs.length) (cs++xs)
 | [],m,v,cs,h=>by simpa [i8] using h
 | x::xs,m,v,cs,h=>by
  rw [i8]
  have:=vR xs (vQ el m v (cs++[x])) _ (cs++[x]) (by rw [List.length_append];exact aqX x)
  rw [List.length_append,List.append_assoc] at this
  rw [List.length_cons,show cs.length+(xs.length+1)=cs.length+[x].length+xs.length by simp;omega]
  exact this
theorem aqY {P : Program} {el : TypeId} {m : aF} {v x y : AV} {n : Nat} {zl : List Value} {cs : List AV} {yb : Nat} (hkd : bW P el = .flat) (ho : cY m el 1 v n cs) (h1 : cH P el = some 1) (h2 : hY P el = some yb) (h3 : eX P el = some zl) (h4 : zl.length = 1) (h5 : eZ P el 1 m x = some ([y], 1)) (h7 : (n + 1) * yb ≤ 140737488355328) (h8 : n + 1 ≤ 140737488355328) :
   dW P el m v x = some ⟨.sl m.next 0 (cs.length + 1) (cs.length + 1) false, vQ el m v (cs ++ [y]), none⟩ := by
 have hl := ho.len
 rcases ho.form with ⟨rfl, rfl, rfl⟩ | ⟨b, rfl, hb, hlt, hn⟩
 · simp only [dW, h1, h2, h3, h5, Option.bind_some, dR, aO]
   simp at h7 h8
   simp [bO, h4, h7, h8, hkd, vQ, cF]
 · have hlen : cs.length = n := by omega
   simp only [dW, h1, h2, h3, h5, dR, hb, hkd, Option.bind_some, hlen]
   simp [vA, bO, h4, h7, h8, hlen, vQ, cF, Nat.ne_of_gt hn]
   omega
end Go.Tw