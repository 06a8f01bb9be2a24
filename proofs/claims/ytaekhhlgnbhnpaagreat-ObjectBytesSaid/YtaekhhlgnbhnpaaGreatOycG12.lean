import Derived.Test.YtaekhhlgnbhnpaaGreatOycG11
import Derived.Laws.StructEq
set_option linter.unusedVariables false
set_option linter.unusedSimpArgs false
namespace Go.Tw
open Go
theorem aj3 {α β:Type} (P:Program):∀ (s:Sem α) (f:α→Sem β),cN P (s.bind f)=(cN P s).bind fun a=>cN P (f a)
 | .pure a,f=>rfl
 | .program k,f=>by
  show cN P ((k P).bind f)=_
  rw [aj3 P (k P) f]
  rfl
 | .load _ _ _,f=>rfl
 | .store _ _ _ _,f=>rfl
 | .new _ _,f=>rfl
 | .shape _ _,f=>rfl
 | .freeze _ _ _,f=>rfl
 | .frozen _ _,f=>rfl
 | .getObj _ _,f=>rfl
 | .setObj _ _ _,f=>rfl
 | .choose _ _,f=>rfl
 | .sys _ _,f=>rfl
 | .mark _ _,f=>rfl
 | .halt _,f=>rfl
theorem o9 {α β:Type} (P:Program) (s:Sem α) (f:α→Sem β):cN P (s >>= f)=(cN P s).bind fun a=>cN P (f a):=aj3 P s f
theorem uK {α:Type} (P:Program) (a:α):cN P (Pure.pure a:Sem α)=some a:=rfl
theorem aj4 (P:Program):cN P program=some P:=rfl
def uL (P : Program) (xs ys : Array Value) : List Field → Option Bool
 | [] => some true
 | f :: fs => if f.name ≠ "_" then
     (match P.underlying f.type, xs[f.offset]?, ys[f.offset]? with
     | some (.int _), some (.int k a), some (.int k' b) => if k = k' then (if a = b then uL P xs ys fs else some false) else none
     | _, _, _ => none)
   else uL P xs ys fs
theorem afC {P:Program} {t:TypeId} {d:TypeDesc} (h:P.underlying t=some d):cN P (underlying t)=some d:=by
 simp only [underlying,o9]
 show (some P).bind _=_
 simp [h,uK]
theorem apI {P:Program} {t:TypeId} {k:IntKind} (h:P.underlying t=some (.int k)):cN P (isAgg t)=some false:=by
 unfold isAgg
 simp only [o9,afC h]
 rfl
theorem aj5 {P:Program} {t:TypeId} {k:IntKind} (h:P.underlying t=some (.int k)) {cs:Array Value} {off:Nat} {v:Value} (hv:cs[off]? = some v):cN P (part t cs off)=some v:=by
 simp only [part,o9,apI h,hv]
 rfl
theorem apJ {P:Program} {d:Nat} {t:TypeId} {k k':IntKind} {a b:Int} (h:P.underlying t=some (.int k')):cN P (Op.equalIn (d+1) t (.int k a) (.int k b))=some (a == b):=by
 simp [Op.equalIn,o9,afC h,uK]
def aad (P:Program) (t:TypeId):List Field:=match P.underlying t with | some (.struct fs)=>fs.toList | _=>[]
theorem apK {P : Program} {d : Nat} {xs ys : Array Value} : ∀ (fs : List Field) (b : Bool), uL P xs ys fs = some b →
   cN P (do
     let r ← forIn fs ((none, ()) : Option Bool × Unit) fun f r =>
       if f.name ≠ "_" then do
         let a ← part f.type xs f.offset
         let b ← part f.type ys f.offset
         let c ← Op.equalIn (d + 1) f.type a b
         if (!c) = true then pure (ForInStep.done (some false, ())) else pure (ForInStep.yield (none, ()))
       else pure (ForInStep.yield (none, ()))
     match r.1 with
     | some a => pure a
     | none => pure true : Sem Bool) = some b := by
 intro fs
 induction fs with
 | nil => intro b h; simp only [uL] at h; cases h; simp [o9, uK]
 | cons f fs ih =>
   intro b h
   simp only [List.forIn_cons, o9] at ih ⊢
   unfold uL at h
   by_cases hn : f.name ≠ "_"
   · rw [if_pos hn] at h
     split at h
     · rename_i k0 k a k' c hu hx hy
       by_cases hk : k = k'
       · subst hk
         rw [if_pos rfl] at h
         simp only [if_pos hn, o9, aj5 hu hx, aj5 hu hy, Option.bind_some, apJ hu]
         by_cases hac : a = c
         · subst hac
           rw [if_pos rfl] at h
           simp only [beq_self_eq_true, Bool.not_true, Bool.false_eq_true, if_false, uK, Option.bind_some]
           exact ih b h
         · rw [if_neg hac] at h
           cases h
           simp [hac, uK]
       · rw [if_neg hk] at h; cases h
     · cases h
   · rw [if_neg hn] at h
     simp only [if_neg hn, uK, Option.bind_some]
     exact ih b h
theorem aj6 {P:Program} {t:TypeId} {xs ys:Array Value} {b:Bool} (ht:(match P.underlying t with | some (.struct _)=>true | _=>false)=true) (hp:P.stoodInHeld t=false) (h:uL P xs ys (aad P t)=some b):cN P (Op.equal t (.agg xs) (.agg ys))=some b:=by
 obtain ⟨fs,hfs⟩:∃ fs,P.underlying t=some (.struct fs):=by
  split at ht
  ·exact ⟨_,by assumption⟩
  ·cases ht
 have hF:aad P t=fs.toList:=by unfold aad;rw [hfs]
 rw [hF] at h
 have:=apK (d:=9998) fs.toList b h
 unfold Op.equal Op.maxDepth
 rw [show (10000:Nat)=9998+1+1 from rfl]
 rw [Op.equalIn.eq_def]
 simp only [o9,afC hfs,Option.bind_some]
 simp only [aj4,Option.bind_some,hp,Bool.false_eq_true,if_false]
 rw [←Array.forIn_toList]
 simp only [o9] at this ⊢
 refine Eq.trans ?_ this
 congr 1
 funext r
 obtain ⟨o,u⟩:=r
 cases o <;> rfl
theorem apL {P:Program} {t:TypeId} {x y:Operand} {a b:List AV} {u v:List Value} {c:Bool} (hu:p9 a=some u) (hv:p9 b=some v) (ht:(match P.underlying t with | some (.struct _)=>true | _=>false)=true) (hp:P.stoodInHeld t=false) (hm:P.eqGuardType P.depth t=false) (h:uL P u.toArray v.toArray (aad P t)=some c):dP P .eql t x y (.agg a) (.agg b)=some (.val (.bool c))∧dP P .neq t x y (.agg a) (.agg b)=some (.val (.bool !c)):=by
 have he:=aj6 ht hp h
 have hg:∀ op,cN P (eqGuard op t x y (.agg u.toArray) (.agg v.toArray))=some ():=fun op=>by
  cases op <;> (first | rfl | (unfold eqGuard;simp [o9,aj4,hm,uK]))
 constructor
 ·simp only [dP,iV,hu,hv,Option.map_some,Option.bind_some,qA,o9,hg]
  simp only [binOp,o9,he,Option.bind_some,uK]
  rfl
 ·simp only [dP,iV,hu,hv,Option.map_some,Option.bind_some,qA,o9,hg]
  simp only [binOp,o9,he,Option.bind_some,uK]
  rfl
structure mJ (m:aH) (v:AV) (n:Nat) (cells:List AV):Prop where
 form:bD v n cells∨∃ b off c f k,v = .sl b off n c f∧m.at_ b=some k∧(k.kind = .flat∨(k.kind = .var∧dX k.cells=true))∧k.cells.drop off=cells∧n≤c
structure mK (m0 m:aH):Prop where
 mm:m.mm=m0.mm
 next:m0.next≤m.next
 at_:∀ j k,m0.at_ j=some k→j < m0.next→∃ wr,m.at_ j=some ⟨k.cells,k.el,k.kind,wr⟩
theorem mK.refl (m:aH):mK m m:=⟨rfl,Nat.le_refl _,fun j k h _=>⟨k.wr,h⟩⟩
theorem mK.trans {a b c:aH} (h:mK a b) (h':mK b c):mK a c:=⟨h'.mm.trans h.mm,Nat.le_trans h.next h'.next,fun j k hj hl=>by
 obtain ⟨wr,h1⟩:=h.at_ j k hj hl
 obtain ⟨wr',h2⟩:=h'.at_ j _ h1 (Nat.lt_of_lt_of_le hl h.next)
 exact ⟨wr',h2⟩⟩
structure kT (m0 m:aH):Prop where
 mm:m.mm=m0.mm
 next:m0.next≤m.next
 at_:∀ j k,m0.at_ j=some k→j < m0.next→m.at_ j=some k
theorem kT.refl (m:aH):kT m m:=⟨rfl,Nat.le_refl _,fun j k h _=>h⟩
theorem kT.trans {a b c:aH} (h:kT a b) (h':kT b c):kT a c:=⟨h'.mm.trans h.mm,Nat.le_trans h.next h'.next,fun j k hj hl=>h'.at_ j k (h.at_ j k hj hl) (Nat.lt_of_lt_of_le hl h.next)⟩
theorem kT.w {a b:aH} (h:kT a b):mK a b:=⟨h.mm,h.next,fun j k hj hl=>⟨k.wr,h.at_ j k hj hl⟩⟩
def lY (m0:aH) (v:AV):Prop:=∀ j,cP v=some j→m0.next≤j
theorem x5 (m0:aH):lY m0 aP:=fun j h=>by cases h
theorem lY.mono {m0 m1:aH} {v:AV} (h:lY m1 v) (hl:m0.next≤m1.next):lY m0 v:=fun j hj=>Nat.le_trans hl (h j hj)
def tF (m0:aH) (v:AV):Prop:=∀ b off n c f,v = .sl b off n c f→b < m0.next
theorem tF.nil (m0:aH):tF m0 aP:=fun b off n c f h=>by cases h
theorem tF.rd {m0:aH} {v:AV} {n:Nat} {cs:List AV} (h:bD v n cs):tF m0 v:=fun b off n' c f e=>by
 rcases h.form with ⟨rfl,_⟩ | ⟨_,_,rfl,_⟩ | ⟨_,_,rfl,_⟩ <;> cases e
section
variable {P:Program} {m:aH} {v:AV} {n:Nat} {cells:List AV}
theorem apM (h:bD v n cells):mJ m v n cells:=⟨.inl h⟩
theorem x6 {kd:fO} {el:TypeId} {sz:Nat} (h:cH kd m el sz v n cells) (hk:kd = .flat∨(kd = .var∧dX cells=true)):mJ m v n cells:=by
 rcases h.form with ⟨rfl,rfl,rfl⟩ | ⟨b,rfl,hb,_,_⟩
 ·exact ⟨.inl ⟨.inl ⟨rfl,rfl⟩⟩⟩
 ·exact ⟨.inr ⟨b,0,n,false,_,rfl,hb,hk,rfl,Nat.le_refl _⟩⟩
theorem afD {kd:fO} {el:TypeId} {sz:Nat} (h:cH kd m el sz v n cells):tF m v:=fun b off n' c f e=>by
 rcases h.form with ⟨rfl,_⟩ | ⟨b',rfl,_,hlt,_⟩
 ·cases e
 ·cases e;exact hlt
theorem mJ.keep {m':aH} (h:mJ m v n cells) (hk:mK m m') (ho:tF m v):mJ m' v n cells:=by
 rcases h.form with h | ⟨b,off,c,f,k,rfl,h2,h3,h4,h5⟩
 ·exact ⟨.inl h⟩
 ·obtain ⟨wr,h6⟩:=hk.at_ b k h2 (ho _ _ _ _ _ rfl)
  exact ⟨.inr ⟨b,off,c,f,_,rfl,h6,h3,h4,h5⟩⟩
theorem mJ.fz (h:mJ m v n cells):∃ av m1,fz m v=some (av,m1)∧bD av n cells∧m1.mm=m.mm∧m1.next=m.next∧∀ j k,m.at_ j=some k→∃ wr,m1.at_ j=some ⟨k.cells,k.el,k.kind,wr⟩∧((∀ off n c f,v ≠ .sl j off n c f)→wr=k.wr):=by
 rcases h.form with h | ⟨b,off,c,f,k',rfl,h2,h3,rfl,h5⟩
 ·refine ⟨v,m, ?_,h,rfl,rfl,fun b k hb=>⟨k.wr,hb,fun _=>rfl⟩⟩
  rcases h.form with ⟨rfl,_⟩ | ⟨_,_,rfl,_⟩ | ⟨_,_,rfl,_⟩ <;> rfl
 ·obtain ⟨kc,ke,kk,kw⟩:=k'
  have hput:∀ j k,m.at_ j=some k→∃ wr,(m.put b (some ⟨kc,ke,kk,false⟩)).at_ j=some ⟨k.cells,k.el,k.kind,wr⟩∧((∀ o n' c' f',AV.sl b off n c f ≠ .sl j o n' c' f')→wr=k.wr):=fun j k hj=>by
   by_cases e:j=b
   ·subst e
    rw [h2] at hj
    cases hj
    exact ⟨false,by simp [aH.put],fun hh=>absurd rfl (hh _ _ _ _)⟩
   ·exact ⟨k.wr,by simp [aH.put,e,hj],fun _=>rfl⟩
  rcases h3 with h3 | ⟨h3,h6⟩
  ·simp only at h3
   subst h3
   exact ⟨.tree n c (kc.drop off) f,m.put b (some ⟨kc,ke,.flat,false⟩),by simp [Go.Tw.fz,h2],⟨.inr (.inr ⟨c,f,rfl,h5⟩)⟩,rfl,rfl,hput⟩
  ·simp only at h3 h6
   subst h3
   have h6:=(sH (m:=m) 3 kc h6).2
   exact ⟨.tree n c (kc.drop off) f,m.put b (some ⟨kc,ke,.var,false⟩),by simp [Go.Tw.fz,h2,h6],⟨.inr (.inr ⟨c,f,rfl,h5⟩)⟩,rfl,rfl,hput⟩
theorem mJ.lend (h : mJ m v n cells) (d : Nat) : ∃ av, lend (d + 1) m v = some av ∧ bD av n cells := by
 rcases h.form with h | ⟨b, off, c, f, k', rfl, h2, h3, rfl, h5⟩
 · exact ⟨v, (abw (d + 1) v h.plain).1, h⟩
 · rcases h3 with h3 | ⟨h3, h6⟩
   · refine ⟨.tree n c (k'.cells.drop off) f, ?_, ⟨.inr (.inr ⟨c, f, rfl, h5⟩)⟩⟩
     unfold Go.Tw.lend
     simp [h2, h3]
   · refine ⟨.tree n c (k'.cells.drop off) f, ?_, ⟨.inr (.inr ⟨c, f, rfl, h5⟩)⟩⟩
     have hp : dX (k'.cells.drop off) = true := by
       have : ∀ (l : List AV) (i : Nat), dX l = true → dX (l.drop i) = true := by
         intro l
         induction l with
         | nil => intro i h; simp [dX]
         | cons a l ih =>
           intro i h
           cases i with
           | zero => exact h
           | succ i =>
             simp only [dX, Bool.and_eq_true] at h
             exact ih i h.2
       exact this _ _ h6
     unfold Go.Tw.lend
     simp [h2, h3, (sH (m := m) d _ hp).1]
theorem mJ.lend1 (h:mJ m v n cells):∃ av,gI 3 m [v]=some [av]∧bD av n cells:=by
 obtain ⟨av,h1,h2⟩:=h.lend 2
 refine ⟨av, ?_,h2⟩
 unfold gI
 rw [h1]
 unfold gI
 rfl
theorem mJ.lend2 {a:AV} (ha:plain a=true) (h:mJ m v n cells):∃ av,gI 3 m [a,v]=some [a,av]∧bD av n cells:=by
 obtain ⟨av,h1,h2⟩:=h.lend1
 refine ⟨av, ?_,h2⟩
 unfold gI
 rw [(abw 3 a ha).1,h1]
 rfl
theorem aj7 {f:FuncId} {args:List AV} {r:iO} (h:gO P f args aH.empty fun v m=>mE P m v=some r):aY P f args r:=⟨h.1,fun w I vs hI hsz hv=>(h.2 w I dG vs ⟨fun b k g o h=>by simp [aH.empty] at h,fun b b' k k' g o o' h=>by simp [aH.empty] at h,hI,jV.none⟩ hsz hv (fun _ _=>rfl)).mono fun en w'=>by
 rintro ⟨v,rv,m',I',ρ',rfl,hk,q1,q2,q3,_⟩
 obtain ⟨ρ'',h5,h6,h7⟩:=ahG q2 q3 q1 hk
 exact ⟨v,I',ρ'',rfl,h5,h6,h7⟩⟩
theorem cH.frz {kd:fO} {el:TypeId} {sz n':Nat} {u:AV} {cs:List AV} {m1:aH} (h:cH kd m el sz u n' cs) (hn:m1.next=m.next) (hk:∀ j k,m.at_ j=some k→∃ wr,m1.at_ j=some ⟨k.cells,k.el,k.kind,wr⟩∧((∀ off n c f,v ≠ .sl j off n c f)→wr=k.wr)) (hne:∀ b,cP u=some b→∀ off n c f,v ≠ .sl b off n c f):cH kd m1 el sz u n' cs:=by
 refine h.keep (by omega) fun b k hb hat => ?_
 obtain ⟨wr,h1,h2⟩:=hk b k hat
 rw [h1,h2 (hne b hb)]
theorem apN {m0 m1:aH} (h:mK m0 m) (hm:m1.mm=m.mm) (hn:m1.next=m.next) (hk:∀ j k,m.at_ j=some k→∃ wr,m1.at_ j=some ⟨k.cells,k.el,k.kind,wr⟩∧((∀ off n c f,v ≠ .sl j off n c f)→wr=k.wr)):mK m0 m1 :=
 ⟨hm.trans h.mm,by rw [hn];exact h.next,fun j k hj hl=>by
  obtain ⟨wr,h1⟩:=h.at_ j k hj hl
  obtain ⟨wr',h2,_⟩:=hk j _ h1
  exact ⟨wr',h2⟩⟩
end
theorem aj8 {P : Program} {kd : fO} {el : TypeId} {m0 m : aH} {v x : AV} {K : bS → Prop} {sz y n cnt : Nat} {zl : List Value} {cells new : List AV} (hkd : bR P el = kd) (ho : cH kd m el sz v n cells) (h1 : cG P el = some sz) (h2 : j8 P el = some y) (h3 : gB P el = some zl) (h4 : zl.length = sz) (h5 : fW P el sz m x = some (new, cnt)) (h6 : new.length = cnt * sz) (h7 : (n + cnt) * y ≤ 140737488355328) (h8 : n + cnt ≤ 140737488355328) (hk : kT m0 m) (hn : lY m0 v)
   (hK : ∀ v' m', cH kd m' el sz v' (n + cnt) (cells ++ new) → kT m0 m' → lY m0 v' → K ⟨v', m', none⟩) : eL (fX P el m v x) K :=
 tE hkd ho h1 h2 h3 h4 h5 h6 h7 h8 fun v' m' a b c d e => hK v' m' a ⟨e.trans hk.mm, Nat.le_trans hk.next b, fun j k hj hl => c j k (hk.at_ j k hj hl) (Nat.lt_of_lt_of_le hl hk.next) fun hb => by have := hn j hb; omega⟩ fun j hj => by
   rcases d j hj with h | h
   · rw [h]; exact hk.next
   · exact hn j h
theorem adl {P : Program} {kd : fO} {el : TypeId} {m0 m : aH} {v x : AV} {K : bS → Prop} {sz y n cnt : Nat} {zl : List Value} {cells new : List AV} (hkd : bR P el = kd) (ho : cH kd m el sz v n cells) (h1 : cG P el = some sz) (h2 : j8 P el = some y) (h3 : gB P el = some zl) (h4 : zl.length = sz) (h5 : fW P el sz m x = some (new, cnt)) (h6 : new.length = cnt * sz) (h7 : (n + cnt) * y ≤ 140737488355328) (h8 : n + cnt ≤ 140737488355328) (hk : mK m0 m) (hn : lY m0 v)
   (hK : ∀ v' m', cH kd m' el sz v' (n + cnt) (cells ++ new) → mK m0 m' → lY m0 v' → m.next ≤ m'.next → (∀ j, cP v' = some j → j = m.next ∨ cP v = some j) → (∀ j k, m.at_ j = some k → j < m.next → cP v ≠ some j → m'.at_ j = some k) → K ⟨v', m', none⟩) : eL (fX P el m v x) K :=
 tE hkd ho h1 h2 h3 h4 h5 h6 h7 h8 fun v' m' a b c d e => hK v' m' a ⟨e.trans hk.mm, Nat.le_trans hk.next b, fun j k hj hl => by
   obtain ⟨wr, h9⟩ := hk.at_ j k hj hl
   exact ⟨wr, c j _ h9 (Nat.lt_of_lt_of_le hl hk.next) fun hb => by have := hn j hb; omega⟩⟩ (fun j hj => by
   rcases d j hj with h | h
   · rw [h]; exact hk.next
   · exact hn j h) b d c
theorem cH.beside {kd:fO} {m m':aH} {el:TypeId} {sz n:Nat} {u v v':AV} {cells:List AV} (h:cH kd m el sz u n cells) (hn:m.next≤m'.next) (hd:∀ j,cP v'=some j→j=m.next∨cP v=some j) (hk:∀ j k,m.at_ j=some k→j < m.next→cP v≠some j→m'.at_ j=some k) (hne:∀ b,cP u=some b→cP v≠some b):cH kd m' el sz u n cells∧∀ b,cP u=some b→cP v'≠some b:=by
 have hlt:∀ b,cP u=some b→b < m.next:=fun b hb=>by
  rcases h.form with ⟨rfl,_⟩ | ⟨b',rfl,_,hlt,_⟩
  ·cases hb
  ·injection hb with hb;omega
 refine ⟨h.keep hn fun b k hb hat=>hk b k hat (hlt b hb) (hne b hb),fun b hb hb' => ?_⟩
 rcases hd b hb' with h1 | h1
 ·have:=hlt b hb;omega
 ·exact hne b hb h1
def uM (el:TypeId) (m:aH) (v:AV) (cs:List AV):aH:=match cP v with
 | some b=>(m.put b none).push ⟨cs,el,.flat,true⟩
 | none=>m.push ⟨cs,el,.flat,true⟩
def iZ (el:TypeId):aH→AV→List AV→List AV→aH×AV
 | m,v,_,[]=>(m,v)
 | m,v,cs,x::xs=>iZ el (uM el m v (cs++[x])) (.sl m.next 0 (cs.length+1) (cs.length+1) false) (cs++[x]) xs
theorem apO {el:TypeId} {m:aH} {v:AV} {cs:List AV}:(uM el m v cs).next=m.next+1:=by
 unfold uM;split <;> rfl
theorem apP {el:TypeId} {m:aH} {v:AV} {cs:List AV} (x:AV):eM (uM el m v (cs++[x])) el 1 (.sl m.next 0 (cs.length+1) (cs.length+1) false) (cs.length+1) (cs++[x]):=by
 refine ⟨.inr ⟨m.next,rfl, ?_,by rw [apO];omega,by omega⟩,by simp⟩
 unfold uM
 split
 ·rw [aG,if_pos (by rw [bX])]
 ·rw [aG,if_pos rfl]
theorem aj9 {el:TypeId}:∀ (xs ys:List AV) (m:aH) (v:AV) (cs:List AV),iZ el m v cs (xs++ys)=iZ el (iZ el m v cs xs).1 (iZ el m v cs xs).2 (cs++xs) ys
 | [],ys,m,v,cs=>by simp [iZ]
 | x::xs,ys,m,v,cs=>by
  rw [List.cons_append,iZ,aj9 xs ys,iZ,List.append_assoc]
  rfl
theorem uN {el:TypeId}:∀ (xs:List AV) (m:aH) (v:AV) (cs:List AV),eM m el 1 v cs.length cs→eM (iZ el m v cs xs).1 el 1 (iZ el m v cs xs).2 (cs.length+xs.length) (cs++xs)
 | [],m,v,cs,h=>by simpa [iZ] using h
 | x::xs,m,v,cs,h=>by
  rw [iZ]
  have:=uN xs (uM el m v (cs++[x])) _ (cs++[x]) (by rw [List.length_append];exact apP x)
  rw [List.length_append,List.append_assoc] at this
  rw [List.length_cons,show cs.length+(xs.length+1)=cs.length+[x].length+xs.length by simp;omega]
  exact this
theorem apQ {P : Program} {el : TypeId} {m : aH} {v x y : AV} {n : Nat} {zl : List Value} {cs : List AV} {yb : Nat} (hkd : bR P el = .flat) (ho : eM m el 1 v n cs) (h1 : cG P el = some 1) (h2 : j8 P el = some yb) (h3 : gB P el = some zl) (h4 : zl.length = 1) (h5 : fW P el 1 m x = some ([y], 1)) (h7 : (n + 1) * yb ≤ 140737488355328) (h8 : n + 1 ≤ 140737488355328) :
   fX P el m v x = some ⟨.sl m.next 0 (cs.length + 1) (cs.length + 1) false, uM el m v (cs ++ [y]), none⟩ := by
 have hl := ho.len
 rcases ho.form with ⟨rfl, rfl, rfl⟩ | ⟨b, rfl, hb, hlt, hn⟩
 · simp only [fX, h1, h2, h3, h5, Option.bind_some, d6, aP]
   simp at h7 h8
   simp [bK, h4, h7, h8, hkd, uM, cP]
 · have hlen : cs.length = n := by omega
   simp only [fX, h1, h2, h3, h5, d6, hb, hkd, Option.bind_some, hlen]
   simp [t7, bK, h4, h7, h8, hlen, uM, cP, Nat.ne_of_gt hn]
   omega
end Go.Tw