import Derived.Test.YtgcicholalgbiaaGreatLrcG11
import Derived.Laws.StructEq
set_option linter.unusedVariables false
set_option linter.unusedSimpArgs false
namespace Go.Tw
open Go
theorem pureR_bind {α β:Type} (P:Program):∀ (s:Sem α) (f:α→Sem β),pureR P (s.bind f)=(pureR P s).bind fun a=>pureR P (f a)
 | .pure a,f=>rfl
 | .program k,f=>by
  show pureR P ((k P).bind f)=_
  rw [pureR_bind P (k P) f]
  rfl
 | .load _ _ _,f=>rfl
 | .store _ _ _ _,f=>rfl
 | .new _ _,f=>rfl
 | .shape _ _,f=>rfl
 | .freeze _ _ _,f=>rfl
 | .frozen _ _,f=>rfl
 | .getObj _ _,f=>rfl
 | .setObj _ _ _,f=>rfl
 | .choose _ _,f=>rfl
 | .sys _ _,f=>rfl
 | .mark _ _,f=>rfl
 | .halt _,f=>rfl
theorem pureR_bind' {α β:Type} (P:Program) (s:Sem α) (f:α→Sem β):pureR P (s >>= f)=(pureR P s).bind fun a=>pureR P (f a):=pureR_bind P s f
theorem pureR_pure {α:Type} (P:Program) (a:α):pureR P (Pure.pure a:Sem α)=some a:=rfl
theorem pureR_prog (P:Program):pureR P program=some P:=rfl
def eqF (P : Program) (xs ys : Array Value) : List Field → Option Bool
 | [] => some true
 | f :: fs => if f.name ≠ "_" then
     (match P.underlying f.type, xs[f.offset]?, ys[f.offset]? with
     | some (.int _), some (.int k a), some (.int k' b) => if k = k' then (if a = b then eqF P xs ys fs else some false) else none
     | _, _, _ => none)
   else eqF P xs ys fs
theorem under_pure {P:Program} {t:TypeId} {d:TypeDesc} (h:P.underlying t=some d):pureR P (underlying t)=some d:=by
 simp only [underlying,pureR_bind']
 show (some P).bind _=_
 simp [h,pureR_pure]
theorem isAgg_int {P:Program} {t:TypeId} {k:IntKind} (h:P.underlying t=some (.int k)):pureR P (isAgg t)=some false:=by
 unfold isAgg
 simp only [pureR_bind',under_pure h]
 rfl
theorem part_int {P:Program} {t:TypeId} {k:IntKind} (h:P.underlying t=some (.int k)) {cs:Array Value} {off:Nat} {v:Value} (hv:cs[off]? = some v):pureR P (part t cs off)=some v:=by
 simp only [part,pureR_bind',isAgg_int h,hv]
 rfl
theorem eqI_int {P:Program} {d:Nat} {t:TypeId} {k k':IntKind} {a b:Int} (h:P.underlying t=some (.int k')):pureR P (Op.equalIn (d+1) t (.int k a) (.int k b))=some (a == b):=by
 simp [Op.equalIn,pureR_bind',under_pure h,pureR_pure]
def fieldsP (P:Program) (t:TypeId):List Field:=match P.underlying t with | some (.struct fs)=>fs.toList | _=>[]
theorem eqF_loop {P : Program} {d : Nat} {xs ys : Array Value} : ∀ (fs : List Field) (b : Bool), eqF P xs ys fs = some b →
   pureR P (do
     let r ← forIn fs ((none, ()) : Option Bool × Unit) fun f r =>
       if f.name ≠ "_" then do
         let a ← part f.type xs f.offset
         let b ← part f.type ys f.offset
         let c ← Op.equalIn (d + 1) f.type a b
         if (!c) = true then pure (ForInStep.done (some false, ())) else pure (ForInStep.yield (none, ()))
       else pure (ForInStep.yield (none, ()))
     match r.1 with
     | some a => pure a
     | none => pure true : Sem Bool) = some b := by
 intro fs
 induction fs with
 | nil => intro b h; simp only [eqF] at h; cases h; simp [pureR_bind', pureR_pure]
 | cons f fs ih =>
   intro b h
   simp only [List.forIn_cons, pureR_bind'] at ih ⊢
   unfold eqF at h
   by_cases hn : f.name ≠ "_"
   · rw [if_pos hn] at h
     split at h
     · rename_i k0 k a k' c hu hx hy
       by_cases hk : k = k'
       · subst hk
         rw [if_pos rfl] at h
         simp only [if_pos hn, pureR_bind', part_int hu hx, part_int hu hy, Option.bind_some, eqI_int hu]
         by_cases hac : a = c
         · subst hac
           rw [if_pos rfl] at h
           simp only [beq_self_eq_true, Bool.not_true, Bool.false_eq_true, if_false, pureR_pure, Option.bind_some]
           exact ih b h
         · rw [if_neg hac] at h
           cases h
           simp [hac, pureR_pure]
       · rw [if_neg hk] at h; cases h
     · cases h
   · rw [if_neg hn] at h
     simp only [if_neg hn, pureR_pure, Option.bind_some]
     exact ih b h
theorem eq_struct {P:Program} {t:TypeId} {xs ys:Array Value} {b:Bool} (ht:(match P.underlying t with | some (.struct _)=>true | _=>false)=true) (hp:P.stoodInHeld t=false) (h:eqF P xs ys (fieldsP P t)=some b):pureR P (Op.equal t (.agg xs) (.agg ys))=some b:=by
 obtain ⟨fs,hfs⟩:∃ fs,P.underlying t=some (.struct fs):=by
  split at ht
  ·exact ⟨_,by assumption⟩
  ·cases ht
 have hF:fieldsP P t=fs.toList:=by unfold fieldsP;rw [hfs]
 rw [hF] at h
 have:=eqF_loop (d:=9998) fs.toList b h
 unfold Op.equal Op.maxDepth
 rw [show (10000:Nat)=9998+1+1 from rfl]
 rw [Op.equalIn.eq_def]
 simp only [pureR_bind',under_pure hfs,Option.bind_some]
 simp only [pureR_prog,Option.bind_some,hp,Bool.false_eq_true,if_false]
 rw [←Array.forIn_toList]
 simp only [pureR_bind'] at this ⊢
 refine Eq.trans ?_ this
 congr 1
 funext r
 obtain ⟨o,u⟩:=r
 cases o <;> rfl
theorem bin_struct {P:Program} {t:TypeId} {x y:Operand} {a b:List AV} {u v:List Value} {c:Bool} (hu:toVals a=some u) (hv:toVals b=some v) (ht:(match P.underlying t with | some (.struct _)=>true | _=>false)=true) (hp:P.stoodInHeld t=false) (hm:P.eqGuardType P.depth t=false) (h:eqF P u.toArray v.toArray (fieldsP P t)=some c):binE P .eql t x y (.agg a) (.agg b)=some (.val (.bool c))∧binE P .neq t x y (.agg a) (.agg b)=some (.val (.bool !c)):=by
 have he:=eq_struct ht hp h
 have hg:∀ op,pureR P (eqGuard op t x y (.agg u.toArray) (.agg v.toArray))=some ():=fun op=>by
  cases op <;> (first | rfl | (unfold eqGuard;simp [pureR_bind',pureR_prog,hm,pureR_pure]))
 constructor
 ·simp only [binE,toVal,hu,hv,Option.map_some,Option.bind_some,binV,pureR_bind',hg]
  simp only [binOp,pureR_bind',he,Option.bind_some,pureR_pure]
  rfl
 ·simp only [binE,toVal,hu,hv,Option.map_some,Option.bind_some,binV,pureR_bind',hg]
  simp only [binOp,pureR_bind',he,Option.bind_some,pureR_pure]
  rfl
structure HasF (m:Mem) (v:AV) (n:Nat) (cells:List AV):Prop where
 form:RdSl v n cells∨∃ b off c f k,v = .sl b off n c f∧m.at_ b=some k∧(k.kind = .flat∨(k.kind = .var∧plains k.cells=true))∧k.cells.drop off=cells∧n≤c
structure KeptW (m0 m:Mem):Prop where
 mm:m.mm=m0.mm
 next:m0.next≤m.next
 at_:∀ j k,m0.at_ j=some k→j < m0.next→∃ wr,m.at_ j=some ⟨k.cells,k.el,k.kind,wr⟩
theorem KeptW.refl (m:Mem):KeptW m m:=⟨rfl,Nat.le_refl _,fun j k h _=>⟨k.wr,h⟩⟩
theorem KeptW.trans {a b c:Mem} (h:KeptW a b) (h':KeptW b c):KeptW a c:=⟨h'.mm.trans h.mm,Nat.le_trans h.next h'.next,fun j k hj hl=>by
 obtain ⟨wr,h1⟩:=h.at_ j k hj hl
 obtain ⟨wr',h2⟩:=h'.at_ j _ h1 (Nat.lt_of_lt_of_le hl h.next)
 exact ⟨wr',h2⟩⟩
structure Kept (m0 m:Mem):Prop where
 mm:m.mm=m0.mm
 next:m0.next≤m.next
 at_:∀ j k,m0.at_ j=some k→j < m0.next→m.at_ j=some k
theorem Kept.refl (m:Mem):Kept m m:=⟨rfl,Nat.le_refl _,fun j k h _=>h⟩
theorem Kept.trans {a b c:Mem} (h:Kept a b) (h':Kept b c):Kept a c:=⟨h'.mm.trans h.mm,Nat.le_trans h.next h'.next,fun j k hj hl=>h'.at_ j k (h.at_ j k hj hl) (Nat.lt_of_lt_of_le hl h.next)⟩
theorem Kept.w {a b:Mem} (h:Kept a b):KeptW a b:=⟨h.mm,h.next,fun j k hj hl=>⟨k.wr,h.at_ j k hj hl⟩⟩
def NewV (m0:Mem) (v:AV):Prop:=∀ j,blkOf v=some j→m0.next≤j
theorem newV_nil (m0:Mem):NewV m0 nilS:=fun j h=>by cases h
theorem NewV.mono {m0 m1:Mem} {v:AV} (h:NewV m1 v) (hl:m0.next≤m1.next):NewV m0 v:=fun j hj=>Nat.le_trans hl (h j hj)
def OldV (m0:Mem) (v:AV):Prop:=∀ b off n c f,v = .sl b off n c f→b < m0.next
theorem OldV.nil (m0:Mem):OldV m0 nilS:=fun b off n c f h=>by cases h
theorem OldV.rd {m0:Mem} {v:AV} {n:Nat} {cs:List AV} (h:RdSl v n cs):OldV m0 v:=fun b off n' c f e=>by
 rcases h.form with ⟨rfl,_⟩ | ⟨_,_,rfl,_⟩ | ⟨_,_,rfl,_⟩ <;> cases e
section
variable {P:Program} {m:Mem} {v:AV} {n:Nat} {cells:List AV}
theorem hasF_own {kd:Kind} {el:TypeId} {sz:Nat} (h:OwnK kd m el sz v n cells) (hk:kd = .flat∨(kd = .var∧plains cells=true)):HasF m v n cells:=by
 rcases h.form with ⟨rfl,rfl,rfl⟩ | ⟨b,rfl,hb,_,_⟩
 ·exact ⟨.inl ⟨.inl ⟨rfl,rfl⟩⟩⟩
 ·exact ⟨.inr ⟨b,0,n,false,_,rfl,hb,hk,rfl,Nat.le_refl _⟩⟩
theorem own_old {kd:Kind} {el:TypeId} {sz:Nat} (h:OwnK kd m el sz v n cells):OldV m v:=fun b off n' c f e=>by
 rcases h.form with ⟨rfl,_⟩ | ⟨b',rfl,_,hlt,_⟩
 ·cases e
 ·cases e;exact hlt
theorem HasF.keep {m':Mem} (h:HasF m v n cells) (hk:KeptW m m') (ho:OldV m v):HasF m' v n cells:=by
 rcases h.form with h | ⟨b,off,c,f,k,rfl,h2,h3,h4,h5⟩
 ·exact ⟨.inl h⟩
 ·obtain ⟨wr,h6⟩:=hk.at_ b k h2 (ho _ _ _ _ _ rfl)
  exact ⟨.inr ⟨b,off,c,f,_,rfl,h6,h3,h4,h5⟩⟩
theorem HasF.fz (h:HasF m v n cells):∃ av m1,fz m v=some (av,m1)∧RdSl av n cells∧m1.mm=m.mm∧m1.next=m.next∧∀ j k,m.at_ j=some k→∃ wr,m1.at_ j=some ⟨k.cells,k.el,k.kind,wr⟩∧((∀ off n c f,v ≠ .sl j off n c f)→wr=k.wr):=by
 rcases h.form with h | ⟨b,off,c,f,k',rfl,h2,h3,rfl,h5⟩
 ·refine ⟨v,m, ?_,h,rfl,rfl,fun b k hb=>⟨k.wr,hb,fun _=>rfl⟩⟩
  rcases h.form with ⟨rfl,_⟩ | ⟨_,_,rfl,_⟩ | ⟨_,_,rfl,_⟩ <;> rfl
 ·obtain ⟨kc,ke,kk,kw⟩:=k'
  have hput:∀ j k,m.at_ j=some k→∃ wr,(m.put b (some ⟨kc,ke,kk,false⟩)).at_ j=some ⟨k.cells,k.el,k.kind,wr⟩∧((∀ o n' c' f',AV.sl b off n c f ≠ .sl j o n' c' f')→wr=k.wr):=fun j k hj=>by
   by_cases e:j=b
   ·subst e
    rw [h2] at hj
    cases hj
    exact ⟨false,by simp [Mem.put],fun hh=>absurd rfl (hh _ _ _ _)⟩
   ·exact ⟨k.wr,by simp [Mem.put,e,hj],fun _=>rfl⟩
  rcases h3 with h3 | ⟨h3,h6⟩
  ·simp only at h3
   subst h3
   exact ⟨.tree n c (kc.drop off) f,m.put b (some ⟨kc,ke,.flat,false⟩),by simp [Go.Tw.fz,h2],⟨.inr (.inr ⟨c,f,rfl,h5⟩)⟩,rfl,rfl,hput⟩
  ·simp only at h3 h6
   subst h3
   have h6:=(plain_lends (m:=m) 3 kc h6).2
   exact ⟨.tree n c (kc.drop off) f,m.put b (some ⟨kc,ke,.var,false⟩),by simp [Go.Tw.fz,h2,h6],⟨.inr (.inr ⟨c,f,rfl,h5⟩)⟩,rfl,rfl,hput⟩
theorem HasF.lend (h : HasF m v n cells) (d : Nat) : ∃ av, lend (d + 1) m v = some av ∧ RdSl av n cells := by
 rcases h.form with h | ⟨b, off, c, f, k', rfl, h2, h3, rfl, h5⟩
 · exact ⟨v, (plain_lend (d + 1) v h.plain).1, h⟩
 · rcases h3 with h3 | ⟨h3, h6⟩
   · refine ⟨.tree n c (k'.cells.drop off) f, ?_, ⟨.inr (.inr ⟨c, f, rfl, h5⟩)⟩⟩
     unfold Go.Tw.lend
     simp [h2, h3]
   · refine ⟨.tree n c (k'.cells.drop off) f, ?_, ⟨.inr (.inr ⟨c, f, rfl, h5⟩)⟩⟩
     have hp : plains (k'.cells.drop off) = true := by
       have : ∀ (l : List AV) (i : Nat), plains l = true → plains (l.drop i) = true := by
         intro l
         induction l with
         | nil => intro i h; simp [plains]
         | cons a l ih =>
           intro i h
           cases i with
           | zero => exact h
           | succ i =>
             simp only [plains, Bool.and_eq_true] at h
             exact ih i h.2
       exact this _ _ h6
     unfold Go.Tw.lend
     simp [h2, h3, (plain_lends (m := m) d _ hp).1]
theorem HasF.lend1 (h:HasF m v n cells):∃ av,lends 3 m [v]=some [av]∧RdSl av n cells:=by
 obtain ⟨av,h1,h2⟩:=h.lend 2
 refine ⟨av, ?_,h2⟩
 unfold lends
 rw [h1]
 unfold lends
 rfl
theorem HasF.lend2 {a:AV} (ha:plain a=true) (h:HasF m v n cells):∃ av,lends 3 m [a,v]=some [a,av]∧RdSl av n cells:=by
 obtain ⟨av,h1,h2⟩:=h.lend1
 refine ⟨av, ?_,h2⟩
 unfold lends
 rw [(plain_lend 3 a ha).1,h1]
 rfl
theorem fspec_canon {f:FuncId} {args:List AV} {r:Res} (h:OSpec P f args Mem.empty fun v m=>canonR P m v=some r):FSpec P f args r:=⟨h.1,fun w I vs hI hsz hv=>(h.2 w I noneR vs ⟨fun b k g o h=>by simp [Mem.empty] at h,fun b b' k k' g o o' h=>by simp [Mem.empty] at h,hI,MRs.none⟩ hsz hv (fun _ _=>rfl)).mono fun en w'=>by
 rintro ⟨v,rv,m',I',ρ',rfl,hk,q1,q2,q3,_⟩
 obtain ⟨ρ'',h5,h6,h7⟩:=canonR_sound q2 q3 q1 hk
 exact ⟨v,I',ρ'',rfl,h5,h6,h7⟩⟩
theorem OwnK.frz {kd:Kind} {el:TypeId} {sz n':Nat} {u:AV} {cs:List AV} {m1:Mem} (h:OwnK kd m el sz u n' cs) (hn:m1.next=m.next) (hk:∀ j k,m.at_ j=some k→∃ wr,m1.at_ j=some ⟨k.cells,k.el,k.kind,wr⟩∧((∀ off n c f,v ≠ .sl j off n c f)→wr=k.wr)) (hne:∀ b,blkOf u=some b→∀ off n c f,v ≠ .sl b off n c f):OwnK kd m1 el sz u n' cs:=by
 refine h.keep (by omega) fun b k hb hat => ?_
 obtain ⟨wr,h1,h2⟩:=hk b k hat
 rw [h1,h2 (hne b hb)]
theorem keptW_frz {m0 m1:Mem} (h:KeptW m0 m) (hm:m1.mm=m.mm) (hn:m1.next=m.next) (hk:∀ j k,m.at_ j=some k→∃ wr,m1.at_ j=some ⟨k.cells,k.el,k.kind,wr⟩∧((∀ off n c f,v ≠ .sl j off n c f)→wr=k.wr)):KeptW m0 m1 :=
 ⟨hm.trans h.mm,by rw [hn];exact h.next,fun j k hj hl=>by
  obtain ⟨wr,h1⟩:=h.at_ j k hj hl
  obtain ⟨wr',h2,_⟩:=hk j _ h1
  exact ⟨wr',h2⟩⟩
end
theorem app_new {P : Program} {kd : Kind} {el : TypeId} {m0 m : Mem} {v x : AV} {K : Out → Prop} {sz y n cnt : Nat} {zl : List Value} {cells new : List AV} (hkd : kindT P el = kd) (ho : OwnK kd m el sz v n cells) (h1 : szE P el = some sz) (h2 : byE P el = some y) (h3 : zeroE P el = some zl) (h4 : zl.length = sz) (h5 : srcE P el sz m x = some (new, cnt)) (h6 : new.length = cnt * sz) (h7 : (n + cnt) * y ≤ 140737488355328) (h8 : n + cnt ≤ 140737488355328) (hk : Kept m0 m) (hn : NewV m0 v)
   (hK : ∀ v' m', OwnK kd m' el sz v' (n + cnt) (cells ++ new) → Kept m0 m' → NewV m0 v' → K ⟨v', m', none⟩) : outW (appE P el m v x) K :=
 app_keepM hkd ho h1 h2 h3 h4 h5 h6 h7 h8 fun v' m' a b c d e => hK v' m' a ⟨e.trans hk.mm, Nat.le_trans hk.next b, fun j k hj hl => c j k (hk.at_ j k hj hl) (Nat.lt_of_lt_of_le hl hk.next) fun hb => by have := hn j hb; omega⟩ fun j hj => by
   rcases d j hj with h | h
   · rw [h]; exact hk.next
   · exact hn j h
theorem app_newW {P : Program} {kd : Kind} {el : TypeId} {m0 m : Mem} {v x : AV} {K : Out → Prop} {sz y n cnt : Nat} {zl : List Value} {cells new : List AV} (hkd : kindT P el = kd) (ho : OwnK kd m el sz v n cells) (h1 : szE P el = some sz) (h2 : byE P el = some y) (h3 : zeroE P el = some zl) (h4 : zl.length = sz) (h5 : srcE P el sz m x = some (new, cnt)) (h6 : new.length = cnt * sz) (h7 : (n + cnt) * y ≤ 140737488355328) (h8 : n + cnt ≤ 140737488355328) (hk : KeptW m0 m) (hn : NewV m0 v)
   (hK : ∀ v' m', OwnK kd m' el sz v' (n + cnt) (cells ++ new) → KeptW m0 m' → NewV m0 v' → m.next ≤ m'.next → (∀ j, blkOf v' = some j → j = m.next ∨ blkOf v = some j) → (∀ j k, m.at_ j = some k → j < m.next → blkOf v ≠ some j → m'.at_ j = some k) → K ⟨v', m', none⟩) : outW (appE P el m v x) K :=
 app_keepM hkd ho h1 h2 h3 h4 h5 h6 h7 h8 fun v' m' a b c d e => hK v' m' a ⟨e.trans hk.mm, Nat.le_trans hk.next b, fun j k hj hl => by
   obtain ⟨wr, h9⟩ := hk.at_ j k hj hl
   exact ⟨wr, c j _ h9 (Nat.lt_of_lt_of_le hl hk.next) fun hb => by have := hn j hb; omega⟩⟩ (fun j hj => by
   rcases d j hj with h | h
   · rw [h]; exact hk.next
   · exact hn j h) b d c
theorem OwnK.beside {kd:Kind} {m m':Mem} {el:TypeId} {sz n:Nat} {u v v':AV} {cells:List AV} (h:OwnK kd m el sz u n cells) (hn:m.next≤m'.next) (hd:∀ j,blkOf v'=some j→j=m.next∨blkOf v=some j) (hk:∀ j k,m.at_ j=some k→j < m.next→blkOf v≠some j→m'.at_ j=some k) (hne:∀ b,blkOf u=some b→blkOf v≠some b):OwnK kd m' el sz u n cells∧∀ b,blkOf u=some b→blkOf v'≠some b:=by
 have hlt:∀ b,blkOf u=some b→b < m.next:=fun b hb=>by
  rcases h.form with ⟨rfl,_⟩ | ⟨b',rfl,_,hlt,_⟩
  ·cases hb
  ·injection hb with hb;omega
 refine ⟨h.keep hn fun b k hb hat=>hk b k hat (hlt b hb) (hne b hb),fun b hb hb' => ?_⟩
 rcases hd b hb' with h1 | h1
 ·have:=hlt b hb;omega
 ·exact hne b hb h1
def growS (el:TypeId) (m:Mem) (v:AV) (cs:List AV):Mem:=match blkOf v with
 | some b=>(m.put b none).push ⟨cs,el,.flat,true⟩
 | none=>m.push ⟨cs,el,.flat,true⟩
def growB (el:TypeId):Mem→AV→List AV→List AV→Mem×AV
 | m,v,_,[]=>(m,v)
 | m,v,cs,x::xs=>growB el (growS el m v (cs++[x])) (.sl m.next 0 (cs.length+1) (cs.length+1) false) (cs++[x]) xs
theorem growS_next {el:TypeId} {m:Mem} {v:AV} {cs:List AV}:(growS el m v cs).next=m.next+1:=by
 unfold growS;split <;> rfl
theorem growS_own {el:TypeId} {m:Mem} {v:AV} {cs:List AV} (x:AV):Own (growS el m v (cs++[x])) el 1 (.sl m.next 0 (cs.length+1) (cs.length+1) false) (cs.length+1) (cs++[x]):=by
 refine ⟨.inr ⟨m.next,rfl, ?_,by rw [growS_next];omega,by omega⟩,by simp⟩
 unfold growS
 split
 ·rw [push_at,if_pos (by rw [put_next])]
 ·rw [push_at,if_pos rfl]
theorem growB_append {el:TypeId}:∀ (xs ys:List AV) (m:Mem) (v:AV) (cs:List AV),growB el m v cs (xs++ys)=growB el (growB el m v cs xs).1 (growB el m v cs xs).2 (cs++xs) ys
 | [],ys,m,v,cs=>by simp [growB]
 | x::xs,ys,m,v,cs=>by
  rw [List.cons_append,growB,growB_append xs ys,growB,List.append_assoc]
  rfl
theorem growB_own {el:TypeId}:∀ (xs:List AV) (m:Mem) (v:AV) (cs:List AV),Own m el 1 v cs.length cs→Own (growB el m v cs xs).1 el 1 (growB el m v cs xs).2 (cs.length+xs.length) (cs++xs)
 | [],m,v,cs,h=>by simpa [growB] using h
 | x::xs,m,v,cs,h=>by
  rw [growB]
  have:=growB_own xs (growS el m v (cs++[x])) _ (cs++[x]) (by rw [List.length_append];exact growS_own x)
  rw [List.length_append,List.append_assoc] at this
  rw [List.length_cons,show cs.length+(xs.length+1)=cs.length+[x].length+xs.length by simp;omega]
  exact this
theorem app_grow {P : Program} {el : TypeId} {m : Mem} {v x y : AV} {n : Nat} {zl : List Value} {cs : List AV} {yb : Nat} (hkd : kindT P el = .flat) (ho : Own m el 1 v n cs) (h1 : szE P el = some 1) (h2 : byE P el = some yb) (h3 : zeroE P el = some zl) (h4 : zl.length = 1) (h5 : srcE P el 1 m x = some ([y], 1)) (h7 : (n + 1) * yb ≤ 140737488355328) (h8 : n + 1 ≤ 140737488355328) :
   appE P el m v x = some ⟨.sl m.next 0 (cs.length + 1) (cs.length + 1) false, growS el m v (cs ++ [y]), none⟩ := by
 have hl := ho.len
 rcases ho.form with ⟨rfl, rfl, rfl⟩ | ⟨b, rfl, hb, hlt, hn⟩
 · simp only [appE, h1, h2, h3, h5, Option.bind_some, slView, nilS]
   simp at h7 h8
   simp [outV, h4, h7, h8, hkd, growS, blkOf]
 · have hlen : cs.length = n := by omega
   simp only [appE, h1, h2, h3, h5, slView, hb, hkd, Option.bind_some, hlen]
   simp [tight, outV, h4, h7, h8, hlen, growS, blkOf, Nat.ne_of_gt hn]
   omega
end Go.Tw