import Derived.Test.YtaekhhlgnbhnpaaGreatOycG07
import Derived.Scope
set_option linter.unusedVariables false
set_option linter.unusedSimpArgs false
namespace Go.Tw
open Go
def eC (P:Program) (once:Nat→Bool) (n:Nat):Code→(Ex→bI→aH→Prop)→bI→aH→Prop
 | .skip,Q,e,m=>Q .normal e m
 | .label _,Q,e,m=>Q .normal e m
 | .region _ ops d,Q,e,m=>iA P once d ops (Q .normal) ops.toList e m
 | .seq a b,Q,e,m=>eC P once n a (o7 (eC P once n b Q) Q) e m
 | .cond c a b,Q,e,m=>zX (eC P once n a Q e m) (eC P once n b Q e m) (opd e c)
 | .block id b,Q,e,m=>eC P once n b (nZ id Q) e m
 | .loop b,Q,e,m=>xW (eC P once n b) Q e m
 | .exit id,Q,e,m=>Q (.exit id) e m
 | .ret,Q,e,m=>Q .ret e m
 | .scope b,Q,e,m=>eC P once n b Q e m
 | _,_,_,_=>False
def lJ (n:Nat):Code→Bool
 | .region _ ops d=>zY n ops && (!d || afa ops)
 | .seq a b=>lJ n a && lJ n b
 | .cond _ a b=>lJ n a && lJ n b
 | .block _ b=>lJ n b
 | .loop b=>lJ n b
 | .scope b=>lJ n b
 | _=>true
section
variable {P:Program} {w0:World} {I0:Nat→Prop} {ρ0:cC} {m0:aH} {n:Nat} {D:List Deferred}
def afg (P:Program) (w0:World) (I0:Nat→Prop) (ρ0:cC) (m0:aH) (n:Nat) (D:List Deferred) (Q:Ex→bI→aH→Prop):Exit→Act→World→Prop
 | .normal,a,w=>∃ e m I ρ,Q .normal e m∧kQ P w0 I0 ρ0 m0 n D e m a w I ρ
 | .exit id,a,w=>∃ e m I ρ,Q (.exit id) e m∧kQ P w0 I0 ρ0 m0 n D e m a w I ρ
 | .ret,a,w=>∃ e m I ρ,Q .ret e m∧kQ P w0 I0 ρ0 m0 n D e m a w I ρ
 | _,_,_=>False
theorem ac6 (hm:P.follows .mixedOrders=true) {once:Nat→Bool}:∀ (c:Code) (Q:Ex→bI→aH→Prop) (e:bI) (m:aH) (a:Act) (w:World) (I:Nat→Prop) (ρ:cC),lJ n c=true→eC P once n c Q e m→kQ P w0 I0 ρ0 m0 n D e m a w I ρ→c.wp P (afg P w0 I0 ρ0 m0 n D Q) a w:=by
 intro c
 induction c with
 | skip=>exact fun Q e m a w I ρ _ h hR=>wp_skip ⟨e,m,I,ρ,h,hR⟩
 | label l=>exact fun Q e m a w I ρ _ h hR=>wp_label ⟨e,m,I,ρ,h,hR⟩
 | region id ops d =>
  intro Q e m a w I ρ hok h3 hR
  simp only [eC] at h3
  simp only [lJ,Bool.and_eq_true,Bool.or_eq_true,Bool.not_eq_true'] at hok
  obtain ⟨h1,h2⟩:=hok
  cases d with
  | false =>
   refine wp_region ?_
   have:=ae9 (w0:=w0) (I0:=I0) (ρ0:=ρ0) (m0:=m0) h1 (Q:=Q .normal) (Q':=afg P w0 I0 ρ0 m0 n D Q) (fun e m a w I ρ hq hR=>⟨e,m,I,ρ,hq,hR⟩) ops.toList 0 e m a w I ρ rfl h3 hR
   rw [List.range_eq_range']
   simpa using this
  | true=>exact apg hm h1 (h2.resolve_left (by simp)) (Q:=Q .normal) (Q':=afg P w0 I0 ρ0 m0 n D Q) (fun e m a w I ρ hq hR=>⟨e,m,I,ρ,hq,hR⟩) h3 hR
 | seq x y ihx ihy =>
  intro Q e m a w I ρ hok h hR
  simp only [eC] at h
  simp only [lJ,Bool.and_eq_true] at hok
  refine wp_seq (wp_mono (ihx _ e m a w I ρ hok.1 h hR) ?_)
  intro ex a' w' hq
  cases ex with
  | normal =>
   obtain ⟨e',m',I',ρ',h1,h2⟩:=hq
   exact ihy Q e' m' a' w' I' ρ' hok.2 h1 h2
  | exit id=>exact hq
  | ret=>exact hq
  | goto l=>exact hq
  | panic c=>exact hq
  | outgrown=>exact hq
 | cond c x y ihx ihy =>
  intro Q e m a w I ρ hok h hR
  simp only [eC] at h
  simp only [lJ,Bool.and_eq_true] at hok
  have hc:=dW hR.er c
  unfold zX at h
  split at h
  ·rename_i t ht
   rw [ht] at hc
   simp only [VR] at hc
   exact wp_cond_split hc (fun ht=>ihx Q e m a w I ρ hok.1 (h.1 ht) hR) (fun ht=>ihy Q e m a w I ρ hok.2 (h.2 ht) hR)
  ·exact h.elim
 | block id b ih =>
  intro Q e m a w I ρ hok h hR
  simp only [eC] at h
  simp only [lJ,Bool.and_eq_true] at hok
  refine wp_block (wp_mono (ih _ e m a w I ρ hok h hR) ?_)
  intro ex a' w' hq
  cases ex with
  | exit id' =>
   obtain ⟨e',m',I',ρ',h1,h2⟩:=hq
   simp only [nZ] at h1
   simp only [Exit.inBlock]
   split at h1
   ·rename_i hid;rw [if_pos hid];exact ⟨e',m',I',ρ',h1,h2⟩
   ·rename_i hid;rw [if_neg hid];exact ⟨e',m',I',ρ',h1,h2⟩
  | normal=>exact hq
  | ret=>exact hq
  | goto l=>exact hq
  | panic c=>exact hq
  | outgrown=>exact hq
 | loop b ih =>
  intro Q e m a w I ρ hok h hR
  simp only [eC] at h
  simp only [lJ,Bool.and_eq_true] at hok
  obtain ⟨J,k,hJ,hround⟩:=h
  refine wp_loop_ghost (fun k a w=>∃ e m I ρ,J k e m∧kQ P w0 I0 ρ0 m0 n D e m a w I ρ) k ⟨e,m,I,ρ,hJ,hR⟩ ?_
  rintro k a w ⟨e,m,I,ρ,hJ,hR⟩
  refine wp_mono (ih _ e m a w I ρ hok (hround k e m hJ) hR) ?_
  intro ex a' w' hq
  cases ex with
  | normal =>
   obtain ⟨e',m',I',ρ',⟨k',hlt,h1⟩,h2⟩:=hq
   exact ⟨k',hlt,e',m',I',ρ',h1,h2⟩
  | exit id=>exact hq
  | ret=>exact hq
  | goto l=>exact hq
  | panic c=>exact hq
  | outgrown=>exact hq
 | exit id=>exact fun Q e m a w I ρ _ h hR=>wp_exit ⟨e,m,I,ρ,h,hR⟩
 | ret=>exact fun Q e m a w I ρ _ h hR=>wp_ret ⟨e,m,I,ρ,h,hR⟩
 | rangeFunc f ps x y=>exact fun Q e m a w I ρ _ h hR=>h.elim
 | scope b ih =>
  intro Q e m a w I ρ hok h hR
  simp only [eC] at h
  simp only [lJ] at hok
  refine wp_scope_straight (wp_mono (ih _ e m a w I ρ hok h hR) ?_)
  intro ex a' w' hq
  cases ex with
  | normal=>exact hq
  | exit id=>exact hq
  | ret=>exact hq
  | goto l=>exact hq.elim
  | panic c=>exact hq.elim
  | outgrown=>exact hq.elim
 | goto l=>exact fun Q e m a w I ρ _ h hR=>h.elim
 | refuse s=>exact fun Q e m a w I ρ _ h hR=>h.elim
theorem afh {w : World} {I : Nat → Prop} {ρ : cC} {m : aH} {args : List AV} {vs : Array Value} (hS : SR P w I ρ m) (hsz : vs.size = args.length) (hv : bH P w I ρ args (fun j => vs[j]?)) (hfree : ∀ b, m.next ≤ b → ρ b = none) (hle : args.length ≤ n) :
   kQ P w I ρ m n [] (nV args) m { tmps := vs ++ Array.replicate (n - vs.size) undef, defers := [] } w I ρ where
 er := by
   intro t
   simp only [nV]
   rw [Array.getD_eq_getD_getElem?, List.getD_eq_getElem?_getD]
   rcases Nat.lt_or_ge t args.length with h | h
   · obtain ⟨v, h1, h2⟩ := gN hv (List.getElem?_eq_getElem h)
     rw [Array.getElem?_append_left (by omega), h1, List.getElem?_eq_getElem h]
     exact h2
   · rw [List.getElem?_eq_none h]
     rcases Nat.lt_or_ge t n with h3 | h3
     · rw [Array.getElem?_append_right (by omega), Array.getElem?_replicate, if_pos (by omega)]
       simp only [Option.getD_none, Option.getD_some, eI, undef, VR]
     · rw [Array.getElem?_eq_none (by simp; omega)]
       simp only [Option.getD_none, eI, undef, VR]
 sr := hS
 free := hfree
 step := cM.refl _ _ _ _
 size := by simp; omega
 defers := rfl
def abu (tmps:Array Value):ResultVar→Sem Value
 | .tmp t=>pure (tmps.getD t undef)
 | .cell a t=>do loadVar t (←asAddr (tmps.getD a undef))
theorem ah9 {w : World} {I : Nat → Prop} {ρ : cC} {e : bI} {m : aH} {a : Act} (hS : SR P w I ρ m) (he : ER P w I ρ e a) : ∀ (rs : List ResultVar) (avs : List AV), mS P e m rs = some avs →
   ∃ vs : List Value, (rs.mapM (abu a.tmps)).run P w = .ok vs w ∧ vs.length = avs.length ∧ bH P w I ρ avs (fun j => vs[j]?)
 | [], avs, h => by
   simp only [mS, Option.some.injEq] at h
   subst h
   exact ⟨[], by simp, rfl, by simp only [bH]⟩
 | r :: rs, avs, h => by
   simp only [mS] at h
   obtain ⟨av, hav, h⟩ := Option.bind_eq_some_iff.1 h
   obtain ⟨avs', h', rfl⟩ := Option.map_eq_some_iff.1 h
   obtain ⟨vs, h1, h2, h3⟩ := ah9 hS he rs avs' h'
   cases r with
   | tmp t =>
     simp only [nW, Option.some.injEq] at hav
     subst hav
     refine ⟨a.tmps.getD t undef :: vs, by simp [List.mapM_cons, abu, h1], by simp [h2], ?_⟩
     simp only [bH]
     exact ⟨⟨_, rfl, he t⟩, h3⟩
   | cell p t =>
     simp only [nW] at hav
     obtain ⟨v, h4, h5⟩ := ahe hS hav (he p)
     refine ⟨v :: vs, ?_, by simp [h2], ?_⟩
     · have h6 : (do loadVar t (← asAddr (a.tmps.getD p undef)) : Sem Value).run P w = .ok v w := by
         have hp := he p
         unfold iX at hav
         split at hav
         · rename_i heq; rw [heq] at hp; simp only [VR] at hp; obtain ⟨g, o, _, hp⟩ := hp
           rw [hp] at h4 ⊢; simpa [Instr.loadAt, Instr.sureAddr, asAddr] using h4
         · rename_i heq; rw [heq] at hp; simp only [VR] at hp; obtain ⟨g, o, hp, _⟩ := hp
           rw [hp] at h4 ⊢; simpa [Instr.loadAt, Instr.sureAddr, asAddr] using h4
         · cases hav
       have h7 : (abu a.tmps (.cell p t)).run P w = .ok v w := h6
       simp only [List.mapM_cons, Sem.run_bind, Sem.run_pure, h7, Result.andThen_ok, h1]
     · simp only [bH]
       exact ⟨⟨v, rfl, h5⟩, h3⟩
theorem afi {w:World} {I:Nat→Prop} {ρ:cC} {e:bI} {m:aH} {a:Act} (hS:SR P w I ρ m) (he:ER P w I ρ e a) {fn:Func} {av:AV} (h:jU P fn.results.toList e m=some av):∃ v,(results fn a.tmps).run P w = .ok v w∧VR P w I ρ av v:=by
 unfold jU at h
 obtain ⟨avs,havs,h⟩:=Option.map_eq_some_iff.1 h
 obtain ⟨vs,h1,h2,h3⟩:=ah9 hS he fn.results.toList avs havs
 have hres:results fn a.tmps=(do
  let vs ←fn.results.mapM (abu a.tmps)
  pure (if h:vs.size=1 then vs[0] else .tuple vs)):=rfl
 have hrun:(fn.results.mapM (abu a.tmps)).run P w = .ok vs.toArray w:=by
  rw [Array.mapM_eq_mapM_toList,Sem.run_map,h1]
  rfl
 rw [hres]
 simp only [Sem.run_bind,hrun,Result.andThen_ok,Sem.run_pure]
 refine ⟨_,rfl, ?_⟩
 split at h
 ·rename_i x
  subst h
  simp only [List.length_cons,List.length_nil] at h2
  match vs,h2,h3 with
  | [v],_,h3 =>
   simp only [bH] at h3
   obtain ⟨⟨u,h4,h5⟩,_⟩:=h3
   simp at h4
   subst h4
   simpa using h5
 ·rename_i hne
  subst h
  have hl:vs.length≠1:=by
   intro h
   rw [h2] at h
   obtain ⟨x,hx⟩:=List.length_eq_one_iff.1 h
   exact hne x hx
  rw [dif_neg (by simpa using hl)]
  simp only [VR]
  exact ⟨vs.toArray,rfl,by simpa using h2,by simpa using h3⟩
def zZ (P:Program) (rs:List ResultVar) (K:AV→aH→Prop):Ex→bI→aH→Prop
 | .exit _,_,_=>False
 | _,e,m=>match jU P rs e m with
  | some v=>K v m
  | none=>False
theorem bB (hm : P.follows .mixedOrders = true) {f : FuncId} {fn : Func} {c : Code} (hf : P.funcs[f]? = some fn) (hb : fn.body = some c) (hn : fn.name ≠ "runtime.NumGoroutine") (once : Nat → Bool) {args : List AV} {r : iO} (hle : args.length ≤ fn.ntmps) (hok : lJ fn.ntmps c = true)
   (h : eC P once fn.ntmps c (zZ P fn.results.toList fun v m => mE P m v = some r) (nV args) aH.empty) : aY P f args r := by
 refine ⟨by simp [rY, hf, hb, hn], fun w I vs hI hsz hv => ?_⟩
 have hS : SR P w I dG aH.empty := ⟨fun b k g o h => by simp [aH.empty] at h, fun b b' k k' g o o' h => by simp [aH.empty] at h, hI, jV.none⟩
 have hR := afh (n := fn.ntmps) hS hsz hv (fun _ _ => rfl) hle
 refine calls_of_wp hf hb (wp_mono (ac6 hm c _ _ _ _ w I dG hok h hR) ?_)
 intro ex a w' hq
 have fin : ∀ e m I' ρ', (match jU P fn.results.toList e m with | some v => mE P m v = some r | none => False) → kQ P w I dG aH.empty fn.ntmps [] e m a w' I' ρ' →
     a.defers = [] ∧ ∃ v, (results fn a.tmps).run P w' = .ok v w' ∧ ∃ v' I' ρ', Ending.returned v = .returned v' ∧ VR P w' I' ρ' r.v v' ∧ SR P w' I' ρ' (eB P aH.empty r.rows) ∧ cM w I dG aH.empty w' I' ρ' (eB P aH.empty r.rows) := by
   intro e m I' ρ' h1 h2
   split at h1
   · rename_i av hav
     obtain ⟨v, h3, h4⟩ := afi h2.sr h2.er hav
     obtain ⟨ρ'', h5, h6, h7⟩ := ahG h2.sr h2.step h4 h1
     exact ⟨h2.defers, v, h3, v, I', ρ'', rfl, h5, h6, h7⟩
   · exact h1.elim
 cases ex with
 | normal => obtain ⟨e, m, I', ρ', h1, h2⟩ := hq; exact fin e m I' ρ' h1 h2
 | ret => obtain ⟨e, m, I', ρ', h1, h2⟩ := hq; exact fin e m I' ρ' h1 h2
 | exit id => obtain ⟨e, m, I', ρ', h1, h2⟩ := hq; exact h1.elim
 | goto l => exact hq.elim
 | panic c => exact hq.elim
 | outgrown => exact hq.elim
theorem aia (hm : P.follows .mixedOrders = true) {fn : Func} {c : Code} (once : Nat → Bool) {args : List AV} {m : aH} {Q : AV → aH → Prop} (hle : args.length ≤ fn.ntmps) (hok : lJ fn.ntmps c = true)
   (h : eC P once fn.ntmps c (zZ P fn.results.toList Q) (nV args) m) {w : World} {I : Nat → Prop} {ρ : cC} {vs : Array Value} (hS : SR P w I ρ m) (hsz : vs.size = args.length) (hv : bH P w I ρ args (fun j => vs[j]?)) (hfree : ∀ b, m.next ≤ b → ρ b = none) :
   c.wp P (bodyPost P fn fun en w' => ∃ v r m' I' ρ', en = .returned v ∧ Q r m' ∧ VR P w' I' ρ' r v ∧ SR P w' I' ρ' m' ∧ cM w I ρ m w' I' ρ' m' ∧ ∀ b, m'.next ≤ b → ρ' b = none) { tmps := vs ++ Array.replicate (fn.ntmps - vs.size) undef, defers := [] } w := by
 refine wp_mono (ac6 hm c _ _ _ _ w I ρ hok h (afh (n := fn.ntmps) hS hsz hv hfree hle)) ?_
 intro ex a w' hq
 have fin : ∀ e m' I' ρ', (match jU P fn.results.toList e m' with | some v => Q v m' | none => False) → kQ P w I ρ m fn.ntmps [] e m' a w' I' ρ' →
     a.defers = [] ∧ ∃ v, (results fn a.tmps).run P w' = .ok v w' ∧ ∃ v' r m' I' ρ', Ending.returned v = .returned v' ∧ Q r m' ∧ VR P w' I' ρ' r v' ∧ SR P w' I' ρ' m' ∧ cM w I ρ m w' I' ρ' m' ∧ ∀ b, m'.next ≤ b → ρ' b = none := by
   intro e m' I' ρ' h1 h2
   split at h1
   · rename_i av hav
     obtain ⟨v, h3, h4⟩ := afi h2.sr h2.er hav
     exact ⟨h2.defers, v, h3, v, av, m', I', ρ', rfl, h1, h4, h2.sr, h2.step, h2.free⟩
   · exact h1.elim
 cases ex with
 | normal => obtain ⟨e, m, I', ρ', h1, h2⟩ := hq; exact fin e m I' ρ' h1 h2
 | ret => obtain ⟨e, m, I', ρ', h1, h2⟩ := hq; exact fin e m I' ρ' h1 h2
 | exit id => obtain ⟨e, m, I', ρ', h1, h2⟩ := hq; exact h1.elim
 | goto l => exact hq.elim
 | panic c => exact hq.elim
 | outgrown => exact hq.elim
theorem bJ (hm : P.follows .mixedOrders = true) {f : FuncId} {fn : Func} {c : Code} (hf : P.funcs[f]? = some fn) (hb : fn.body = some c) (hn : fn.name ≠ "runtime.NumGoroutine") (once : Nat → Bool) {args : List AV} {m : aH} {Q : AV → aH → Prop} (hle : args.length ≤ fn.ntmps) (hok : lJ fn.ntmps c = true)
   (h : eC P once fn.ntmps c (zZ P fn.results.toList Q) (nV args) m) : gO P f args m Q :=
 ⟨by simp [rY, hf, hb, hn], fun w I ρ vs hS hsz hv hfree => calls_of_wp hf hb (aia hm once hle hok h hS hsz hv hfree)⟩
end
def z6 (P:Program) (t:TypeId):Option IntKind:=match P.underlying t with | some (.int k)=>some k | _=>none
def mW (P:Program) (once:Nat→Bool) (d:Bool) (ops:Array Oper) (Q:bI→aH→Prop) (rest:List Oper) (e:bI) (m:aH) (dst:Option Nat) (out:bS):Prop :=
 (d=true→drawn once ops (rest.length+1) m out)∧iA P once d ops Q rest ((sC e out.wb).put dst out.v) out.m
section
variable {P:Program} {once:Nat→Bool} {d:Bool} {n:Nat} {ops:Array Oper} {Q:bI→aH→Prop} {e:bI} {m:aH} {K:bS→Prop} {R:Ex→bI→aH→Prop}
theorem aib:iA P once d ops Q [] e m=Q e m:=rfl
theorem aic {o:Oper} {rest:List Oper}:iA P once d ops Q (o::rest) e m=if qC ops e o then cD P d (once (o.dst.getD 0)) e m o.type (mW P once d ops Q rest e m o.dst) o.op else iA P once d ops Q rest (e.put o.dst eI) m:=rfl
theorem aid {rest:List Oper} {dst:Option Nat} {op:Op} {ty:TypeId} {pos:String} {after:Array Edge}:iA P once d ops Q (⟨dst,op,ty,pos,after,none⟩::rest) e m=cD P d (once (dst.getD 0)) e m ty (mW P once d ops Q rest e m dst) op:=rfl
def vS:List Oper→Nat→Option Nat
 | [],_=>none
 | o::_,0=>o.dst
 | _::l,n+1=>vS l n
theorem aie {dst:Option Nat} {op:Op} {ty:TypeId} {pos:String} {after:Array Edge} {g:Option (Nat×Bool)} {l:List Oper}:vS (⟨dst,op,ty,pos,after,g⟩::l) 0=dst:=rfl
theorem aif {o:Oper} {l:List Oper} {n:Nat}:vS (o::l) (n+1)=vS l n:=rfl
theorem aig:∀ (l:List Oper) (j:Nat),vS l j=(l[j]?).bind (·.dst)
 | [],_=>rfl
 | o::_,0=>rfl
 | _::l,n+1=>by rw [vS,aig l n];rfl
def afj (e:bI):Option Nat→AV
 | some d=>e d
 | none=>eI
theorem aih {j:Nat}:afj e (some j)=e j:=rfl
def afk (want:Bool) (A B:Prop):AV→Prop
 | .val (.bool b)=>match b == want with
  | true=>A
  | false=>B
 | _=>B
theorem aph {o : Oper} {j : Nat} {want : Bool} (h : o.guard = some (j, want)) : qC ops e o = match afj e (vS ops.toList j) with
   | .val (.bool b) => b == want
   | _ => false := by
 rw [aig, Array.getElem?_toList]
 unfold qC
 rw [h]
 simp only
 cases (ops[j]?).bind (·.dst) <;> rfl
theorem api {want:Bool} {A B:Prop} (x:AV) {c:Bool} (h:c=match x with | .val (.bool b)=>b == want | _=>false):(if c=true then A else B)=afk want A B x:=by
 subst h
 unfold afk
 split
 ·rename_i b
  have:∀ c:Bool,(if c=true then A else B)=(match c with | true=>A | false=>B):=by intro c;cases c <;> simp
  exact this _
 ·simp
def q9 (P:Program) (once:Nat→Bool) (d:Bool) (ops:Array Oper) (Q:bI→aH→Prop) (rest:List Oper) (dst:Option Nat) (op:Op) (ty:TypeId) (e:bI) (m:aH) (want:Bool) (x:AV):Prop :=
 afk want (cD P d (once (dst.getD 0)) e m ty (mW P once d ops Q rest e m dst) op) (iA P once d ops Q rest (e.put dst eI) m) x
section
variable {rest:List Oper} {dst:Option Nat} {op:Op} {ty:TypeId} {want:Bool} {pos:String} {after:Array Edge} {j:Nat}
theorem aii:iA P once d ops Q (⟨dst,op,ty,pos,after,some (j,want)⟩::rest) e m=q9 P once d ops Q rest dst op ty e m want (afj e (vS ops.toList j)):=by
 rw [aic]
 exact api _ (aph rfl)
theorem aij:q9 P once d ops Q rest dst op ty e m true (.val (.bool true))=cD P d (once (dst.getD 0)) e m ty (mW P once d ops Q rest e m dst) op:=rfl
theorem aik:q9 P once d ops Q rest dst op ty e m false (.val (.bool false))=cD P d (once (dst.getD 0)) e m ty (mW P once d ops Q rest e m dst) op:=rfl
theorem ail:q9 P once d ops Q rest dst op ty e m true (.val (.bool false))=iA P once d ops Q rest (e.put dst eI) m:=rfl
theorem aim:q9 P once d ops Q rest dst op ty e m false (.val (.bool true))=iA P once d ops Q rest (e.put dst eI) m:=rfl
theorem ain:q9 P once d ops Q rest dst op ty e m want eI=iA P once d ops Q rest (e.put dst eI) m:=rfl
theorem apj {t:Bool} (h1:t=true→q9 P once d ops Q rest dst op ty e m want (.val (.bool true))) (h2:t=false→q9 P once d ops Q rest dst op ty e m want (.val (.bool false))):q9 P once d ops Q rest dst op ty e m want (.val (.bool t)):=by
 cases t with
 | true=>exact h1 rfl
 | false=>exact h2 rfl
end
section
variable {rest:List Oper} {dst:Option Nat} {op:Op} {ty:TypeId} {want:Bool} {p:Prop} [Decidable p]
theorem xX (h1:p→q9 P once d ops Q rest dst op ty e m want (.val (.bool true))) (h2:¬p→q9 P once d ops Q rest dst op ty e m want (.val (.bool false))):q9 P once d ops Q rest dst op ty e m want (.val (.bool (decide p))) :=
 apj (fun h=>h1 (of_decide_eq_true h)) (fun h=>h2 (of_decide_eq_false h))
end
def sG (P:Program) (once:Nat→Bool) (n:Nat) (a b:Code) (R:Ex→bI→aH→Prop) (e:bI) (m:aH) (x:AV):Prop:=zX (eC P once n a R e m) (eC P once n b R e m) x
section
variable {a b:Code}
theorem aio {c:Operand}:eC P once n (.cond c a b) R e m=sG P once n a b R e m (opd e c):=rfl
theorem abv {t:Bool} (h1:t=true→sG P once n a b R e m (.val (.bool true))) (h2:t=false→sG P once n a b R e m (.val (.bool false))):sG P once n a b R e m (.val (.bool t)):=by
 cases t with
 | true=>exact h1 rfl
 | false=>exact h2 rfl
theorem aip {p:Prop} [Decidable p] (h1:p→sG P once n a b R e m (.val (.bool true))) (h2:¬p→sG P once n a b R e m (.val (.bool false))):sG P once n a b R e m (.val (.bool (decide p))) :=
 abv (fun h=>h1 (of_decide_eq_true h)) (fun h=>h2 (of_decide_eq_false h))
theorem dC:sG P once n a b R e m (.val (.bool true))=eC P once n a R e m:=by simp [sG,zX]
theorem cS:sG P once n a b R e m (.val (.bool false))=eC P once n b R e m:=by simp [sG,zX]
end
theorem lW {x y:AV}:aa6 x y (.val (.bool true))=some x:=rfl
theorem lX {x y:AV}:aa6 x y (.val (.bool false))=some y:=rfl
theorem aiq {m':aH} {rest:List Oper} {dst:Nat} {v:AV}:mW P once false ops Q rest e m (some dst) ⟨v,m',none⟩=iA P once false ops Q rest (e.set dst v) m':=by simp [mW,sC,bI.put]
theorem air {m':aH} {rest:List Oper} {v:AV}:mW P once false ops Q rest e m none ⟨v,m',none⟩=iA P once false ops Q rest e m':=by simp [mW,sC,bI.put]
theorem ais {rest:List Oper} {dst:Option Nat} {v x:AV} {m':aH} {t:Nat}:mW P once false ops Q rest e m dst ⟨v,m',some (t,x)⟩=iA P once false ops Q rest ((e.set t x).put dst v) m':=by simp [mW,sC]
theorem ait {rest:List Oper} {dst:Nat} {v:AV}:mW P once true ops Q rest e m (some dst) ⟨v,m,none⟩=iA P once true ops Q rest (e.set dst v) m:=by simp [mW,sC,bI.put,drawn]
theorem aiu {rest:List Oper} {v:AV}:mW P once true ops Q rest e m none ⟨v,m,none⟩=iA P once true ops Q rest e m:=by simp [mW,sC,bI.put,drawn]
theorem cU {rest:List Oper} {dst:Option Nat} {v:AV} {m':aH} (hf:ac1 once ops (ops.size - (rest.length+1))=true) (h:iA P once true ops Q rest (e.put dst v) m'):mW P once true ops Q rest e m dst ⟨v,m',none⟩:=⟨fun _=>⟨rfl,.inl hf⟩,h⟩
theorem mG {rest:List Oper} {dst:Option Nat} {v:AV} {x:eQ} (hf:uD once ops (ops.size - (rest.length+1))=true) (h:iA P once true ops Q rest (e.put dst v) (m.push x)):mW P once true ops Q rest e m dst ⟨v,m.push x,none⟩:=⟨fun _=>⟨rfl,.inr (.inr ⟨hf,x,rfl⟩)⟩,h⟩
theorem aiv {o:bS}:eL (some o) K=K o:=rfl
theorem aiw {v:AV}:eL (eR (some v) m) K=K ⟨v,m,none⟩:=rfl
theorem aix {v:AV}:eL (bK v m) K=K ⟨v,m,none⟩:=rfl
theorem afl {t:Nat} {v:AV}:e.put (some t) v=e.set t v:=rfl
theorem aiy {v:AV}:e.put none v=e:=rfl
theorem aiz {t j:Nat} {v:AV}:(e.set t v) j=if j=t then v else e j:=rfl
theorem aiA {K:bI→aH→Prop}:o7 K R .normal e m=K e m:=rfl
theorem aiB {K:bI→aH→Prop}:o7 K R .ret e m=R .ret e m:=rfl
theorem aiC {K:bI→aH→Prop} {id:Nat}:o7 K R (.exit id) e m=R (.exit id) e m:=rfl
theorem aiD {id:Nat}:nZ id R .normal e m=R .normal e m:=rfl
theorem aiE {id:Nat}:nZ id R .ret e m=R .ret e m:=rfl
theorem aiF {id id':Nat}:nZ id R (.exit id') e m=if id'=id then R .normal e m else R (.exit id') e m:=rfl
theorem aiG {rs:List ResultVar} {K:AV→aH→Prop}:zZ P rs K .ret e m=match jU P rs e m with | some v=>K v m | none=>False:=rfl
theorem aiH {rs:List ResultVar} {K:AV→aH→Prop}:zZ P rs K .normal e m=match jU P rs e m with | some v=>K v m | none=>False:=rfl
theorem aiI {t:Tmp}:jU P [.tmp t] e m=some (e t):=rfl
theorem aiJ {t u:Tmp}:jU P [.tmp t,.tmp u] e m=some (.tup [e t,e u]):=rfl
theorem aiK {t u x:Tmp}:jU P [.tmp t,.tmp u,.tmp x] e m=some (.tup [e t,e u,e x]):=rfl
theorem aiL {t:Nat}:opd e (.tmp t)=e t:=rfl
theorem aiM {a:AV} {l:List AV}:nV (a::l) 0=a:=rfl
theorem aiN {a:AV} {l:List AV} {n:Nat}:nV (a::l) (n+1)=nV l n:=rfl
theorem aiO {n:Nat}:nV [] n=eI:=rfl
theorem aiP {v:Value}:opd e (.const v) = .val v:=rfl
theorem aiQ {f:FuncId}:opd e (.func f) = .clo f []:=rfl
@[congr] theorem outW_congr {r r':Option bS} (h:r=r'):eL r K=eL r' K:=by rw [h]
@[congr] theorem makeW_congr {m m':aH} (h:m=m'):zS m K=zS m' K:=by rw [h]
@[congr] theorem rangeW_congr {x x':AV} {t:TypeId} (h:x=x'):zT P m t x K=zT P m t x' K:=by rw [h]
@[congr] theorem nextW_congr {x x':AV} (h:x=x'):zU m x K=zU m x' K:=by rw [h]
@[congr] theorem calleeW_congr {c c':Bool} {args:List AV} {x x':AV} (hc:c=c') (h:x=x'):mV P d c m args K x=mV P d c' m args K x':=by rw [h,hc]
theorem aiR {id:Nat} {ops:Array Oper} {d:Bool}:eC P once n (.region id ops d) R e m=iA P once d ops (R .normal) ops.toList e m:=rfl
theorem aiS {a b:Code}:eC P once n (.seq a b) R e m=eC P once n a (o7 (eC P once n b R) R) e m:=rfl
theorem aiT {id:Nat} {b:Code}:eC P once n (.block id b) R e m=eC P once n b (nZ id R) e m:=rfl
theorem b7 {b:Code}:eC P once n (.loop b) R e m=xW (eC P once n b) R e m:=rfl
theorem aiU {id:Nat}:eC P once n (.exit id) R e m=R (.exit id) e m:=rfl
theorem aiV:eC P once n .ret R e m=R .ret e m:=rfl
theorem aiW {b:Code}:eC P once n (.scope b) R e m=eC P once n b R e m:=rfl
theorem aiX {l:Nat}:eC P once n (.label l) R e m=R .normal e m:=rfl
theorem aiY:eC P once n .skip R e m=R .normal e m:=rfl
theorem aiZ {once:Bool} {ty:TypeId} {x:Operand}:cD P d once e m ty K (.move x)=K ⟨opd e x,m,none⟩:=rfl
theorem ai0 {once:Bool} {ty:TypeId} {x:Operand}:cD P d once e m ty K (.assign x)=K ⟨opd e x,m,none⟩:=rfl
end
theorem pre:(type_of% @aib)∧(type_of% @aid)∧(type_of% @aii)∧(type_of% @aiq)∧(type_of% @air)∧(type_of% @ait)∧(type_of% @aiu)∧(type_of% @ais)∧(type_of% @aiw)∧(type_of% @aix)∧(type_of% @aiv)∧(type_of% @aiA)∧(type_of% @aiB)∧(type_of% @aiC)∧(type_of% @aiD)∧(type_of% @aiE)∧(type_of% @aiF)∧(type_of% @aiG)∧(type_of% @aiH)∧(type_of% @aiI)∧(type_of% @aiJ)∧(type_of% @aiK)∧(type_of% @aiL)∧(type_of% @aiP)∧(type_of% @aiQ)∧(type_of% @aiz)∧(type_of% @afl)∧(type_of% @aiM)∧(type_of% @aiN)∧(type_of% @aiO)∧(type_of% @aiy)∧(type_of% @aie)∧(type_of% @aif)∧(type_of% @aih)∧(type_of% @aij)∧(type_of% @ail)∧(type_of% @aim)∧(type_of% @aik)∧(type_of% @ain)∧(type_of% @dC)∧(type_of% @cS)∧(type_of% @lW)∧(type_of% @lX)∧(type_of% @aiW)∧(type_of% @aiX)∧(type_of% @aiR)∧(type_of% @aiS)∧(type_of% @aio)∧(type_of% @aiT)∧(type_of% @aiU)∧(type_of% @aiV)∧(type_of% @aiY)∧(type_of% @aiZ)∧(type_of% @ai0) :=
 ⟨@aib,@aid,@aii,@aiq,@air,@ait,@aiu,@ais,@aiw,@aix,@aiv,@aiA,@aiB,@aiC,@aiD,@aiE,@aiF,@aiG,@aiH,@aiI,@aiJ,@aiK,@aiL,@aiP,@aiQ,@aiz,@afl,@aiM,@aiN,@aiO,@aiy,@aie,@aif,@aih,@aij,@ail,@aim,@aik,@ain,@dC,@cS,@lW,@lX,@aiW,@aiX,@aiR,@aiS,@aio,@aiT,@aiU,@aiV,@aiY,@aiZ,@ai0⟩
section
variable {P:Program} {t:TypeId} {x y:Operand} {k:IntKind} {a b:Int}
theorem o8 (op:BinOp):dP P op t x y (.val (.int k a)) (.val (.int k b))=((cN P (binOp op t (.int k a) (.int k b))).map .val):=by
 simp [dP,qA,eqGuard_at_int]
theorem ai1:dP P .lss t x y (.val (.int k a)) (.val (.int k b))=some (.val (.bool (decide (a < b)))):=by
 simp [o8,binOp,Op.intCmp,cN,Bind.bind,Sem.bind,Pure.pure]
theorem ai2:dP P .leq t x y (.val (.int k a)) (.val (.int k b))=some (.val (.bool (decide (a≤b)))):=by
 simp [o8,binOp,Op.intCmp,cN,Bind.bind,Sem.bind,Pure.pure]
theorem ai3:dP P .gtr t x y (.val (.int k a)) (.val (.int k b))=some (.val (.bool (decide (b < a)))):=by
 simp [o8,binOp,Op.intCmp,cN,Bind.bind,Sem.bind,Pure.pure]
theorem ai4:dP P .geq t x y (.val (.int k a)) (.val (.int k b))=some (.val (.bool (decide (b≤a)))):=by
 simp [o8,binOp,Op.intCmp,cN,Bind.bind,Sem.bind,Pure.pure]
theorem ai5:dP P .eql t x y (.val (.int k a)) (.val (.int k b))=some (.val (.bool (decide (a=b)))):=by
 have:(a == b)=decide (a=b):=by by_cases h:a=b <;> simp [h]
 simp [o8,binOp,Op.intCmp,cN,Bind.bind,Sem.bind,Pure.pure,this]
theorem ai6:dP P .neq t x y (.val (.int k a)) (.val (.int k b))=some (.val (.bool (!decide (a=b)))):=by
 have:(a != b) = !decide (a=b):=by by_cases h:a=b <;> simp [h]
 simp [o8,binOp,Op.intCmp,cN,Bind.bind,Sem.bind,Pure.pure,this]
theorem ai7:dP P .add t x y (.val (.int k a)) (.val (.int k b))=some (.val (.int k (k.wrap (a+b)))):=by
 simp [o8,binOp,Op.intArith,cN,Bind.bind,Sem.bind,Pure.pure]
theorem ai8:dP P .sub t x y (.val (.int k a)) (.val (.int k b))=some (.val (.int k (k.wrap (a - b)))):=by
 simp [o8,binOp,Op.intArith,cN,Bind.bind,Sem.bind,Pure.pure]
theorem ai9:dP P .mul t x y (.val (.int k a)) (.val (.int k b))=some (.val (.int k (k.wrap (a*b)))):=by
 simp [o8,binOp,Op.intArith,cN,Bind.bind,Sem.bind,Pure.pure]
theorem uG (hb:b≠0):dP P .quo t x y (.val (.int k a)) (.val (.int k b))=some (.val (.int k (k.wrap (a.tdiv b)))):=by
 simp [o8,binOp,Op.intDiv,cN,Bind.bind,Sem.bind,Pure.pure,hb]
theorem uH (hb:b≠0):dP P .rem t x y (.val (.int k a)) (.val (.int k b))=some (.val (.int k (a.tmod b))):=by
 simp [o8,binOp,Op.intDiv,cN,Bind.bind,Sem.bind,Pure.pure,hb]
theorem aja {c:Bool}:xN P .not (.val (.bool c))=some (.val (.bool !c)):=by
 simp [xN,Op.unary,cN,Bind.bind,Sem.bind,Pure.pure]
end
mutual
theorem ajb:∀ (v:AV),qW v=true→nI v=true
 | .val _,_=>rfl
 | .agg cs,h=>by simp only [qW] at h;simp only [nI];exact afm cs h
 | .tup cs,h=>by simp only [qW] at h;simp only [nI];exact afm cs h
 | .tree ..,h=>by simp [qW] at h
 | .tptr ..,h=>by simp [qW] at h
 | .emp ..,h=>by simp [qW] at h
 | .sl ..,h=>by simp [qW] at h
 | .ptr ..,h=>by simp [qW] at h
 | .clo ..,h=>by simp [qW] at h
theorem afm:∀ (l:List AV),acF l=true→nU l=true
 | [],_=>rfl
 | c::cs,h=>by
  simp only [acF,Bool.and_eq_true] at h
  simp only [nU,Bool.and_eq_true]
  exact ⟨ajb c h.1,afm cs h.2⟩
end
theorem apk:(∀ v,qW v=true→nI v=true)∧True:=⟨ajb,trivial⟩
section
variable {P:Program} {d:Bool} {m:aH} {K:bS→Prop} {f:FuncId}
theorem ajc {c:Bool} {args caps:List AV}:mV P false c m args K (.clo f caps)=nY P false f (args++caps) m K:=by cases c <;> rfl
theorem ajd {args caps:List AV}:mV P true false m args K (.clo f caps)=nY P true f (args++caps) m K:=rfl
theorem aje {args caps:List AV}:mV P true true m args K (.clo f caps)=xV P f (args++caps) m K:=rfl
mutual
def plain:AV→Bool
 | .val _ | .tree .. | .tptr .. | .emp .. => true
 | .agg cs=>dX cs
 | .clo _ cs=>dX cs
 | _=>false
def dX:List AV→Bool
 | []=>true
 | c::cs=>plain c && dX cs
end
mutual
theorem abw:∀ (k:Nat) (v:AV),plain v=true→lend k m v=some v∧iN v=false
 | k,.val v,h=>by unfold lend;simp [iN]
 | k,.tree _ _ _ _,h=>by unfold lend;simp [iN]
 | k,.tptr _ _,h=>by unfold lend;simp [iN]
 | k,.emp _ _,h=>by unfold lend;simp [iN]
 | k,.agg cs,h=>by
  simp only [plain] at h
  unfold lend
  simp [iN,(sH k cs h).1,(sH k cs h).2]
 | k,.clo f cs,h=>by
  simp only [plain] at h
  unfold lend
  simp [iN,(sH k cs h).1,(sH k cs h).2]
 | k,.tup _,h=>by simp [plain] at h
 | k,.sl _ _ _ _ _,h=>by simp [plain] at h
 | k,.ptr _ _,h=>by simp [plain] at h
theorem sH:∀ (k:Nat) (v:List AV),dX v=true→gI k m v=some v∧jH v=false
 | k,[],h=>by unfold gI;simp [jH]
 | k,c::cs,h=>by
  simp only [dX,Bool.and_eq_true] at h
  unfold gI
  simp [jH,abw k c h.1,sH k cs h.2]
end
theorem aL {args:List AV} {r:iO} (h:aY P f args r) (hp:dX args=true) (hk:K ⟨shift m.next r.v,eB P m r.rows,none⟩):nY P d f args m K :=
 .inl ⟨args,r,(sH 3 args hp).1,h,.inl (sH (m:=m) 3 args hp).2,hk⟩
theorem bM {args:List AV} {v:AV} (h:aY P f args ⟨v,[]⟩) (hp:dX args=true) (hs:∀ k,shift k v=v) (hk:K ⟨v,m,none⟩):xV P f args m K :=
 ⟨_,h,rfl,fun k m=>(sH k args hp).1,(sH (m:=m) 3 args hp).2,hs,hk⟩
theorem ajf {args args':List AV} {r:iO} (h:aY P f args' r) (hl:gI 3 m args=some args') (hs:qW r.v=true) (hw:r.rows=[]) (hk:K ⟨shift m.next r.v,m,none⟩):nY P d f args m K :=
 .inl ⟨args',r,hl,h,.inr (by
  simp only [iO.apart,hw,List.all_nil,Bool.and_true]
  exact (apk.1 r.v hs)),by rw [hw];exact hk⟩
theorem ajg {args args':List AV} {r:iO} (h:aY P f args' r) (hl:gI 3 m args=some args') (hs:r.apart=true) (hk:K ⟨shift m.next r.v,eB P m r.rows,none⟩):nY P d f args m K :=
 .inl ⟨args',r,hl,h,.inr hs,hk⟩
theorem xY {args args':List AV} {r:iO} {m1:aH} (h:aY P f args' r) (hl:fzs m args=some (args',m1)) (hk:K ⟨shift m1.next r.v,eB P m1 r.rows,none⟩):nY P d f args m K :=
 .inr (.inr (.inr (.inr ⟨args',m1,r,hl,h,hk⟩)))
end
theorem ac7 {a b:Bool} (h:a=true↔b=true):(some ⟨.val (.bool a),[]⟩:Option iO)=some ⟨bC b,[]⟩:=by
 have:a=b:=by cases a <;> cases b <;> simp_all
 rw [this];rfl
theorem min2 {P:Program} {m:aH} {ts:Array TypeId} {ty:TypeId} {k:IntKind} {a b:Int}:qV P m ts ty [.val (.int k a),.val (.int k b)] .min=some ⟨.val (.int k (min a b)),m,none⟩:=by
 have:(if b < a then b else a)=min a b:=by omega
 simp [qV,p9,iV,Builtin.min_,Builtin.min2,cN,eR,Bind.bind,Sem.bind,Pure.pure,this]
theorem max2 {P:Program} {m:aH} {ts:Array TypeId} {ty:TypeId} {k:IntKind} {a b:Int}:qV P m ts ty [.val (.int k a),.val (.int k b)] .max=some ⟨.val (.int k (max a b)),m,none⟩:=by
 have:(if b > a then b else a)=max a b:=by omega
 simp [qV,p9,iV,Builtin.max_,Builtin.max2,cN,eR,Bind.bind,Sem.bind,Pure.pure,this]
theorem ajh {P:Program} {c:Bool} {m:aH} {t:TypeId} {x:AV}:sA P false c m t x=iX P m t x:=rfl
theorem aji {P:Program} {m:aH} {t:TypeId} {x:AV}:sA P true false m t x=iX P m t x:=rfl
theorem ajj {P:Program} {m:aH} {t:TypeId} {off:Nat} {cells:List AV}:sA P true true m t (.tptr off cells)=kO P t cells off:=rfl
theorem apl {P:Program} {m:aH} {src dst:TypeId} {s:ByteArray} (h:(bZ P dst).isSome=true) (h1:(bZ P dst).all (p7 P)=true) (h2:mQ P src=true) (h3:(bZ P dst).bind (cG P)=some 1):mF P true m src dst (.val (.string s))=some ⟨.tree s.size s.size (fE s) false,m,none⟩:=by
 obtain ⟨el,hel⟩:=Option.isSome_iff_exists.1 h
 rw [hel] at h1 h3
 simp only [Option.all_some,Option.bind_some] at h1 h3
 simp [mF,hel,h1,h2,h3,bK]
theorem apm {P:Program} {m:aH} {src dst:TypeId} {x:AV}:mF P false m src dst x=lG P m src dst x:=by unfold mF;rfl
theorem abx {P:Program} {c:Bool} {m:aH} {src dst:TypeId} {x:AV} (h:bZ P dst=none):mF P c m src dst x=lG P m src dst x:=by unfold mF;rw [h];cases c <;> rfl
theorem ajk {P:Program} {d:Bool} {m:aH} {src dst:TypeId} {x:AV}:mU P d false m src dst x=lG P m src dst x:=apm
theorem afn {P:Program} {d c:Bool} {m:aH} {src dst:TypeId} {v:Value}:mU P d c m src dst (.val v)=mF P c m src dst (.val v):=by cases c <;> cases d <;> rfl
theorem afo {P:Program} {c:Bool} {m:aH} {src dst:TypeId} {x:AV} (h:bZ P dst=none):mU P false c m src dst x=lG P m src dst x:=by
 have:mU P false c m src dst x=mF P c m src dst x:=by cases c <;> rfl
 rw [this,abx h]
theorem ajl {P:Program} {d c:Bool} {m:aH} {src dst:TypeId} {v:Value} (h:bZ P dst=none):mU P d c m src dst (.val v)=lG P m src dst (.val v):=by rw [afn,abx h]
theorem afp {P:Program} {d c:Bool} {m:aH} {src dst:TypeId} {n cap:Nat} {cs:List AV} {b:Bool} (h:bZ P dst=none):mU P d c m src dst (.tree n cap cs b)=lG P m src dst (.tree n cap cs b):=by
 have:mU P d c m src dst (.tree n cap cs b)=mF P c m src dst (.tree n cap cs b):=by cases c <;> cases d <;> rfl
 rw [this,abx h]
theorem afq {P:Program} {d:Bool} {m:aH} {src dst:TypeId} {s:ByteArray} (h:(bZ P dst).isSome=true) (h1:(bZ P dst).all (p7 P)=true) (h2:mQ P src=true) (h3:(bZ P dst).bind (cG P)=some 1):mU P d true m src dst (.val (.string s))=some ⟨.tree s.size s.size (fE s) false,m,none⟩:=by rw [afn,apl h h1 h2 h3]
theorem ajm {P:Program} {d:Bool} {m:aH} {t:TypeId} {len:Nat} {parts:List (Nat×AV)}:sB P d false m t len parts=oW P m t len parts:=rfl
theorem ajn {P:Program} {m:aH} {t:TypeId} {len:Nat} {parts:List (Nat×AV)}:sB P true true m t len parts=fV P m t len parts:=rfl
theorem afr {P:Program} {m:aH} {t:TypeId} {len:Nat} {parts:List (Nat×AV)} (h:(fV P m t len parts).isSome=true):sB P false true m t len parts=fV P m t len parts:=by
 obtain ⟨o,ho⟩:=Option.isSome_iff_exists.1 h
 simp only [sB,ho,ac0]
theorem ajo {P:Program} {m:aH} {t:TypeId} {len:Nat} {parts:List (Nat×AV)} (h:fV P m t len parts=none):sB P false true m t len parts=vR P m t len parts:=by
 simp only [sB,h,ac0]
theorem ajp {P:Program} {c:Bool} {m:aH} {t:TypeId} {x:AV} {lo hi mx:Option AV}:sliceX P false c m t x lo hi mx=if slOk P m t x then (a8 lo).bind fun lo=>(a8 hi).bind fun hi=>(a8 mx).bind fun mx=>eR (lU P t lo hi mx x) m else none:=by cases c <;> rfl
theorem ajq {P:Program} {m:aH} {t:TypeId} {x:AV} {lo hi mx:Option AV}:sliceX P true false m t x lo hi mx=if slOk P m t x then (a8 lo).bind fun lo=>(a8 hi).bind fun hi=>(a8 mx).bind fun mx=>eR (lU P t lo hi mx x) m else none:=rfl
theorem ajr {P:Program} {m:aH} {t:TypeId} {n c:Nat} {cs:List AV} {f:Bool} {lo hi mx:Option AV}:sliceX P true true m t (.tree n c cs f) lo hi mx=(a8 lo).bind fun lo=>(a8 hi).bind fun hi=>(a8 mx).bind fun mx=>eR (lU P t lo hi mx (.tree n c cs f)) m:=rfl
theorem ajs {P:Program} {m:aH} {t:TypeId} {v:Value} {lo hi mx:Option AV}:sliceX P true true m t (.val v) lo hi mx=(a8 lo).bind fun lo=>(a8 hi).bind fun hi=>(a8 mx).bind fun mx=>eR (lU P t lo hi mx (.val v)) m:=rfl
theorem ajt {P:Program} {m:aH} {t:TypeId} {n:Nat} {cs:List AV} {lo hi mx:Option AV}:sliceX P true true m t (.tptr n cs) lo hi mx=(a8 lo).bind fun lo=>(a8 hi).bind fun hi=>(a8 mx).bind fun mx=>eR (lU P t lo hi mx (.tptr n cs)) m:=rfl
structure aB (p:Prop):Prop where
 out:p
theorem post:(type_of% @ajp)∧(type_of% @ajq)∧(type_of% @ajr)∧(type_of% @ajs)∧(type_of% @ajt)∧(type_of% @ajh)∧(type_of% @aji)∧(type_of% @ajj)∧(type_of% @ajk)∧(type_of% @afo)∧(type_of% @ajl)∧(type_of% @afp)∧(type_of% @afq)∧(type_of% @ajm)∧(type_of% @ajn)∧(type_of% @afr)∧(type_of% @min2)∧(type_of% @max2)∧(type_of% @ajc)∧(type_of% @ajd)∧(type_of% @aje)∧(type_of% @ai1)∧(type_of% @ai2)∧(type_of% @ai3)∧(type_of% @ai4)∧(type_of% @ai5)∧(type_of% @ai6)∧(type_of% @ai7)∧(type_of% @ai8)∧(type_of% @ai9)∧(type_of% @aja) :=
 ⟨@ajp,@ajq,@ajr,@ajs,@ajt,@ajh,@aji,@ajj,@ajk,@afo,@ajl,@afp,@afq,@ajm,@ajn,@afr,@min2,@max2,@ajc,@ajd,@aje,@ai1,@ai2,@ai3,@ai4,@ai5,@ai6,@ai7,@ai8,@ai9,@aja⟩
theorem sb:(type_of% @Option.isSome_some.{0})∧(type_of% @ne_eq.{1})∧(type_of% @not_false_eq_true)∧(type_of% @List.length_cons.{0})∧(type_of% @List.length_nil.{0})∧(type_of% @List.map_cons.{0,0})∧(type_of% @List.map_nil.{0,0})∧(type_of% @List.append_nil.{0})∧(type_of% @List.cons_append.{0})∧(type_of% @List.nil_append.{0})∧(type_of% @List.take_succ_cons.{0})∧(type_of% @List.take_zero.{0})∧(type_of% @List.drop_succ_cons.{0})∧(type_of% @List.drop_zero.{0})∧(type_of% @Nat.zero_add)∧(type_of% @Nat.add_zero)∧(type_of% @Nat.zero_le)∧(type_of% @Nat.le_refl)∧(type_of% @decide_true)∧(type_of% @decide_false)∧(type_of% @Bool.not_true)∧(type_of% @Bool.not_false)∧(type_of% @if_true.{1})∧(type_of% @if_false.{1})∧(type_of% @Bool.false_eq_true)∧(type_of% @true_and)∧(type_of% @and_true)∧(type_of% @Option.bind_some.{0,0})∧(type_of% @Option.map_some.{0,0})∧(type_of% @List.getElem?_cons_zero.{0})∧(type_of% @List.getElem?_cons_succ.{0})∧(type_of% @and_self) :=
 ⟨@Option.isSome_some.{0},@ne_eq.{1},@not_false_eq_true,@List.length_cons.{0},@List.length_nil.{0},@List.map_cons.{0,0},@List.map_nil.{0,0},@List.append_nil.{0},@List.cons_append.{0},@List.nil_append.{0},@List.take_succ_cons.{0},@List.take_zero.{0},@List.drop_succ_cons.{0},@List.drop_zero.{0},@Nat.zero_add,@Nat.add_zero,@Nat.zero_le,@Nat.le_refl,@decide_true,@decide_false,@Bool.not_true,@Bool.not_false,@if_true.{1},@if_false.{1},@Bool.false_eq_true,@true_and,@and_true,@Option.bind_some.{0,0},@Option.map_some.{0,0},@List.getElem?_cons_zero.{0},@List.getElem?_cons_succ.{0},@and_self⟩
theorem sq:(type_of% @cD.eq_1)∧(type_of% @cD.eq_2)∧(type_of% @cD.eq_3)∧(type_of% @cD.eq_4)∧(type_of% @cD.eq_5)∧(type_of% @cD.eq_6)∧(type_of% @cD.eq_7)∧(type_of% @cD.eq_8)∧(type_of% @cD.eq_9)∧(type_of% @cD.eq_10)∧(type_of% @cD.eq_11)∧(type_of% @cD.eq_12)∧(type_of% @cD.eq_13)∧(type_of% @cD.eq_14)∧(type_of% @cW.eq_1)∧(type_of% @cW.eq_2)∧(type_of% @cW.eq_3)∧(type_of% @cW.eq_4)∧(type_of% @cW.eq_5)∧(type_of% @cW.eq_6)∧(type_of% @cW.eq_7)∧(type_of% @cW.eq_8)∧(type_of% @cW.eq_9)∧(type_of% @cW.eq_10)∧(type_of% @cW.eq_11)∧(type_of% @cW.eq_12)∧(type_of% @cW.eq_13)∧(type_of% @cW.eq_14)∧(type_of% @cW.eq_15)∧(type_of% @cW.eq_16)∧(type_of% @cW.eq_17)∧(type_of% @cW.eq_18)∧(type_of% @cW.eq_19)∧(type_of% @cW.eq_20)∧(type_of% @cW.eq_21)∧(type_of% @cW.eq_22)∧(type_of% @aE.eq_1)∧(type_of% @qB.eq_1)∧(type_of% @iX.eq_1)∧(type_of% @iX.eq_2)∧(type_of% @iX.eq_3)∧(type_of% @kO.eq_1)∧(type_of% @qU.eq_1)∧(type_of% @oY.eq_1)∧(type_of% @oY.eq_2)∧(type_of% @mD.eq_1)∧(type_of% @mD.eq_2)∧(type_of% @mD.eq_3)∧(type_of% @mD.eq_4)∧(type_of% @oX.eq_1)∧(type_of% @oX.eq_2)∧(type_of% @jU.eq_1)∧(type_of% @mS.eq_1)∧(type_of% @mS.eq_2)∧(type_of% @nW.eq_1)∧(type_of% @nW.eq_2)∧(type_of% @qS.eq_1)∧(type_of% @fU.eq_1)∧(type_of% @fU.eq_2)∧(type_of% @cI.eq_1)∧(type_of% @AV.cells.eq_1)∧(type_of% @AV.cells.eq_2)∧(type_of% @fC.eq_1)∧(type_of% @fC.eq_2)∧(type_of% @dB.eq_1)∧(type_of% @dB.eq_2)∧(type_of% @dB.eq_3)∧(type_of% @dB.eq_4)∧(type_of% @dB.eq_5)∧(type_of% @dB.eq_6)∧(type_of% @fzs.eq_1)∧(type_of% @fzs.eq_2)∧(type_of% @fz.eq_1)∧(type_of% @fz.eq_2)∧(type_of% @fz.eq_3)∧(type_of% @fz.eq_4)∧(type_of% @fz.eq_5)∧(type_of% @fz.eq_6)∧(type_of% @fz.eq_7)∧(type_of% @fz.eq_8)∧(type_of% @oZ.eq_1)∧(type_of% @oZ.eq_2)∧(type_of% @mE.eq_1)∧(type_of% @canon.eq_1)∧(type_of% @canon.eq_2)∧(type_of% @canon.eq_3)∧(type_of% @canon.eq_4)∧(type_of% @canon.eq_5)∧(type_of% @canon.eq_6)∧(type_of% @canon.eq_7)∧(type_of% @canon.eq_8)∧(type_of% @canon.eq_9)∧(type_of% @canon.eq_10)∧(type_of% @iH.eq_1)∧(type_of% @iH.eq_2)∧(type_of% @shift.eq_1)∧(type_of% @shift.eq_2)∧(type_of% @shift.eq_3)∧(type_of% @shift.eq_4)∧(type_of% @shift.eq_5)∧(type_of% @shift.eq_6)∧(type_of% @shift.eq_7)∧(type_of% @shift.eq_8)∧(type_of% @shift.eq_9)∧(type_of% @gX.eq_1)∧(type_of% @gX.eq_2)∧(type_of% @eB.eq_1)∧(type_of% @g7.eq_1)∧(type_of% @g7.eq_2):=⟨@cD.eq_1,@cD.eq_2,@cD.eq_3,@cD.eq_4,@cD.eq_5,@cD.eq_6,@cD.eq_7,@cD.eq_8,@cD.eq_9,@cD.eq_10,@cD.eq_11,@cD.eq_12,@cD.eq_13,@cD.eq_14,@cW.eq_1,@cW.eq_2,@cW.eq_3,@cW.eq_4,@cW.eq_5,@cW.eq_6,@cW.eq_7,@cW.eq_8,@cW.eq_9,@cW.eq_10,@cW.eq_11,@cW.eq_12,@cW.eq_13,@cW.eq_14,@cW.eq_15,@cW.eq_16,@cW.eq_17,@cW.eq_18,@cW.eq_19,@cW.eq_20,@cW.eq_21,@cW.eq_22,@aE.eq_1,@qB.eq_1,@iX.eq_1,@iX.eq_2,@iX.eq_3,@kO.eq_1,@qU.eq_1,@oY.eq_1,@oY.eq_2,@mD.eq_1,@mD.eq_2,@mD.eq_3,@mD.eq_4,@oX.eq_1,@oX.eq_2,@jU.eq_1,@mS.eq_1,@mS.eq_2,@nW.eq_1,@nW.eq_2,@qS.eq_1,@fU.eq_1,@fU.eq_2,@cI.eq_1,@AV.cells.eq_1,@AV.cells.eq_2,@fC.eq_1,@fC.eq_2,@dB.eq_1,@dB.eq_2,@dB.eq_3,@dB.eq_4,@dB.eq_5,@dB.eq_6,@fzs.eq_1,@fzs.eq_2,@fz.eq_1,@fz.eq_2,@fz.eq_3,@fz.eq_4,@fz.eq_5,@fz.eq_6,@fz.eq_7,@fz.eq_8,@oZ.eq_1,@oZ.eq_2,@mE.eq_1,@canon.eq_1,@canon.eq_2,@canon.eq_3,@canon.eq_4,@canon.eq_5,@canon.eq_6,@canon.eq_7,@canon.eq_8,@canon.eq_9,@canon.eq_10,@iH.eq_1,@iH.eq_2,@shift.eq_1,@shift.eq_2,@shift.eq_3,@shift.eq_4,@shift.eq_5,@shift.eq_6,@shift.eq_7,@shift.eq_8,@shift.eq_9,@gX.eq_1,@gX.eq_2,@eB.eq_1,@g7.eq_1,@g7.eq_2⟩
theorem sr:(type_of% @Option.getD_some.{0})∧(type_of% @Option.getD_none.{0})∧(type_of% @Bool.and_true)∧(type_of% @Bool.and_false)∧(type_of% @Bool.true_and)∧(type_of% @Bool.false_and)∧(type_of% @Bool.and_self)∧(type_of% @dC)∧(type_of% @cS)∧(type_of% @eq_self.{1})∧(type_of% @Nat.mul_one)∧(type_of% @lW)∧(type_of% @lX)∧(type_of% @bC.eq_1):=⟨@Option.getD_some.{0},@Option.getD_none.{0},@Bool.and_true,@Bool.and_false,@Bool.true_and,@Bool.false_and,@Bool.and_self,@dC,@cS,@eq_self.{1},@Nat.mul_one,@lW,@lX,@bC.eq_1⟩
theorem aO:(type_of% @plain.eq_1)∧(type_of% @plain.eq_2)∧(type_of% @plain.eq_3)∧(type_of% @plain.eq_4)∧(type_of% @plain.eq_5)∧(type_of% @plain.eq_6)∧(type_of% @plain.eq_7)∧(type_of% @dX.eq_1)∧(type_of% @dX.eq_2)∧(type_of% @aE.eq_1)∧(type_of% @bC.eq_1)∧(type_of% @Bool.and_true)∧(type_of% @Bool.and_self):=⟨@plain.eq_1,@plain.eq_2,@plain.eq_3,@plain.eq_4,@plain.eq_5,@plain.eq_6,@plain.eq_7,@dX.eq_1,@dX.eq_2,@aE.eq_1,@bC.eq_1,@Bool.and_true,@Bool.and_self⟩
theorem sx:(type_of% @post)∧(type_of% @sb)∧(type_of% @uG)∧(type_of% @uH)∧(type_of% @sq):=⟨@post,@sb,@uG,@uH,@sq⟩
end Go.Tw