/- Code, functions. -/
import Derived.Test.YtenmbfplceeolaaTwQ
set_option linter.unusedVariables false
set_option linter.unusedSimpArgs false
namespace Go.Tw
open Go

/-- THE ABSTRACT WP OF CODE. -/
def codeW (P : Program) (once : Nat → Bool) (n : Nat) : Code → (Ex → Env → Mem → Prop) → Env → Mem → Prop
  | .skip, Q, e, m => Q .normal e m
  | .label _, Q, e, m => Q .normal e m
  | .region _ ops d, Q, e, m => opsW P once d ops (Q .normal) ops.toList e m
  | .seq a b, Q, e, m => codeW P once n a (thenQ (codeW P once n b Q) Q) e m
  | .cond c a b, Q, e, m => condW (codeW P once n a Q e m) (codeW P once n b Q e m) (opd e c)
  | .block id b, Q, e, m => codeW P once n b (blockQ id Q) e m
  | .loop b, Q, e, m => loopW (codeW P once n b) Q e m
  | .exit id, Q, e, m => Q (.exit id) e m
  | .ret, Q, e, m => Q .ret e m
  | _, _, _, _ => False

/-- what is looked at once: slots in range, regions that draw their order -/
def codeOk (n : Nat) : Code → Bool
  | .region _ ops d => regOk n ops && (!d || drawOk ops)
  | .seq a b => codeOk n a && codeOk n b
  | .cond _ a b => codeOk n a && codeOk n b
  | .block _ b => codeOk n b
  | .loop b => codeOk n b
  | _ => true

section
variable {P : Program} {w0 : World} {I0 : Nat → Prop} {ρ0 : Real} {m0 : Mem} {n : Nat}

def liftQ (P : Program) (w0 : World) (I0 : Nat → Prop) (ρ0 : Real) (m0 : Mem) (n : Nat) (Q : Ex → Env → Mem → Prop) : Exit → Act → World → Prop
  | .normal, a, w => ∃ e m I ρ, Q .normal e m ∧ Rel P w0 I0 ρ0 m0 n e m a w I ρ
  | .exit id, a, w => ∃ e m I ρ, Q (.exit id) e m ∧ Rel P w0 I0 ρ0 m0 n e m a w I ρ
  | .ret, a, w => ∃ e m I ρ, Q .ret e m ∧ Rel P w0 I0 ρ0 m0 n e m a w I ρ
  | _, _, _ => False

theorem codeW_sound (hm : P.follows .mixedOrders = true) {once : Nat → Bool} : ∀ (c : Code) (Q : Ex → Env → Mem → Prop) (e : Env) (m : Mem) (a : Act) (w : World) (I : Nat → Prop) (ρ : Real), codeOk n c = true → codeW P once n c Q e m → Rel P w0 I0 ρ0 m0 n e m a w I ρ → c.wp P (liftQ P w0 I0 ρ0 m0 n Q) a w := by
  intro c
  induction c with
  | skip => exact fun Q e m a w I ρ _ h hR => wp_skip ⟨e, m, I, ρ, h, hR⟩
  | label l => exact fun Q e m a w I ρ _ h hR => wp_label ⟨e, m, I, ρ, h, hR⟩
  | region id ops d =>
    intro Q e m a w I ρ hok h3 hR
    simp only [codeW] at h3
    simp only [codeOk, Bool.and_eq_true, Bool.or_eq_true, Bool.not_eq_true'] at hok
    obtain ⟨h1, h2⟩ := hok
    cases d with
    | false =>
      refine wp_region ?_
      have := opsW_plain (w0 := w0) (I0 := I0) (ρ0 := ρ0) (m0 := m0) h1 (Q := Q .normal) (Q' := liftQ P w0 I0 ρ0 m0 n Q) (fun e m a w I ρ hq hR => ⟨e, m, I, ρ, hq, hR⟩) ops.toList 0 e m a w I ρ rfl h3 hR
      rw [List.range_eq_range']
      simpa using this
    | true => exact opsW_draw hm h1 (h2.resolve_left (by simp)) (Q := Q .normal) (Q' := liftQ P w0 I0 ρ0 m0 n Q) (fun e m a w I ρ hq hR => ⟨e, m, I, ρ, hq, hR⟩) h3 hR
  | seq x y ihx ihy =>
    intro Q e m a w I ρ hok h hR
    simp only [codeW] at h
    simp only [codeOk, Bool.and_eq_true] at hok
    refine wp_seq (wp_mono (ihx _ e m a w I ρ hok.1 h hR) ?_)
    intro ex a' w' hq
    cases ex with
    | normal =>
      obtain ⟨e', m', I', ρ', h1, h2⟩ := hq
      exact ihy Q e' m' a' w' I' ρ' hok.2 h1 h2
    | exit id => exact hq
    | ret => exact hq
    | goto l => exact hq
    | panic c => exact hq
    | outgrown => exact hq
  | cond c x y ihx ihy =>
    intro Q e m a w I ρ hok h hR
    simp only [codeW] at h
    simp only [codeOk, Bool.and_eq_true] at hok
    have hc := opd_eval hR.er c
    unfold condW at h
    split at h
    · rename_i t ht
      rw [ht] at hc
      simp only [VR] at hc
      exact wp_cond_split hc (fun ht => ihx Q e m a w I ρ hok.1 (h.1 ht) hR) (fun ht => ihy Q e m a w I ρ hok.2 (h.2 ht) hR)
    · exact h.elim
  | block id b ih =>
    intro Q e m a w I ρ hok h hR
    simp only [codeW] at h
    simp only [codeOk, Bool.and_eq_true] at hok
    refine wp_block (wp_mono (ih _ e m a w I ρ hok h hR) ?_)
    intro ex a' w' hq
    cases ex with
    | exit id' =>
      obtain ⟨e', m', I', ρ', h1, h2⟩ := hq
      simp only [blockQ] at h1
      simp only [Exit.inBlock]
      split at h1
      · rename_i hid; rw [if_pos hid]; exact ⟨e', m', I', ρ', h1, h2⟩
      · rename_i hid; rw [if_neg hid]; exact ⟨e', m', I', ρ', h1, h2⟩
    | normal => exact hq
    | ret => exact hq
    | goto l => exact hq
    | panic c => exact hq
    | outgrown => exact hq
  | loop b ih =>
    intro Q e m a w I ρ hok h hR
    simp only [codeW] at h
    simp only [codeOk, Bool.and_eq_true] at hok
    obtain ⟨J, k, hJ, hround⟩ := h
    refine wp_loop_ghost (fun k a w => ∃ e m I ρ, J k e m ∧ Rel P w0 I0 ρ0 m0 n e m a w I ρ) k ⟨e, m, I, ρ, hJ, hR⟩ ?_
    rintro k a w ⟨e, m, I, ρ, hJ, hR⟩
    refine wp_mono (ih _ e m a w I ρ hok (hround k e m hJ) hR) ?_
    intro ex a' w' hq
    cases ex with
    | normal =>
      obtain ⟨e', m', I', ρ', ⟨k', hlt, h1⟩, h2⟩ := hq
      exact ⟨k', hlt, e', m', I', ρ', h1, h2⟩
    | exit id => exact hq
    | ret => exact hq
    | goto l => exact hq
    | panic c => exact hq
    | outgrown => exact hq
  | exit id => exact fun Q e m a w I ρ _ h hR => wp_exit ⟨e, m, I, ρ, h, hR⟩
  | ret => exact fun Q e m a w I ρ _ h hR => wp_ret ⟨e, m, I, ρ, h, hR⟩
  | rangeFunc f ps x y => exact fun Q e m a w I ρ _ h hR => h.elim
  | scope b => exact fun Q e m a w I ρ _ h hR => h.elim
  | goto l => exact fun Q e m a w I ρ _ h hR => h.elim
  | refuse s => exact fun Q e m a w I ρ _ h hR => h.elim

/-! functions -/
theorem entry_rel {w : World} {I : Nat → Prop} {ρ : Real} {m : Mem} {args : List AV} {vs : Array Value} (hS : SR P w I ρ m) (hsz : vs.size = args.length) (hv : VRs P w I ρ args (fun j => vs[j]?)) (hfree : ∀ b, m.next ≤ b → ρ b = none) (hle : args.length ≤ n) :
    Rel P w I ρ m n (entryE args) m { tmps := vs ++ Array.replicate (n - vs.size) undef, defers := [] } w I ρ where
  er := by
    intro t
    simp only [entryE]
    rw [Array.getD_eq_getD_getElem?, List.getD_eq_getElem?_getD]
    rcases Nat.lt_or_ge t args.length with h | h
    · obtain ⟨v, h1, h2⟩ := VRs_at hv (List.getElem?_eq_getElem h)
      rw [Array.getElem?_append_left (by omega), h1, List.getElem?_eq_getElem h]
      exact h2
    · rw [List.getElem?_eq_none h]
      rcases Nat.lt_or_ge t n with h3 | h3
      · rw [Array.getElem?_append_right (by omega), Array.getElem?_replicate, if_pos (by omega)]
        simp only [Option.getD_none, Option.getD_some, undefA, undef, VR]
      · rw [Array.getElem?_eq_none (by simp; omega)]
        simp only [Option.getD_none, undefA, undef, VR]
  sr := hS
  free := hfree
  step := Step.refl _ _ _ _
  size := by simp; omega
  defers := rfl

def resF (tmps : Array Value) : ResultVar → Sem Value
  | .tmp t => pure (tmps.getD t undef)
  | .cell a t => do loadVar t (← asAddr (tmps.getD a undef))

theorem resEs_sound {w : World} {I : Nat → Prop} {ρ : Real} {e : Env} {m : Mem} {a : Act} (hS : SR P w I ρ m) (he : ER P w I ρ e a) : ∀ (rs : List ResultVar) (avs : List AV), resEs P e m rs = some avs →
    ∃ vs : List Value, (rs.mapM (resF a.tmps)).run P w = .ok vs w ∧ vs.length = avs.length ∧ VRs P w I ρ avs (fun j => vs[j]?)
  | [], avs, h => by
    simp only [resEs, Option.some.injEq] at h
    subst h
    exact ⟨[], by simp, rfl, by simp only [VRs]⟩
  | r :: rs, avs, h => by
    simp only [resEs] at h
    obtain ⟨av, hav, h⟩ := Option.bind_eq_some_iff.1 h
    obtain ⟨avs', h', rfl⟩ := Option.map_eq_some_iff.1 h
    obtain ⟨vs, h1, h2, h3⟩ := resEs_sound hS he rs avs' h'
    cases r with
    | tmp t =>
      simp only [resE, Option.some.injEq] at hav
      subst hav
      refine ⟨a.tmps.getD t undef :: vs, by simp [List.mapM_cons, resF, h1], by simp [h2], ?_⟩
      simp only [VRs]
      exact ⟨⟨_, rfl, he t⟩, h3⟩
    | cell p t =>
      simp only [resE] at hav
      obtain ⟨v, h4, h5⟩ := loadE_sound hS hav (he p)
      refine ⟨v :: vs, ?_, by simp [h2], ?_⟩
      · have h6 : (do loadVar t (← asAddr (a.tmps.getD p undef)) : Sem Value).run P w = .ok v w := by
          have hp := he p
          unfold loadE at hav
          split at hav
          · rename_i heq; rw [heq] at hp; simp only [VR] at hp; obtain ⟨g, o, _, hp⟩ := hp
            rw [hp] at h4 ⊢; simpa [Instr.loadAt, Instr.sureAddr, asAddr] using h4
          · rename_i heq; rw [heq] at hp; simp only [VR] at hp; obtain ⟨g, o, hp, _⟩ := hp
            rw [hp] at h4 ⊢; simpa [Instr.loadAt, Instr.sureAddr, asAddr] using h4
          · cases hav
        have h7 : (resF a.tmps (.cell p t)).run P w = .ok v w := h6
        simp only [List.mapM_cons, Sem.run_bind, Sem.run_pure, h7, Result.andThen_ok, h1]
      · simp only [VRs]
        exact ⟨⟨v, rfl, h5⟩, h3⟩

theorem resultsE_sound {w : World} {I : Nat → Prop} {ρ : Real} {e : Env} {m : Mem} {a : Act} (hS : SR P w I ρ m) (he : ER P w I ρ e a) {fn : Func} {av : AV} (h : resultsE P fn.results.toList e m = some av) : ∃ v, (results fn a.tmps).run P w = .ok v w ∧ VR P w I ρ av v := by
  unfold resultsE at h
  obtain ⟨avs, havs, h⟩ := Option.map_eq_some_iff.1 h
  obtain ⟨vs, h1, h2, h3⟩ := resEs_sound hS he fn.results.toList avs havs
  have hres : results fn a.tmps = (do
      let vs ← fn.results.mapM (resF a.tmps)
      pure (if h : vs.size = 1 then vs[0] else .tuple vs)) := rfl
  have hrun : (fn.results.mapM (resF a.tmps)).run P w = .ok vs.toArray w := by
    rw [Array.mapM_eq_mapM_toList, Sem.run_map, h1]
    rfl
  rw [hres]
  simp only [Sem.run_bind, hrun, Result.andThen_ok, Sem.run_pure]
  refine ⟨_, rfl, ?_⟩
  split at h
  · rename_i x
    subst h
    simp only [List.length_cons, List.length_nil] at h2
    match vs, h2, h3 with
    | [v], _, h3 =>
      simp only [VRs] at h3
      obtain ⟨⟨u, h4, h5⟩, _⟩ := h3
      simp at h4
      subst h4
      simpa using h5
  · rename_i hne
    subst h
    have hl : vs.length ≠ 1 := by
      intro h
      rw [h2] at h
      obtain ⟨x, hx⟩ := List.length_eq_one_iff.1 h
      exact hne x hx
    rw [dif_neg (by simpa using hl)]
    simp only [VR]
    exact ⟨vs.toArray, rfl, by simpa using h2, by simpa using h3⟩

/-- the end of a body -/
def endQ (P : Program) (rs : List ResultVar) (K : AV → Mem → Prop) : Ex → Env → Mem → Prop
  | .exit _, _, _ => False
  | _, e, m => match resultsE P rs e m with
    | some v => K v m
    | none => False

theorem fspec_of_body (hm : P.follows .mixedOrders = true) {f : FuncId} {fn : Func} {c : Code} (hf : P.funcs[f]? = some fn) (hb : fn.body = some c) (hn : fn.name ≠ "runtime.NumGoroutine") (once : Nat → Bool) {args : List AV} {r : Res} (hle : args.length ≤ fn.ntmps) (hok : codeOk fn.ntmps c = true)
    (h : codeW P once fn.ntmps c (endQ P fn.results.toList fun v m => canonR m v = some r) (entryE args) Mem.empty) : FSpec P f args r := by
  refine ⟨by simp [callable, hf, hb, hn], fun w I vs hI hsz hv => ?_⟩
  have hS : SR P w I noneR Mem.empty := ⟨fun b k g o h => by simp [Mem.empty] at h, fun b b' k k' g o o' h => by simp [Mem.empty] at h, hI⟩
  have hR := entry_rel (n := fn.ntmps) hS hsz hv (fun _ _ => rfl) hle
  refine calls_of_wp hf hb (wp_mono (codeW_sound hm c _ _ _ _ w I noneR hok h hR) ?_)
  intro ex a w' hq
  have fin : ∀ e m I' ρ', (match resultsE P fn.results.toList e m with | some v => canonR m v = some r | none => False) → Rel P w I noneR Mem.empty fn.ntmps e m a w' I' ρ' →
      a.defers = [] ∧ ∃ v, (results fn a.tmps).run P w' = .ok v w' ∧ ∃ v' I' ρ', Ending.returned v = .returned v' ∧ VR P w' I' ρ' r.v v' ∧ SR P w' I' ρ' (pushAll Mem.empty r.rows) ∧ Step w I noneR Mem.empty w' I' ρ' (pushAll Mem.empty r.rows) := by
    intro e m I' ρ' h1 h2
    split at h1
    · rename_i av hav
      obtain ⟨v, h3, h4⟩ := resultsE_sound h2.sr h2.er hav
      obtain ⟨ρ'', h5, h6, h7⟩ := canonR_sound h2.sr h2.step h4 h1
      exact ⟨h2.defers, v, h3, v, I', ρ'', rfl, h5, h6, h7⟩
    · exact h1.elim
  cases ex with
  | normal => obtain ⟨e, m, I', ρ', h1, h2⟩ := hq; exact fin e m I' ρ' h1 h2
  | ret => obtain ⟨e, m, I', ρ', h1, h2⟩ := hq; exact fin e m I' ρ' h1 h2
  | exit id => obtain ⟨e, m, I', ρ', h1, h2⟩ := hq; exact h1.elim
  | goto l => exact hq.elim
  | panic c => exact hq.elim
  | outgrown => exact hq.elim

theorem ospec_of_body (hm : P.follows .mixedOrders = true) {f : FuncId} {fn : Func} {c : Code} (hf : P.funcs[f]? = some fn) (hb : fn.body = some c) (hn : fn.name ≠ "runtime.NumGoroutine") (once : Nat → Bool) {args : List AV} {m : Mem} {Q : AV → Mem → Prop} (hle : args.length ≤ fn.ntmps) (hok : codeOk fn.ntmps c = true)
    (h : codeW P once fn.ntmps c (endQ P fn.results.toList Q) (entryE args) m) : OSpec P f args m Q := by
  refine ⟨by simp [callable, hf, hb, hn], fun w I ρ vs hS hsz hv hfree => ?_⟩
  have hR := entry_rel (n := fn.ntmps) hS hsz hv hfree hle
  refine calls_of_wp hf hb (wp_mono (codeW_sound hm c _ _ _ _ w I ρ hok h hR) ?_)
  intro ex a w' hq
  have fin : ∀ e m' I' ρ', (match resultsE P fn.results.toList e m' with | some v => Q v m' | none => False) → Rel P w I ρ m fn.ntmps e m' a w' I' ρ' →
      a.defers = [] ∧ ∃ v, (results fn a.tmps).run P w' = .ok v w' ∧ ∃ v' r m' I' ρ', Ending.returned v = .returned v' ∧ Q r m' ∧ VR P w' I' ρ' r v' ∧ SR P w' I' ρ' m' ∧ Step w I ρ m w' I' ρ' m' ∧ ∀ b, m'.next ≤ b → ρ' b = none := by
    intro e m' I' ρ' h1 h2
    split at h1
    · rename_i av hav
      obtain ⟨v, h3, h4⟩ := resultsE_sound h2.sr h2.er hav
      exact ⟨h2.defers, v, h3, v, av, m', I', ρ', rfl, h1, h4, h2.sr, h2.step, h2.free⟩
    · exact h1.elim
  cases ex with
  | normal => obtain ⟨e, m, I', ρ', h1, h2⟩ := hq; exact fin e m I' ρ' h1 h2
  | ret => obtain ⟨e, m, I', ρ', h1, h2⟩ := hq; exact fin e m I' ρ' h1 h2
  | exit id => obtain ⟨e, m, I', ρ', h1, h2⟩ := hq; exact h1.elim
  | goto l => exact hq.elim
  | panic c => exact hq.elim
  | outgrown => exact hq.elim
end
end Go.Tw
