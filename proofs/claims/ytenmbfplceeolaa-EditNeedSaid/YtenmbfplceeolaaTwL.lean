/- One operation, as it is carried out; the contracts of functions. -/
import Derived.Test.YtenmbfplceeolaaTwK
set_option linter.unusedVariables false
set_option linter.unusedSimpArgs false
namespace Go.Tw
open Go

section
variable {P : Program} {w : World} {I : Nat → Prop} {ρ : Real} {m : Mem}

/-- the operation is carried out, and yields this -/
def Yields (P : Program) (w : World) (I : Nat → Prop) (ρ : Real) (m : Mem) (a : Act) (r : Result Next) (out : Out) : Prop :=
  ∃ v w' I' ρ', (r = .ok (.value v) w' ∨ (r = .ok .skip w' ∧ v = undef)) ∧ VR P w' I' ρ' out.v v ∧ SR P w' I' ρ' out.m ∧ Step w I ρ m w' I' ρ' out.m ∧ ∀ d y, out.wb = some (d, y) → VR P w' I' ρ' y (a.tmps.getD d undef)

theorem Yields.of_does {a : Act} {s : Sem Value} {out : Out} {addr : Value} (h : Does P w I ρ m (s.run P w) id out addr) (hw : ∀ d y, out.wb = some (d, y) → addr = a.tmps.getD d undef) : Yields P w I ρ m a ((do pure (.value (← s)) : Sem Next).run P w) out := by
  obtain ⟨x, w', I', ρ', h1, h2, h3, h4, h5⟩ := h
  exact ⟨x, w', I', ρ', .inl (by simp [h1]), h2, h3, h4, fun d y h => by rw [← hw d y h]; exact h5 d y h⟩
theorem Yields.of_pur {a : Act} {s : Sem Value} {v : Option AV} {out : Out} (hS : SR P w I ρ m) (h : outO v m = some out) (hp : ∀ av, v = some av → Pur P w I ρ s av) : Yields P w I ρ m a ((do pure (.value (← s)) : Sem Next).run P w) out := by
  unfold outO at h
  obtain ⟨av, hav, rfl⟩ := Option.map_eq_some_iff.1 h
  obtain ⟨x, h1, h2⟩ := hp av hav
  exact ⟨x, w, I, ρ, .inl (by simp [h1]), h2, hS, Step.refl _ _ _ _, fun d y h => by cases h⟩

theorem parts_len {e : Env} {a : Act} (parts : Array (Nat × Operand)) : (parts.map fun p => (p.1, a.eval p.2)).toList.length = (parts.toList.map fun p => (p.1, opd e p.2)).length := by simp
theorem parts_rel {e : Env} {a : Act} (he : ER P w I ρ e a) (parts : Array (Nat × Operand)) : ∀ (j i : Nat) (av : AV) (i' : Nat) (v : Value), (parts.toList.map fun p => (p.1, opd e p.2))[j]? = some (i, av) → (parts.map fun p => (p.1, a.eval p.2)).toList[j]? = some (i', v) → i = i' ∧ VR P w I ρ av v := by
  intro j i av i' v h1 h2
  rw [List.getElem?_map] at h1
  rw [Array.toList_map, List.getElem?_map] at h2
  obtain ⟨p, hp, h1⟩ := Option.map_eq_some_iff.1 h1
  rw [hp] at h2
  simp only [Option.map_some, Option.some.injEq, Prod.mk.injEq] at h1 h2
  obtain ⟨rfl, rfl⟩ := h1
  obtain ⟨rfl, rfl⟩ := h2
  exact ⟨rfl, opd_eval he p.2⟩

theorem parts_eq {a : Act} (parts : Array (Nat × Operand)) : (parts.map fun (i, x) => (i, a.eval x)) = (parts.map fun p => (p.1, a.eval p.2)).toList.toArray := by
  rw [Array.toArray_toList]

theorem sl_size (hS : SR P w I ρ m) {b off n c : Nat} {f : Bool} {v : Value} (hv : VR P w I ρ (.sl b off n c f) v) : ∀ g o, ρ b = some (g, o) → ∀ ty n', w.shape? g = some (ty, n') → ∃ s, szE P ty = some s := by
  simp only [VR] at hv
  obtain ⟨g, o, cap, ty, n', s, hb, rfl, hl, hf, hsh, hss, hroom⟩ := hv
  intro g' o' hg' ty' n'' hs'
  rw [hb] at hg'
  simp only [Option.some.injEq, Prod.mk.injEq] at hg'
  obtain ⟨rfl, rfl⟩ := hg'
  rw [hsh] at hs'
  simp only [Option.some.injEq, Prod.mk.injEq] at hs'
  obtain ⟨rfl, _⟩ := hs'
  exact ⟨s, hss⟩

theorem opE_sound (hS : SR P w I ρ m) {once : Bool} {e : Env} {a : Act} (he : ER P w I ρ e a) {o : Oper} {out : Out} (h : opE P once e m o.op = some out) (hfree : ∀ b, m.next ≤ b → b < out.m.next → ρ b = none) :
    Yields P w I ρ m a ((execOp a.eval o).run P w) out := by
  obtain ⟨dst, op, type, pos, after, guard⟩ := o
  simp only at h
  cases op <;> simp only [opE] at h <;> try (cases h; done)
  case move x =>
    simp only [outV, Option.some.injEq] at h; subst h
    exact ⟨a.eval x, w, I, ρ, .inl (by simp [execOp]), opd_eval he x, hS, Step.refl _ _ _ _, fun d y h => by cases h⟩
  case assign x =>
    simp only [outV, Option.some.injEq] at h; subst h
    exact ⟨a.eval x, w, I, ρ, .inl (by simp [execOp]), opd_eval he x, hS, Step.refl _ _ _ _, fun d y h => by cases h⟩
  case pick c x y =>
    obtain ⟨av, hav, rfl⟩ := Option.map_eq_some_iff.1 h
    obtain ⟨v, h1, h2⟩ := pickE_sound hav (opd_eval he x) (opd_eval he y) (opd_eval he c)
    refine ⟨v, w, I, ρ, .inl ?_, h2, hS, Step.refl _ _ _ _, fun d y h => by cases h⟩
    simp only [Sem.run_bind] at h1
    cases hb : (asBool (a.eval c)).run P w with
    | halt x y => rw [hb] at h1; simp at h1
    | ok b w1 =>
      rw [hb] at h1
      simp only [Result.andThen_ok, Sem.run_pure, Result.ok.injEq] at h1
      obtain ⟨rfl, rfl⟩ := h1
      simp [execOp, hb]
  case alloc t =>
    have hf : ρ m.next = none := hfree m.next (Nat.le_refl _) (by
      unfold allocE at h
      obtain ⟨z, hz, h⟩ := Option.bind_eq_some_iff.1 h
      simp only [outV, Option.some.injEq] at h
      subst h
      simp [Mem.push])
    have := allocE_sound (addr := undef) hS hf h (.tuple #[])
    refine Yields.of_does this (fun d y hw => ?_)
    unfold allocE at h
    obtain ⟨z, hz, h⟩ := Option.bind_eq_some_iff.1 h
    simp only [outV, Option.some.injEq] at h
    subst h
    cases hw
  case box t x =>
    refine Yields.of_does (boxE_sound hS h hfree (opd_eval he x) undef) (fun d y hw => ?_)
    unfold boxE at h
    obtain ⟨n, hn, h⟩ := Option.bind_eq_some_iff.1 h
    split at h
    · split at h
      · obtain ⟨r, hr, h⟩ := Option.bind_eq_some_iff.1 h
        simp only [outV, Option.some.injEq] at h; subst h; cases hw
      · simp only [outV, Option.some.injEq] at h; subst h; cases hw
    · cases h
  case build t parts =>
    refine Yields.of_pur hS h fun av hav => ?_
    ·
      have := buildE_sound (P := P) (w := w) (I := I) (ρ := ρ) hav (parts_len (e := e) (a := a) parts) (parts_rel he parts)
      rw [← parts_eq] at this
      exact this
  case buildSlice t len parts =>
    have := buildSliceE_sound hS h hfree (parts_len (e := e) (a := a) parts) (parts_rel he parts) undef
    rw [← parts_eq] at this
    refine Yields.of_does this (fun d y hw => ?_)
    unfold buildSliceE at h
    obtain ⟨_, _, h⟩ := Option.bind_eq_some_iff.1 h
    obtain ⟨_, _, h⟩ := Option.bind_eq_some_iff.1 h
    obtain ⟨_, _, h⟩ := Option.bind_eq_some_iff.1 h
    split at h
    · obtain ⟨_, _, h⟩ := Option.bind_eq_some_iff.1 h
      obtain ⟨_, _, h⟩ := Option.bind_eq_some_iff.1 h
      simp only [outV, Option.some.injEq] at h; subst h; cases hw
    · cases h
  case load t x => exact Yields.of_pur hS h fun av hav => loadE_sound hS hav (opd_eval he x)
  case store t x y =>
    obtain ⟨u, w', I', ρ', h1, h2, h3, h4, h5⟩ := storeE_sound hS h (opd_eval he y) (opd_eval he x)
    refine ⟨undef, w', I', ρ', .inr ⟨by simp [execOp, h1], rfl⟩, h2, h3, h4, fun d z hw => ?_⟩
    have hz := h5 d z hw
    have hd : opTmp x = some d := by
      unfold storeE at h
      split at h
      · obtain ⟨n, hn, h⟩ := Option.bind_eq_some_iff.1 h
        obtain ⟨k, hk, h⟩ := Option.bind_eq_some_iff.1 h
        split at h
        · split at h
          · obtain ⟨d', hd', h⟩ := Option.bind_eq_some_iff.1 h
            split at h
            · obtain ⟨r, hr, h⟩ := Option.bind_eq_some_iff.1 h
              simp only [Option.some.injEq] at h
              subst h
              simp only [Option.some.injEq, Prod.mk.injEq] at hw
              rw [hd', hw.1]
            · cases h
          · simp only [outV, Option.some.injEq] at h; subst h; cases hw
          · obtain ⟨r, hr, h⟩ := Option.bind_eq_some_iff.1 h
            obtain ⟨r2, hr2, h⟩ := Option.bind_eq_some_iff.1 h
            split at h
            · simp only [outV, Option.some.injEq] at h; subst h; cases hw
            · cases h
        · cases h
      · cases h
    cases x <;> simp only [opTmp] at hd
    · simp only [Option.some.injEq] at hd
      subst hd
      exact hz
    all_goals cases hd
  case nilCheck x =>
    obtain ⟨av, hav, rfl⟩ := Option.map_eq_some_iff.1 h
    have hx := opd_eval he x
    refine ⟨a.eval x, w, I, ρ, .inl ?_, ?_, hS, Step.refl _ _ _ _, fun d y h => by cases h⟩
    · unfold checkE at hav
      split at hav
      · rename_i heq; rw [heq] at hx; simp only [VR] at hx; obtain ⟨g, o, _, hx⟩ := hx; simp [execOp, hx]
      · rename_i heq; rw [heq] at hx; simp only [VR] at hx; obtain ⟨g, o, hx, _⟩ := hx; simp [execOp, hx]
      · rename_i heq; rw [heq] at hx; simp only [VR] at hx; obtain ⟨vs, hx, _⟩ := hx; simp [execOp, hx]
      · cases hav
    · unfold checkE at hav
      split at hav
      · rename_i heq; simp only [Option.some.injEq] at hav; subst hav; rw [← heq]; exact hx
      · rename_i heq; simp only [Option.some.injEq] at hav; subst hav; rw [← heq]; exact hx
      · rename_i heq; simp only [Option.some.injEq] at hav; subst hav; rw [← heq]; exact hx
      · cases hav
  case binOp op t x y ty => exact Yields.of_pur hS h fun av hav => binE_sound hav (opd_eval he x) (opd_eval he y)
  case unOp op t x => exact Yields.of_pur hS h fun av hav => unE_sound hav (opd_eval he x)
  case convert s d x =>
    refine Yields.of_does (convE_sound hS h hfree (opd_eval he x) undef) (fun d' y hw => ?_)
    unfold convE at h
    split at h
    · split at h
      · split at h
        · simp only [outV, Option.some.injEq] at h; subst h; cases hw
        · cases h
      · cases h
    · split at h
      · split at h
        · obtain ⟨_, _, h⟩ := Option.bind_eq_some_iff.1 h
          split at h
          · obtain ⟨_, _, h⟩ := Option.bind_eq_some_iff.1 h
            simp only [outV, Option.some.injEq] at h; subst h; cases hw
          · cases h
        · cases h
      · split at h
        · simp only [outO] at h
          obtain ⟨_, _, rfl⟩ := Option.map_eq_some_iff.1 h
          cases hw
        · cases h
  case slice t x lo hi mx =>
    split at h
    case isFalse => cases h
    rename_i hok
    have hsl : ∀ b off n c f el sz, opd e x = .sl b off n c f → elE P t = some el → szE P el = some sz → ∀ g o', ρ b = some (g, o') → ∀ ty n', w.shape? g = some (ty, n') → szE P ty = some sz := by
      intro b off n c f el sz e1 e2 e3 g o' e4 ty n' e5
      rw [e1] at hok
      simp only [slOk, e2] at hok
      cases hb : m.at_ b with
      | none => rw [hb] at hok; simp at hok
      | some k =>
        rw [hb] at hok
        simp only [beq_iff_eq] at hok
        obtain ⟨arr, fr, q1, _⟩ := (hS.blk b k g o' hb e4).cells
        rw [shape_of_heap q1] at e5
        simp only [Option.some.injEq, Prod.mk.injEq] at e5
        rw [← e5.1, hok, e3]
    obtain ⟨l, hl, h⟩ := Option.bind_eq_some_iff.1 h
    obtain ⟨hh, hhh, h⟩ := Option.bind_eq_some_iff.1 h
    obtain ⟨mm, hmm, h⟩ := Option.bind_eq_some_iff.1 h
    exact Yields.of_pur hS h fun av hav => sliceE_sound hav (opd_eval he x) (fun b off n c f el sz e1 e2 e3 => hsl b off n c f el sz e1 e2 e3) (optNat_rel he hl) (optNat_rel he hhh) (optNat_rel he hmm)
  case fieldAddr s x f => exact Yields.of_pur hS h fun av hav => faddrE_sound hav (opd_eval he x)
  case field t x f => exact Yields.of_pur hS h fun av hav => fieldE_sound hav (opd_eval he x)
  case indexAddr t x i =>
    obtain ⟨k, hk, h⟩ := Option.bind_eq_some_iff.1 h
    obtain ⟨kd, hkd⟩ := natOf_int hk (opd_eval he i)
    exact Yields.of_pur hS h fun av hav => by rw [hkd]; exact addrE_sound hav (opd_eval he x) kd
  case index t x i =>
    obtain ⟨k, hk, h⟩ := Option.bind_eq_some_iff.1 h
    obtain ⟨kd, hkd⟩ := natOf_int hk (opd_eval he i)
    exact Yields.of_pur hS h fun av hav => by rw [hkd]; exact indexE_sound hav (opd_eval he x) kd
  case extract x i => exact Yields.of_pur hS h fun av hav => extractE_sound hav (opd_eval he x)
  case makeSlice t l c =>
    obtain ⟨n, hn, h⟩ := Option.bind_eq_some_iff.1 h
    obtain ⟨k, hk, h⟩ := Option.bind_eq_some_iff.1 h
    obtain ⟨kn, hkn⟩ := natOf_int hn (opd_eval he l)
    obtain ⟨kk, hkk⟩ := natOf_int hk (opd_eval he c)
    have hform := h
    unfold makeE at hform
    obtain ⟨_, _, hform⟩ := Option.bind_eq_some_iff.1 hform
    obtain ⟨_, _, hform⟩ := Option.bind_eq_some_iff.1 hform
    obtain ⟨_, _, hform⟩ := Option.bind_eq_some_iff.1 hform
    obtain ⟨_, _, hform⟩ := Option.bind_eq_some_iff.1 hform
    split at hform
    · simp only [outV, Option.some.injEq] at hform
      have hf : ρ m.next = none := hfree m.next (Nat.le_refl _) (by rw [← hform]; simp [Mem.push])
      have hd := makeE_sound (addr := undef) hS h hf kn kk
      rw [← hkn, ← hkk] at hd
      exact Yields.of_does hd (fun d y hw => by rw [← hform] at hw; cases hw)
    · cases hform
  case makeFunc fn first caps =>
    cases fn <;> simp only at h <;> try (cases h; done)
    rename_i f
    split at h
    · rename_i hf0
      simp only [outV, Option.some.injEq] at h; subst h
      have hfe : first = #[] := Array.eq_empty_of_size_eq_zero hf0
      subst hfe
      refine ⟨.func (.func f) #[] (caps.map a.eval), w, I, ρ, .inl (by simp [execOp, Instr.makeFunc]), ?_, hS, Step.refl _ _ _ _, fun d y h => by cases h⟩
      simp only [VR]
      refine ⟨_, rfl, by simp, VRs_iff.2 fun j c hj => ?_⟩
      rw [List.getElem?_map] at hj
      obtain ⟨x, hx, rfl⟩ := Option.map_eq_some_iff.1 hj
      exact ⟨a.eval x, by simp at hx ⊢; exact ⟨x, hx, rfl⟩, opd_eval he x⟩
    · cases h
end
end Go.Tw
