/- Regions, code, functions. -/
import Derived.Test.YtenmbfplceeolaaTwO
set_option linter.unusedVariables false
set_option linter.unusedSimpArgs false
namespace Go.Tw
open Go

/-- what holds between the evaluator and Go, since a start -/
structure Rel (P : Program) (w0 : World) (I0 : Nat → Prop) (ρ0 : Real) (m0 : Mem) (n : Nat) (e : Env) (m : Mem) (a : Act) (w : World) (I : Nat → Prop) (ρ : Real) : Prop where
  er : ER P w I ρ e a
  sr : SR P w I ρ m
  free : ∀ b, m.next ≤ b → ρ b = none
  step : Step w0 I0 ρ0 m0 w I ρ m
  size : a.tmps.size = n
  defers : a.defers = []

section
variable {P : Program} {w0 : World} {I0 : Nat → Prop} {ρ0 : Real} {m0 : Mem} {n : Nat}

theorem put_size (a : Act) (d : Option Tmp) (v : Value) : (a.put d v).tmps.size = a.tmps.size := by cases d <;> simp [Act.put]
theorem put_defers (a : Act) (d : Option Tmp) (v : Value) : (a.put d v).defers = a.defers := by cases d <;> rfl

theorem Rel.next {e : Env} {m : Mem} {a : Act} {w : World} {I : Nat → Prop} {ρ : Real} (h : Rel P w0 I0 ρ0 m0 n e m a w I ρ) {o : Oper} (hd : ∀ d, o.dst = some d → d < n) {out : Out} {v : Value} {w' : World} {I' : Nat → Prop} {ρ' : Real}
    (h2 : VR P w' I' ρ' out.v v) (h3 : SR P w' I' ρ' out.m) (h4 : Step w I ρ m w' I' ρ' out.m) (h5 : ∀ d y, out.wb = some (d, y) → VR P w' I' ρ' y (a.tmps.getD d undef)) (h6 : ∀ b, out.m.next ≤ b → ρ' b = none) :
    Rel P w0 I0 ρ0 m0 n ((wbE e out.wb).put o.dst out.v) out.m (a.put o.dst v) w' I' ρ' where
  er := by
    have h7 : ER P w' I' ρ' (wbE e out.wb) a := by
      have h8 := ER_step h4 h.sr h.er
      cases hw : out.wb with
      | none => exact h8
      | some x =>
        obtain ⟨d, y⟩ := x
        intro t
        simp only [wbE, Env.set]
        split
        · rename_i ht; subst ht; exact h5 _ y hw
        · exact h8 t
    exact ER_put h7 (fun t ht => by rw [h.size]; exact hd t ht) h2
  sr := h3
  free := h6
  step := h.step.trans h4
  size := by rw [put_size]; exact h.size
  defers := by rw [put_defers]; exact h.defers

theorem regOk_dst {ops : Array Oper} (h : regOk n ops = true) {i : Nat} {o : Oper} (ho : ops[i]? = some o) : ∀ d, o.dst = some d → d < n := by
  intro d hd
  unfold regOk at h
  obtain ⟨hi, rfl⟩ := Array.getElem?_eq_some_iff.1 ho
  have := Array.all_eq_true.1 h i hi
  rw [hd] at this
  simpa using this

theorem opsW_plain {once : Nat → Bool} {ops : Array Oper} (hr : regOk n ops = true) {Q : Env → Mem → Prop} {Q' : Exit → Act → World → Prop} (hQ : ∀ e m a w I ρ, Q e m → Rel P w0 I0 ρ0 m0 n e m a w I ρ → Q' .normal a w) :
    ∀ (l : List Oper) (i : Nat) (e : Env) (m : Mem) (a : Act) (w : World) (I : Nat → Prop) (ρ : Real), ops.toList.drop i = l → opsW P once false ops Q l e m → Rel P w0 I0 ρ0 m0 n e m a w I ρ → wpOps P ops Q' (List.range' i l.length) a w
  | [], i, e, m, a, w, I, ρ, hl, h, hR => by
    simp only [opsW] at h
    simp only [List.length_nil, List.range'_zero, wpOps]
    exact hQ e m a w I ρ h hR
  | o :: rest, i, e, m, a, w, I, ρ, hl, h, hR => by
    have ho : ops[i]? = some o := by
      have : (ops.toList.drop i)[0]? = some o := by rw [hl]; rfl
      rw [List.getElem?_drop] at this
      simpa using this
    have hl' : ops.toList.drop (i + 1) = rest := by
      rw [← List.drop_drop, hl]; rfl
    simp only [opsW] at h
    rw [List.length_cons, List.range'_succ]
    simp only [wpOps, ho]
    rw [wanted_eq hR.er o]
    split at h
    · rename_i hw
      rw [if_pos hw]
      refine .inl (stepW_sound hR.sr hR.er h hR.free ?_)
      intro out v w' I' ρ' hK h2 h3 h4 h5 h6
      exact opsW_plain hr hQ rest (i + 1) _ _ _ _ _ _ hl' hK.2 (hR.next (regOk_dst hr ho) h2 h3 h4 h5 h6)
    · rename_i hw
      rw [if_neg hw]
      refine opsW_plain hr hQ rest (i + 1) _ _ _ _ I ρ hl' h ⟨ER_put hR.er (fun t ht => by rw [hR.size]; exact regOk_dst hr ho t ht) (by simp only [undefA, undef, VR]), hR.sr, hR.free, hR.step, by rw [put_size]; exact hR.size, by rw [put_defers]; exact hR.defers⟩

def dstOf (ops : Array Oper) (i : Nat) : Option Nat := (ops[i]?).bind (·.dst)
def drawOk (ops : Array Oper) : Bool :=
  (List.range ops.size).all fun i => match ops[i]? with
    | none => true
    | some o => (binding o).all (fun b => decide (b < i)) && (masks ops).getD i 0 == just (masks ops) (binding o) &&
       (List.range ops.size).all fun j => match dstOf ops j with
         | none => true
         | some t => (j == i || o.dst != some t) && (!(o.looksAt ops).contains t || j == i || (match decide (j < i) with | true => bef (masks ops) j i | false => bef (masks ops) i j))

end
end Go.Tw
