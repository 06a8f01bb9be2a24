import Derived.Test.YtenmbfplceeolaaDmG11
import Derived.Test.YtenmbfplceeolaaDmG13
import Derived.Test.YtenmbfplceeolaaNaG21
import Derived.Test.YtenmbfplceeolaaNaG22
import Derived.Test.YtenmbfplceeolaaRows
import Derived.ProofKit
import Derived.OpenShut
import Derived.Lib.SmallJoins
import Derived.Deep.Fields
import Derived.ChangeMaps5
/- Arguments of the Dir laws, opened. -/
set_option linter.unusedVariables false
set_option linter.unusedSimpArgs false
set_option maxRecDepth 100000
namespace Go.Proofs.Ytenmbfplceeolaa
open Go Go.Tw Go.Proofs
open Go.ChangeShapes Go.WideShapes Go.ChangeAt Go.RowKit Go.Deep

section
variable {H : Type} {enc : TypeId × Value → H} {W : World} {r : Reach} {b0 : Nat} {v : Value} {d : DataW H} {p : List MemPlace}
def entF (e : Ent) : List AV := [strV e.1, intV e.2]
theorem entF_cells : ∀ l : List Ent, l.flatMap entF = entCells l
  | [] => rfl
  | (s, z) :: l => by rw [List.flatMap_cons, entF_cells l]; rfl
theorem size_mem (s : ByteArray) (y : Lit) : s.size ∈ (DataW.agg [.lit (.string s.data.toList), .lit y] : DataW H).weights Try.prog 37 := size_mem2 Try.underlying37 s y
theorem open_ents (hv : Value.okWide Try.prog W r b0 30 v) (h : DataW.Trod enc Try.prog W 0 (fun _ => true) true 30 v d p) :
    ∃ (av : AV) (l : List Ent) (x : List AV), VR Try.prog W (allI W) noneR av v ∧ RdSl av l.length (entCells l ++ x) ∧ (∀ a ∈ l, a.1.size ≤ maxLen) ∧ l.length ≤ maxLen := by
  have h2 := open_flat (α := Ent) (P := Try.prog) entF (fun a => a.1.size ≤ maxLen) 2 Try.underlying30 (by kernel_rfl) (fun _ => rfl) (fun a c hc => by
    simp only [entF, List.mem_cons, List.not_mem_nil, or_false] at hc
    rcases hc with rfl | rfl <;> rfl) (fun n cs x hx => ?_) hv h
  · obtain ⟨av, l, x, h3, h4, h5, h6⟩ := h2
    rw [entF_cells] at h4
    exact ⟨av, l, x, h3, h4, h5, h6⟩
  · obtain ⟨y0, y1, m, _, hlen, f0, f1⟩ := trod_struct2 Try.underlying37 hx
    have hl : cs.length = 2 := hlen.trans (by kernel_rfl)
    match cs, hl with
    | [c0, c1], _ =>
      have k0 : ([c0, c1].drop 0).take (Try.prog.cellsOf 9) = [c0] := by
        rw [show Try.prog.cellsOf 9 = 1 by kernel_rfl]; rfl
      have k1 : ([c0, c1].drop 1).take (Try.prog.cellsOf 3) = [c1] := by
        rw [show Try.prog.cellsOf 3 = 1 by kernel_rfl]; rfl
      simp only at f0 f1
      rw [k0] at f0
      rw [k1] at f1
      obtain ⟨s, e0, _, z0⟩ := DataW.trod_string Try.underlying9 f0
      obtain ⟨n, e1, _, z1⟩ := DataW.trod_int Try.underlying3 f1
      obtain rfl : c0 = .string s := by simpa using e0
      obtain rfl : c1 = .int .i64 n := by simpa using e1
      exact ⟨(s, n), rfl, z0⟩
theorem open_intsl (hv : Value.okWide Try.prog W r b0 43 v) (h : DataW.Trod enc Try.prog W 0 (fun _ => true) true 43 v d p) :
    ∃ (av : AV) (l : List Int) (x : List AV), VR Try.prog W (allI W) noneR av v ∧ RdSl av l.length (intsA l ++ x) ∧ l.length ≤ maxLen := by
  have h2 := open_flat (α := Int) (P := Try.prog) (fun n => [intV n]) (fun _ => True) 1 Try.underlying43 (by kernel_rfl) (fun _ => rfl) (fun a c hc => by
    simp only [List.mem_cons, List.not_mem_nil, or_false] at hc
    subst hc; rfl) (fun n cs x hx => ?_) hv h
  · obtain ⟨av, l, x, h3, h4, h5, h6⟩ := h2
    rw [show l.flatMap (fun n => [intV n]) = intsA l from List.map_eq_flatMap.symm] at h4
    exact ⟨av, l, x, h3, h4, h6⟩
  · obtain ⟨n, rfl, _, z1⟩ := DataW.trod_int Try.underlying3 hx
    exact ⟨n, rfl, trivial⟩
theorem open_bytesl (hv : Value.okWide Try.prog W r b0 29 v) (h : DataW.Trod enc Try.prog W 0 (fun _ => true) true 29 v d p) :
    ∃ (av : AV) (l : List UInt8) (x : List AV), VR Try.prog W (allI W) noneR av v ∧ RdSl av l.length (bytesA l ++ x) ∧ l.length ≤ maxLen := by
  have h2 := open_flat (α := UInt8) (P := Try.prog) (fun n => [byteV n]) (fun _ => True) 1 Try.underlying29 (by kernel_rfl) (fun _ => rfl) (fun a c hc => by
    simp only [List.mem_cons, List.not_mem_nil, or_false] at hc
    subst hc; rfl) (fun n cs x hx => ?_) hv h
  · obtain ⟨av, l, x, h3, h4, h5, h6⟩ := h2
    rw [show l.flatMap (fun n => [byteV n]) = bytesA l from List.map_eq_flatMap.symm] at h4
    exact ⟨av, l, x, h3, h4, h6⟩
  · obtain ⟨n, rfl, _, z1⟩ := DataW.trod_int Try.underlying5 hx
    refine ⟨UInt8.ofNat n.toNat, ?_, trivial⟩
    have : 0 ≤ n ∧ n ≤ 255 := by
      simp [Lit.wf, IntKind.min, IntKind.max, IntKind.signed, IntKind.bits] at z1
      omega
    simp only [List.map_cons, List.map_nil, byteV, UInt8.toNat_ofNat']
    congr 3
    omega
end
end Go.Proofs.Ytenmbfplceeolaa
