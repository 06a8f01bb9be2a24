import Derived.Test.YtenmbfplceeolaaEnG20
import Derived.Test.YtenmbfplceeolaaEnG23
import Derived.SizedLaws
set_option linter.unusedVariables false
set_option linter.unusedSimpArgs false
namespace Go.Proofs.Ytenmbfplceeolaa
open Go Go.Tw Go.Proofs
open Go.ChangeShapes Go.WideShapes Go.ChangeAt Go.RowKit

theorem own : ownKnob Try.prog.godebug = none := by kernel_rfl
theorem laidOut : laidOutB Try.prog = true := by kernel_rfl
set_option maxRecDepth 100000 in
theorem lifted (os : Os) (started : os.Started) (H : Type) (enc : TypeId × Value → H) :
    ReturnsInHanded {} Try.checked os 5 .any (Rows.dirEntriesSpec.pre6 enc Try.prog Try.f5 Rows.dirEntriesRow.domain false) (Rows.dirEntriesSpec.post enc Try.prog Try.f5 false true false false) := by
  refine returnsInHanded_of_change_sized (C := Try.checked) own started (by kernel_rfl) Try.func5
    (ChangeSpec.witness6 (enc := enc) (C := Try.checked) false ⟨#[], #[.agg #[.int .i64 0, .int .i64 0, .int .i64 0, .int .i64 0], .slice none 0 0, .agg #[.string .empty, .int .i64 0], .string .empty], []⟩ 8 (by kernel_rfl) (by kernel_rfl) (by kernel_rfl) (by kernel_rfl)) ?_
  intro W base args ds gs before hval0 hW hcnd hsz0 _
  have hval : ∀ (j : Nat) t v, Try.f5.params[j]? = some t → args[j]? = some v → Value.okWide Try.prog W .any base t v := hval0
  have hsz : (DataW.weightsEach Try.prog (Try.f5.params.toList ++ Rows.dirEntriesSpec.plain.varTypes Try.prog) (ds ++ gs)).all (· ≤ reachBytes) = true := hsz0
  have hW' := hW
  obtain ⟨p, q, hA0, hV, rfl, hfz, hnd⟩ := hW
  have hA : DataW.TrodAll enc Try.prog W 0 (fun _ => true) true Try.f5.params.toList args.toList ds p := hA0
  rw [Try.params5] at hA hval hsz
  obtain ⟨v0, vs0, d0, ds0, p0, q0, hargs, rfl, rfl, h0, r0⟩ := trodAll_cons hA
  obtain ⟨v1, vs1, d1, ds1, p1, q1, rfl, rfl, rfl, h1, r1⟩ := trodAll_cons r0
  obtain ⟨v2, vs2, d2, ds2, p2, q2, rfl, rfl, rfl, h2, r2⟩ := trodAll_cons r1
  obtain ⟨v3, vs3, d3, ds3, p3, q3, rfl, rfl, rfl, h3, r3⟩ := trodAll_cons r2
  obtain ⟨rfl, rfl, rfl⟩ := trodAll_nil r3
  obtain rfl : args = #[v0, v1, v2, v3] := by cases args; simp_all
  obtain ⟨rfl, rfl⟩ := trodVars_none hV
  have k0 := h0
  have lt0 : ∀ x ∈ p0, x.block < W.heap.size := by obtain ⟨m, hm⟩ := h0; exact DataW.trod_lt m _ _ _ hm
  have k1 := h1
  have lt1 : ∀ x ∈ p1, x.block < W.heap.size := by obtain ⟨m, hm⟩ := h1; exact DataW.trod_lt m _ _ _ hm
  have k2 := h2
  have lt2 : ∀ x ∈ p2, x.block < W.heap.size := by obtain ⟨m, hm⟩ := h2; exact DataW.trod_lt m _ _ _ hm
  have k3 := h3
  have lt3 : ∀ x ∈ p3, x.block < W.heap.size := by obtain ⟨m, hm⟩ := h3; exact DataW.trod_lt m _ _ _ hm
  obtain ⟨c0a, c0b, c0c, c0d, y0a, y0b, y0c, y0d, n0, rfl, rfl, rfl, t0a, t0b, t0c, t0d⟩ := Go.Joins.open_agg4 Try.underlying23 (by kernel_rfl) (by kernel_rfl) (hval 0 23 v0 rfl rfl) h0
  obtain ⟨a0a, e0a, rfl, z0a⟩ := DataW.trod_int Try.underlying3 t0a
  obtain ⟨a0b, e0b, rfl, z0b⟩ := DataW.trod_int Try.underlying3 t0b
  obtain ⟨a0c, e0c, rfl, z0c⟩ := DataW.trod_int Try.underlying3 t0c
  obtain ⟨a0d, e0d, rfl, z0d⟩ := DataW.trod_int Try.underlying3 t0d
  obtain rfl : c0a = .int .i64 a0a := by simpa using e0a
  obtain rfl : c0b = .int .i64 a0b := by simpa using e0b
  obtain rfl : c0c = .int .i64 a0c := by simpa using e0c
  obtain rfl : c0d = .int .i64 a0d := by simpa using e0d
  obtain ⟨x1, l1, rest1, hv1, hr1, hz1, hl1⟩ := open_ents (hval 1 30 v1 rfl rfl) h1
  obtain ⟨c2a, c2b, y2a, y2b, n2, rfl, rfl, rfl, t2a, t2b⟩ := Go.Joins.open_agg2 Try.underlying37 (by kernel_rfl) (by kernel_rfl) (hval 2 37 v2 rfl rfl) h2
  obtain ⟨s2, e2a, rfl, z2a⟩ := DataW.trod_string Try.underlying9 t2a
  obtain ⟨a2, e2b, rfl, z2b⟩ := DataW.trod_int Try.underlying3 t2b
  obtain rfl : c2a = .string s2 := by simpa using e2a
  obtain rfl : c2b = .int .i64 a2 := by simpa using e2b
  have w2 : s2.size ≤ reachBytes := by
    have := List.all_eq_true.1 hsz s2.size (DataW.weights_mem_each (j := 2) (t := 37) rfl rfl _ (size_mem s2 _))
    exact of_decide_eq_true this
  obtain ⟨s3, rfl, rfl, rfl, z3⟩ := Go.ChangeMaps.open_string Try.underlying9 (hval 3 9 v3 rfl rfl) h3
  have w3 : s3.size ≤ reachBytes := by
    have := sized_string hsz (j := 3) (t := 9) rfl rfl
    rw [size_list] at this
    exact this
  clear hA0 hval0
  refine (law_calls (law22_DirEntries a0a a0b a0c a0d x1 l1 rest1 s2 s3 a2 hr1 hl1 hz1 (Nat.le_trans w2 (by decide)) (Nat.le_trans w3 (by decide))) rfl ?_).mono fun e W' ⟨he, bel⟩ => ?_
  · simp only [VRs, parV, intV, strV]
    refine ⟨⟨_, rfl, ?_⟩, ⟨_, rfl, hv1⟩, ⟨_, rfl, ?_⟩, ⟨_, rfl, rfl⟩, trivial⟩
    · simp only [VR, VRs]
      exact ⟨_, rfl, rfl, by simp [AllOne, oneA], ⟨_, rfl, rfl⟩, ⟨_, rfl, rfl⟩, ⟨_, rfl, rfl⟩, ⟨_, rfl, rfl⟩, trivial⟩
    · simp only [VR, VRs]
      exact ⟨_, rfl, rfl, by simp [AllOne, oneA], ⟨_, rfl, rfl⟩, ⟨_, rfl, rfl⟩, trivial⟩
  · subst he
    exact ⟨_, rfl, _, _, _, [], _, [], hW', trodAll_mk1 (shut_bool Try.underlying4 _), (trodAll_cons_mk (Below.trod laidOut (by kernel_rfl) (of_decide_eq_true (by kernel_rfl)) k0 bel lt0) (trodAll_cons_mk (Below.trod laidOut (by kernel_rfl) (of_decide_eq_true (by kernel_rfl)) k1 bel lt1) (trodAll_cons_mk (Below.trod laidOut (by kernel_rfl) (of_decide_eq_true (by kernel_rfl)) k2 bel lt2) (trodAll_cons_mk (Below.trod laidOut (by kernel_rfl) (of_decide_eq_true (by kernel_rfl)) k3 bel lt3) trodAll_mk0)))), rfl, bel.frame _, fun h => by cases h⟩

theorem over : Rows.dirEntriesRow.holds Try.pinned (OpenSpec.ofChange Rows.dirEntriesSpec) :=
  OpenClaim.holds_of_wide 5 Try.f5 rfl rfl rfl rfl rfl rfl rfl ⟨rfl, rfl, rfl, rfl, rfl⟩ rfl rfl rfl rfl rfl (by kernel_rfl) Try.func5 (by kernel_rfl)
    (of_decide_eq_true (by kernel_rfl)) (by unfold Func.isWrapper; first | (rw [if_pos (by decide +kernel)]; kernel_rfl) | (rw [if_neg (by decide +kernel)]; exact ⟨rfl, rfl⟩))
    (fun os started H enc _ => lifted os started H enc)

/-- THE STATEMENT -/
theorem proved_DirEntries : Rows.DirEntriesSaid := over
end Go.Proofs.Ytenmbfplceeolaa
