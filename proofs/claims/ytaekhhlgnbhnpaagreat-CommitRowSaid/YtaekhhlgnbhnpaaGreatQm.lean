import Derived.Test.YtaekhhlgnbhnpaaGreatQmcG28
import Derived.Test.YtaekhhlgnbhnpaaGreatQmcG26
import Derived.SizedLaws
set_option linter.unusedVariables false
set_option linter.unusedSimpArgs false
open Go.DataW renaming trod_int→ayV
open Go.Proofs.Tryz renaming prog→ayU
namespace Go.Proofs.YtaekhhlgnbhnpaaGreat
open Go Go.Tw Go.Proofs
open Go.ChangeShapes Go.WideShapes Go.ChangeAt Go.RowKit
theorem own:ownKnob ayU.godebug=none:=by kernel_rfl
theorem acI:laidOutB ayU=true:=by kernel_rfl
set_option maxRecDepth 100000 in
theorem aqv (os : Os) (started : os.Started) (H : Type) (enc : TypeId × Value → H) :
   ReturnsInHanded {} Tryz.checked os 6 .any (Rows.commitRowSpec.pre6 enc ayU Tryz.f6 Rows.commitRowRow.domain false) (Rows.commitRowSpec.post enc ayU Tryz.f6 false true false false) := by
 refine returnsInHanded_of_change_sized (C := Tryz.checked) own started (by kernel_rfl) Tryz.func6
   (ChangeSpec.witness6 (enc := enc) (C := Tryz.checked) false ⟨#[], #[.agg #[.int .i64 0, .int .i64 0, .int .i64 0, .int .i64 0], .slice none 0 0, .int .i64 0, .int .i64 0, .agg #[.int .i64 0, .int .i64 0, .slice none 0 0]], []⟩ 8 (by kernel_rfl) (by kernel_rfl) (by kernel_rfl) (by kernel_rfl)) ?_
 intro W base args ds gs before hval0 hW hcnd hsz0 _
 have hval : ∀ (j : Nat) t v, Tryz.f6.params[j]? = some t → args[j]? = some v → Value.okWide ayU W .any base t v := hval0
 have hsz : (DataW.weightsEach ayU (Tryz.f6.params.toList ++ Rows.commitRowSpec.plain.varTypes ayU) (ds ++ gs)).all (· ≤ reachBytes) = true := hsz0
 have hW' := hW
 obtain ⟨p, q, hA0, hV, rfl, hfz, hnd⟩ := hW
 have hA : DataW.TrodAll enc ayU W 0 (fun _ => true) true Tryz.f6.params.toList args.toList ds p := hA0
 rw [Tryz.params6] at hA hval hsz
 obtain ⟨v0, vs0, d0, ds0, p0, q0, hargs, rfl, rfl, h0, r0⟩ := trodAll_cons hA
 obtain ⟨v1, vs1, d1, ds1, p1, q1, rfl, rfl, rfl, h1, r1⟩ := trodAll_cons r0
 obtain ⟨v2, vs2, d2, ds2, p2, q2, rfl, rfl, rfl, h2, r2⟩ := trodAll_cons r1
 obtain ⟨v3, vs3, d3, ds3, p3, q3, rfl, rfl, rfl, h3, r3⟩ := trodAll_cons r2
 obtain ⟨v4, vs4, d4, ds4, p4, q4, rfl, rfl, rfl, h4, r4⟩ := trodAll_cons r3
 obtain ⟨rfl, rfl, rfl⟩ := trodAll_nil r4
 obtain rfl : args = #[v0, v1, v2, v3, v4] := by cases args; simp_all
 obtain ⟨rfl, rfl⟩ := trodVars_none hV
 have k0 := h0
 have lt0 : ∀ x ∈ p0, x.block < W.heap.size := by obtain ⟨m, hm⟩ := h0; exact DataW.trod_lt m _ _ _ hm
 have k1 := h1
 have lt1 : ∀ x ∈ p1, x.block < W.heap.size := by obtain ⟨m, hm⟩ := h1; exact DataW.trod_lt m _ _ _ hm
 have k2 := h2
 have lt2 : ∀ x ∈ p2, x.block < W.heap.size := by obtain ⟨m, hm⟩ := h2; exact DataW.trod_lt m _ _ _ hm
 have k3 := h3
 have lt3 : ∀ x ∈ p3, x.block < W.heap.size := by obtain ⟨m, hm⟩ := h3; exact DataW.trod_lt m _ _ _ hm
 have k4 := h4
 have lt4 : ∀ x ∈ p4, x.block < W.heap.size := by obtain ⟨m, hm⟩ := h4; exact DataW.trod_lt m _ _ _ hm
 obtain ⟨c0a, c0b, c0c, c0d, y0a, y0b, y0c, y0d, n0, rfl, rfl, rfl, t0a, t0b, t0c, t0d⟩ := Go.Joins.open_agg4 Tryz.underlying23 (by kernel_rfl) (by kernel_rfl) (hval 0 23 v0 rfl rfl) h0
 obtain ⟨a0a, e0a, rfl, z0a⟩ := ayV Tryz.underlying3 t0a
 obtain ⟨a0b, e0b, rfl, z0b⟩ := ayV Tryz.underlying3 t0b
 obtain ⟨a0c, e0c, rfl, z0c⟩ := ayV Tryz.underlying3 t0c
 obtain ⟨a0d, e0d, rfl, z0d⟩ := ayV Tryz.underlying3 t0d
 obtain rfl : c0a = .int .i64 a0a := by simpa using e0a
 obtain rfl : c0b = .int .i64 a0b := by simpa using e0b
 obtain rfl : c0c = .int .i64 a0c := by simpa using e0c
 obtain rfl : c0d = .int .i64 a0d := by simpa using e0d
 obtain ⟨x1, l1, rest1, hv1, hr1, hw1⟩ := ayh (hval 1 24 v1 rfl rfl) h1
 have hz1 : l1.length * 48 ≤ 140737488355328 := by
   rcases hw1 with h | ⟨E, S, hd, he⟩
   · rw [h]; decide
   · have := sized_slice hsz (j := 1) (t := 24) (e := 131) (elems := E) (spare := S) rfl (congrArg some hd) Tryz.underlying24
     rw [show ayU.bytesOf 131 = 48 by kernel_rfl] at this
     have h2 : reachBytes ≤ 140737488355328 := by decide
     omega
 obtain ⟨a2, rfl, rfl, rfl, w2⟩ := open_int Tryz.underlying3 (hval 2 3 v2 rfl rfl) h2
 obtain ⟨a3, rfl, rfl, rfl, w3⟩ := open_int Tryz.underlying3 (hval 3 3 v3 rfl rfl) h3
 obtain ⟨da4, db4, x4, l4, rest4, hv4, hr4, hl4⟩ := ayj (hval 4 33 v4 rfl rfl) h4
 clear hA0 hval0
 refine (asH (ayw a0a a0b a0c a0d a2 a3 da4 db4 x1 x4 l1 rest1 l4 rest4 hr1 hr4 hz1 hl4) rfl ?_).mono fun e W' ⟨he, bel⟩ => ?_
 · simp only [bB, aC, aB, ase]
   refine ⟨⟨_, rfl, ?_⟩, ⟨_, rfl, hv1⟩, ⟨_, rfl, rfl⟩, ⟨_, rfl, rfl⟩, ⟨_, rfl, hv4⟩, trivial⟩
   · simp only [VR, bB]
     exact ⟨_, rfl, rfl, by simp [dY, dL], ⟨_, rfl, rfl⟩, ⟨_, rfl, rfl⟩, ⟨_, rfl, rfl⟩, ⟨_, rfl, rfl⟩, trivial⟩
 · subst he
   exact ⟨_, rfl, _, _, _, [], _, [], hW', trodAll_mk1 (shut_bool Tryz.underlying4 _), (trodAll_cons_mk (Below.trod acI (by kernel_rfl) (of_decide_eq_true (by kernel_rfl)) k0 bel lt0) (trodAll_cons_mk (Below.trod acI (by kernel_rfl) (of_decide_eq_true (by kernel_rfl)) k1 bel lt1) (trodAll_cons_mk (Below.trod acI (by kernel_rfl) (of_decide_eq_true (by kernel_rfl)) k2 bel lt2) (trodAll_cons_mk (Below.trod acI (by kernel_rfl) (of_decide_eq_true (by kernel_rfl)) k3 bel lt3) (trodAll_cons_mk (Below.trod acI (by kernel_rfl) (of_decide_eq_true (by kernel_rfl)) k4 bel lt4) trodAll_mk0))))), rfl, bel.frame _, fun h => by cases h⟩
theorem aqw {a b:Bool} (ha:a=true) (hb:b=true):(a && b)=true:=by rw [ha,hb];rfl
set_option maxHeartbeats 100000000 in
theorem closed:joinedFacts ayU 6 Tryz.f6 Rows.commitRowSpec Rows.commitRowRow=true:=by
 unfold joinedFacts
 repeat' with_reducible refine aqw ?_ ?_
 all_goals (as_aux_lemma=>kernel_rfl)
theorem aqx:Tryz.pinned.checked.prog.funcNamed Rows.commitRowRow.func=some 6:=by kernel_rfl
set_option maxHeartbeats 100000000 in
theorem over:Rows.commitRowRow.holds Tryz.pinned (OpenSpec.ofChange Rows.commitRowSpec) :=
 OpenClaim.holds_of_wide 6 Tryz.f6 rfl rfl rfl rfl rfl rfl rfl ⟨rfl,rfl,rfl,rfl,rfl⟩ rfl rfl rfl rfl rfl aqx Tryz.func6 closed
  (of_decide_eq_true (by kernel_rfl)) (by unfold Func.isWrapper;first | (rw [if_pos (by decide +kernel)];kernel_rfl) | (rw [if_neg (by decide +kernel)];exact ⟨rfl,rfl⟩))
  (fun os started H enc _=>aqv os started H enc)
theorem proved_CommitRow:Rows.CommitRowSaid:=over
end Go.Proofs.YtaekhhlgnbhnpaaGreat