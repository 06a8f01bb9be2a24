import Derived.Test.YtaekhhlgnbhnpaaGreatNzcG28
import Derived.Test.YtaekhhlgnbhnpaaGreatNzcG25
import Derived.SizedLaws
set_option linter.unusedVariables false
set_option linter.unusedSimpArgs false
open Go.Proofs.Tryz renaming prog→ayS
namespace Go.Proofs.YtaekhhlgnbhnpaaGreat
open Go Go.Tw Go.Proofs
open Go.ChangeShapes Go.WideShapes Go.ChangeAt Go.RowKit
theorem own:ownKnob ayS.godebug=none:=by kernel_rfl
theorem afY:laidOutB ayS=true:=by kernel_rfl
set_option maxRecDepth 100000 in
theorem apW (os : Os) (started : os.Started) (H : Type) (enc : TypeId × Value → H) :
   ReturnsInHanded {} Tryz.checked os 8 .any (Rows.liveNamesSpec.pre6 enc ayS Tryz.f8 Rows.liveNamesRow.domain false) (Rows.liveNamesSpec.post enc ayS Tryz.f8 false true false false) := by
 refine returnsInHanded_of_change_sized (C := Tryz.checked) own started (by kernel_rfl) Tryz.func8
   (ChangeSpec.witness6 (enc := enc) (C := Tryz.checked) false ⟨#[], #[.agg #[.int .i64 0, .int .i64 0, .int .i64 0, .int .i64 0, .slice none 0 0], .int .i64 0, .string .empty], []⟩ 8 (by kernel_rfl) (by kernel_rfl) (by kernel_rfl) (by kernel_rfl)) ?_
 intro W base args ds gs before hval0 hW hcnd hsz0 _
 have hval : ∀ (j : Nat) t v, Tryz.f8.params[j]? = some t → args[j]? = some v → Value.okWide ayS W .any base t v := hval0
 have hsz : (DataW.weightsEach ayS (Tryz.f8.params.toList ++ Rows.liveNamesSpec.plain.varTypes ayS) (ds ++ gs)).all (· ≤ reachBytes) = true := hsz0
 have hW' := hW
 obtain ⟨p, q, hA0, hV, rfl, hfz, hnd⟩ := hW
 have hA : DataW.TrodAll enc ayS W 0 (fun _ => true) true Tryz.f8.params.toList args.toList ds p := hA0
 rw [Tryz.params8] at hA hval hsz
 obtain ⟨v0, vs0, d0, ds0, p0, q0, hargs, rfl, rfl, h0, r0⟩ := trodAll_cons hA
 obtain ⟨v1, vs1, d1, ds1, p1, q1, rfl, rfl, rfl, h1, r1⟩ := trodAll_cons r0
 obtain ⟨v2, vs2, d2, ds2, p2, q2, rfl, rfl, rfl, h2, r2⟩ := trodAll_cons r1
 obtain ⟨rfl, rfl, rfl⟩ := trodAll_nil r2
 obtain rfl : args = #[v0, v1, v2] := by cases args; simp_all
 obtain ⟨rfl, rfl⟩ := trodVars_none hV
 have k0 := h0
 have lt0 : ∀ x ∈ p0, x.block < W.heap.size := by obtain ⟨m, hm⟩ := h0; exact DataW.trod_lt m _ _ _ hm
 have k1 := h1
 have lt1 : ∀ x ∈ p1, x.block < W.heap.size := by obtain ⟨m, hm⟩ := h1; exact DataW.trod_lt m _ _ _ hm
 have k2 := h2
 have lt2 : ∀ x ∈ p2, x.block < W.heap.size := by obtain ⟨m, hm⟩ := h2; exact DataW.trod_lt m _ _ _ hm
 obtain ⟨ka0, ra0, ca0, wa0, x0, l0, rest0, hv0, hr0, hw0⟩ := axB (hval 0 47 v0 rfl rfl) h0
 have hz0 : l0.length * 24 ≤ 140737488355328 := by
   rcases hw0 with h | ⟨a, E, S, hd, he⟩
   · rw [h]; decide
   · rw [← he]
     exact axC hsz (j := 0) (a := a) (E := E) (S := S) rfl (congrArg some hd)
 obtain ⟨a1, rfl, rfl, rfl, w1⟩ := open_int Tryz.underlying3 (hval 1 3 v1 rfl rfl) h1
 obtain ⟨s2, rfl, rfl, rfl, z2⟩ := Go.ChangeMaps.open_string Tryz.underlying9 (hval 2 9 v2 rfl rfl) h2
 have w2 : s2.size ≤ reachBytes := by
   have := sized_string hsz (j := 2) (t := 9) rfl rfl
   rw [ar4] at this
   exact this
 clear hA0 hval0
 refine (ar5 (ayw ka0 ra0 ca0 wa0 a1 x0 l0 rest0 hr0 hz0 s2 (Nat.le_trans w2 (by decide))) rfl ?_).mono fun e W' ⟨he, bel⟩ => ?_
 · simp only [bC, aA, aC, gG]
   refine ⟨⟨_, rfl, hv0⟩, ⟨_, rfl, rfl⟩, ⟨_, rfl, rfl⟩, trivial⟩
 · subst he
   exact ⟨_, rfl, _, _, _, [], _, [], hW', trodAll_mk1 (shut_bool Tryz.underlying4 _), (trodAll_cons_mk (Below.trod afY (by kernel_rfl) (of_decide_eq_true (by kernel_rfl)) k0 bel lt0) (trodAll_cons_mk (Below.trod afY (by kernel_rfl) (of_decide_eq_true (by kernel_rfl)) k1 bel lt1) (trodAll_cons_mk (Below.trod afY (by kernel_rfl) (of_decide_eq_true (by kernel_rfl)) k2 bel lt2) trodAll_mk0))), rfl, bel.frame _, fun h => by cases h⟩
theorem apX {a b:Bool} (ha:a=true) (hb:b=true):(a && b)=true:=by rw [ha,hb];rfl
set_option maxHeartbeats 100000000 in
theorem closed:joinedFacts ayS 8 Tryz.f8 Rows.liveNamesSpec Rows.liveNamesRow=true:=by
 unfold joinedFacts
 repeat' with_reducible refine apX ?_ ?_
 all_goals (as_aux_lemma=>kernel_rfl)
theorem apY:Tryz.pinned.checked.prog.funcNamed Rows.liveNamesRow.func=some 8:=by kernel_rfl
set_option maxHeartbeats 100000000 in
theorem over:Rows.liveNamesRow.holds Tryz.pinned (OpenSpec.ofChange Rows.liveNamesSpec) :=
 OpenClaim.holds_of_wide 8 Tryz.f8 rfl rfl rfl rfl rfl rfl rfl ⟨rfl,rfl,rfl,rfl,rfl⟩ rfl rfl rfl rfl rfl apY Tryz.func8 closed
  (of_decide_eq_true (by kernel_rfl)) (by unfold Func.isWrapper;first | (rw [if_pos (by decide +kernel)];kernel_rfl) | (rw [if_neg (by decide +kernel)];exact ⟨rfl,rfl⟩))
  (fun os started H enc _=>apW os started H enc)
theorem proved_LiveNames:Rows.LiveNamesSaid:=over
end Go.Proofs.YtaekhhlgnbhnpaaGreat