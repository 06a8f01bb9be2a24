import Derived.Test.YtenmbfplceeolaaCmG15
import Derived.Shelf.SlSortCmp.NoneTotal
/- slices.SortFunc at no tally. -/
set_option linter.unusedVariables false
set_option linter.unusedSimpArgs false
set_option maxRecDepth 10000
namespace Go.Proofs.Ytenmbfplceeolaa
open Go Go.Tw Go.Proofs

theorem sort_nil : SortNil := by
  refine ⟨by kernel_rfl, fun w I vs hI hsz hv => ?_⟩
  have hsz2 : vs.size = 2 := hsz
  obtain ⟨v0, hv0, h0⟩ := VRs_at hv (j := 0) rfl
  obtain ⟨v1, hv1, h1⟩ := VRs_at hv (j := 1) rfl
  simp only [nilS, VR] at h0
  subst h0
  have hvs : vs = #[.slice none 0 0, v1] := by
    apply Array.ext (by simpa using hsz2)
    intro i h1 h2
    have : i = 0 ∨ i = 1 := by simp at h2; omega
    rcases this with rfl | rfl
    · simp only [Array.getElem?_eq_getElem h1, Option.some.injEq] at hv0; simpa using hv0
    · simp only [Array.getElem?_eq_getElem h1, Option.some.injEq] at hv1; simpa using hv1
  have hcon := AnyF.slices_SortFunc_none sortTally none 0 v1 w
  change Calls Try.prog 80 _ _ _ at hcon
  rw [hvs]
  refine hcon.mono ?_
  rintro en w' ⟨rfl, rfl⟩
  exact ⟨.tuple #[], I, noneR, rfl, by simp only [undefA, VR], ⟨fun b k g o h => by simp [pushAll, pushFrom, Mem.empty] at h, fun b b' k k' g o o' h => by simp [pushAll, pushFrom, Mem.empty] at h, hI, MRs.none⟩, Step.refl _ _ _ _⟩
theorem census_Tallies_ok (k r c w : Int) (v : AV) (ps : List PairB) (cells : List AV) (hv : RowV v ps cells) (hc : chkI k r c w ps = 0) : FSpec Try.prog 42 [parV k r c w, v] (tallyR (heldsP k r c w ps)) := census_Tallies_own sort_spec sort_nil k r c w v ps cells hv hc
theorem census_Tallies_bad (k r c w : Int) (v : AV) (ps : List PairB) (cells : List AV) (hv : RowV v ps cells) (hc : ¬ chkI k r c w ps = 0) : FSpec Try.prog 42 [parV k r c w, v] ⟨.tup [nilS, intV (chkI k r c w ps)], []⟩ := by
  have hp := hv.rd.plain
  have hh := census_held k r c w v ps cells hv
  unfold heldV at hh
  rw [if_neg hc] at hh
  generalize chkI k r c w ps = ck at *
  refine fspec_of_body follows Try.func42 (by unfold Try.f42; rfl) (by unfold Try.f42; simp) onceA (by unfold Try.f42; simp) (by kernel_rfl) ?_; unfold Try.f42
  simp only [↓pre, post, ↓reduceIte, Nat.reduceEqDiff, Nat.reduceAdd, Nat.reduceMul, Nat.reduceSub, Nat.reduceLeDiff, Nat.reduceMod, Nat.reduceDiv, reduceCtorEq, Nat.reduceLT, Nat.reduceGT, Nat.reduceBEq, Option.isSome_some, ne_eq, Int.reduceEq, not_false_eq_true, bin_quo, bin_rem, List.length_cons, List.length_nil, List.map_cons, List.map_nil, List.append_nil, List.cons_append, List.nil_append, List.take_succ_cons, List.take_zero, List.drop_succ_cons, List.drop_zero, Nat.zero_add, Nat.add_zero, Nat.zero_le, Nat.le_refl, decide_true, decide_false, Bool.not_true, Bool.not_false, stepW, opE, intV, parV, boxE, loadE, partE, faddrE, fieldE, checkE, extractE, resultsE, resEs, resE, buildE, fillE, splice, if_true, if_false, Bool.false_eq_true, true_and, and_true, AV.cells, okA, oneA, fzs, fz, opTmp, Option.bind_some, Option.map_some, List.getElem?_cons_zero, List.getElem?_cons_succ, and_self, canonR, canon, canons, shift, shifts, pushAll, pushFrom, tys42, onceA, postU]
  (first | refine call_plain (hh) (by first | rfl | simp only [plains, plain, parV, intV, boolV, Bool.and_true, Bool.and_self, *]) ?_ | refine call_pure (hh) (by first | rfl | simp only [plains, plain, parV, intV, boolV, Bool.and_true, Bool.and_self, *]) (by intro k; first | rfl | simp only [shift, shifts, intV, boolV, *]) ?_); simp only [↓pre, post, ↓reduceIte, Nat.reduceEqDiff, Nat.reduceAdd, Nat.reduceMul, Nat.reduceSub, Nat.reduceLeDiff, Nat.reduceMod, Nat.reduceDiv, reduceCtorEq, Nat.reduceLT, Nat.reduceGT, Nat.reduceBEq, Option.isSome_some, ne_eq, Int.reduceEq, not_false_eq_true, bin_quo, bin_rem, List.length_cons, List.length_nil, List.map_cons, List.map_nil, List.append_nil, List.cons_append, List.nil_append, List.take_succ_cons, List.take_zero, List.drop_succ_cons, List.drop_zero, Nat.zero_add, Nat.add_zero, Nat.zero_le, Nat.le_refl, decide_true, decide_false, Bool.not_true, Bool.not_false, stepW, opE, intV, parV, boxE, loadE, partE, faddrE, fieldE, checkE, extractE, resultsE, resEs, resE, buildE, fillE, splice, if_true, if_false, Bool.false_eq_true, true_and, and_true, AV.cells, okA, oneA, fzs, fz, opTmp, Option.bind_some, Option.map_some, List.getElem?_cons_zero, List.getElem?_cons_succ, and_self, canonR, canon, canons, shift, shifts, pushAll, pushFrom, tys42, onceA, postU, nilS, hc]
/-- the versions of a row, the greatest first -/
def talT (k r c w : Int) (ps : List PairB) : List Int := if chkI k r c w ps = 0 then versF (heldsP k r c w ps) else []
theorem vers_cells {hs : List (Int × Int)} {v : Int} (hv : v ∈ versF hs) : (cellsN hs v hs.length).length ≠ 0 := by
  obtain ⟨_, _, i, y, hy, hh⟩ := ((versF_falls hs).mem v).1 hv
  have hil := (List.getElem?_eq_some_iff.1 hy).1
  have : (i : Int) ∈ cellsN hs v hs.length := by
    unfold cellsN
    rw [List.mem_filterMap]
    refine ⟨i, by rw [List.mem_range]; omega, ?_⟩
    have : holdsAt hs i v = true := by
      unfold holdsAt
      rw [hy]
      simpa using hh
    rw [if_pos this]
  intro h0
  rw [List.length_eq_zero_iff.1 h0] at this
  cases this
theorem flatMap_same {α β : Type} {f g : α → List β} : ∀ (l : List α), (∀ x ∈ l, f x = g x) → l.flatMap f = l.flatMap g
  | [], _ => rfl
  | a :: l, h => by rw [List.flatMap_cons, List.flatMap_cons, h a (by simp), flatMap_same l fun x hx => h x (by simp [hx])]
theorem tX_cells (hs : List (Int × Int)) : (tX hs).flatMap (fun x => [intV x.1, .tree x.2.2.length x.2.2.length (intsA x.2.2) false]) = tCells hs (versF hs) := by
  unfold tX tCells
  rw [List.flatMap_map]
  refine flatMap_same _ fun v hv => ?_
  have := vers_cells hv
  simp only [tCell, treeR, if_neg this]
theorem census_Tallies (k r c w : Int) (v : AV) (ps : List PairB) (cells : List AV) (hv : RowV v ps cells) : FSpec Try.prog 42 [parV k r c w, v] ⟨.tup [treeR (talT k r c w ps).length (tCells (heldsP k r c w ps) (talT k r c w ps)), intV (chkI k r c w ps)], []⟩ := by
  by_cases hc : chkI k r c w ps = 0
  · have h := census_Tallies_ok k r c w v ps cells hv hc
    rw [hc]
    unfold talT
    rw [if_pos hc]
    generalize heldsP k r c w ps = hs at *
    by_cases hn : versF hs = []
    · unfold tallyR at h
      rw [if_pos hn] at h
      rw [hn]
      exact h
    · unfold tallyR at h
      rw [if_neg hn] at h
      have hxl : (tX hs).length = (versF hs).length := by simp [tX]
      have hnl : (nestR (tX hs)).length = (versF hs).length := by simp [nestR, hxl]
      have k9 : kindT Try.prog 69 = .var := by kernel_rfl
      have hlast : (nestR (tX hs) ++ [(69, nestO 0 (tX hs))]).getD (versF hs).length (0, []) = (69, nestO 0 (tX hs)) := by
        rw [List.getD_eq_getElem?_getD, List.getElem?_append_right (by omega), hnl, Nat.sub_self]
        rfl
      have hnf := nest_fz (nestR (tX hs) ++ [(69, nestO 0 (tX hs))]) 0 (tX hs) 0 fun j x hj => by
        have hjl := (List.getElem?_eq_some_iff.1 hj).1
        rw [Nat.zero_add, List.getElem?_append_left (by omega)]
        unfold nestR
        rw [List.getElem?_map, hj]
        rfl
      have hlast2 := hlast
      rw [List.getD_eq_getElem?_getD] at hlast2
      have h2 := fspec_frozen 1 h (by simp [fzOk, fzOks, intV, hlast2, hnf.2])
      have e : fzV Try.prog (nestR (tX hs) ++ [(69, nestO 0 (tX hs))]) 1 (.tup [.sl (versF hs).length 0 (versF hs).length (versF hs).length false, intV 0]) = .tup [treeR (versF hs).length (tCells hs (versF hs)), intV 0] := by
        have hne : ¬ (versF hs).length = 0 := fun h => hn (List.length_eq_zero_iff.1 h)
        rw [← tX_cells hs]
        simp only [fzV, fzVs, intV, hlast, k9, reduceCtorEq, if_false, hnf.1, List.drop_zero, treeR, if_neg hne]
      rw [e] at h2
      exact h2
  · have h := census_Tallies_bad k r c w v ps cells hv hc
    unfold talT
    rw [if_neg hc]
    exact h
end Go.Proofs.Ytenmbfplceeolaa

set_option linter.unusedVariables false
set_option linter.unusedSimpArgs false
set_option maxRecDepth 10000
namespace Go.Proofs.Ytenmbfplceeolaa
open Go Go.Tw Go.Proofs

def cntB (k : Int) (hs : List (Int × Int)) (v : Int) : Bool := decide (k ≤ ((cellsN hs v hs.length).length : Nat))
def cntT (k : Int) (hs : List (Int × Int)) (T : List Int) : List Int := T.filter (cntB k hs)
def losT (k : Int) (hs : List (Int × Int)) (T : List Int) : List Int := T.takeWhile fun v => !cntB k hs v
theorem talT_len (k r c w : Int) (ps : List PairB) : (talT k r c w ps).length ≤ 1073741824 := by
  have key : ∀ (T : List Int) (n : Nat), T.Pairwise (· > ·) → (∀ v ∈ T, 1 ≤ v ∧ v ≤ n) → T.length ≤ n := by
    intro T
    induction T with
    | nil => intro n _ _; simp
    | cons a T ih =>
      intro n hp hb
      rw [List.pairwise_cons] at hp
      have h1 := hb a (by simp)
      have := ih (a.toNat - 1) hp.2 fun v hv => by
        have := hp.1 v hv
        have := hb v (by simp [hv])
        omega
      rw [List.length_cons]
      omega
  unfold talT
  split
  · have hf := versF_falls (heldsP k r c w ps)
    refine key _ 1073741824 hf.pw fun v hv => ?_
    have := (hf.mem v).1 hv
    have := helds_lt v this.2.2
    omega
  · simp
theorem census_counting_own (k r c w : Int) (v : AV) (ps : List PairB) (cells : List AV) (hv : RowV v ps cells) : FSpec Try.prog 77 [parV k r c w, v] (ownE 3 (cntT k (heldsP k r c w ps) (talT k r c w ps)).length (intsA (cntT k (heldsP k r c w ps) (talT k r c w ps))) (chkI k r c w ps)) := by
  have hp := hv.rd.plain
  have hh := census_Tallies k r c w v ps cells hv
  by_cases hc : chkI k r c w ps = 0
  · rw [hc] at hh ⊢
    have hTl := talT_len k r c w ps
    generalize talT k r c w ps = T at *
    generalize heldsP k r c w ps = hs at *
    generalize hres : ownE 3 (cntT k hs T).length (intsA (cntT k hs T)) 0 = res
    have hrd := treeR_rd T.length (tCells hs T)
    have hlst : (if T.length = 0 then (0 : Int) else (0 : Int)) = 0 := by split <;> rfl
    replace hres := Hid.mk hres
    replace hTl := Hid.mk hTl
    refine fspec_of_body follows Try.func77 (by unfold Try.f77; rfl) (by unfold Try.f77; simp) onceA (by unfold Try.f77; simp) (by kernel_rfl) ?_; unfold Try.f77
    simp only [↓pre, post, ↓reduceIte, Nat.reduceEqDiff, Nat.reduceAdd, Nat.reduceMul, Nat.reduceSub, Nat.reduceLeDiff, Nat.reduceMod, Nat.reduceDiv, reduceCtorEq, Nat.reduceLT, Nat.reduceGT, Nat.reduceBEq, Option.isSome_some, ne_eq, Int.reduceEq, not_false_eq_true, bin_quo, bin_rem, List.length_cons, List.length_nil, List.map_cons, List.map_nil, List.append_nil, List.cons_append, List.nil_append, List.take_succ_cons, List.take_zero, List.drop_succ_cons, List.drop_zero, Nat.zero_add, Nat.add_zero, Nat.zero_le, Nat.le_refl, decide_true, decide_false, Bool.not_true, Bool.not_false, stepW, opE, intV, parV, boxE, loadE, partE, faddrE, fieldE, checkE, extractE, resultsE, resEs, resE, buildE, fillE, splice, if_true, if_false, Bool.false_eq_true, true_and, and_true, AV.cells, okA, oneA, fzs, fz, opTmp, Option.bind_some, Option.map_some, List.getElem?_cons_zero, List.getElem?_cons_succ, and_self, canonR, canon, canons, shift, shifts, pushAll, pushFrom, tys77, onceA, postU]
    (first | refine call_plain (hh) (by first | rfl | simp only [plains, plain, plain_treeR, Bool.and_true, Bool.and_self, *]) ?_ | refine call_pure (hh) (by first | rfl | simp only [plains, plain, plain_treeR, Bool.and_true, Bool.and_self, *]) (by intro k; first | rfl | simp only [shift, shifts, intV, boolV, *]) ?_); simp only [↓pre, post, ↓reduceIte, Nat.reduceEqDiff, Nat.reduceAdd, Nat.reduceMul, Nat.reduceSub, Nat.reduceLeDiff, Nat.reduceMod, Nat.reduceDiv, reduceCtorEq, Nat.reduceLT, Nat.reduceGT, Nat.reduceBEq, Option.isSome_some, ne_eq, Int.reduceEq, not_false_eq_true, bin_quo, bin_rem, List.length_cons, List.length_nil, List.map_cons, List.map_nil, List.append_nil, List.cons_append, List.nil_append, List.take_succ_cons, List.take_zero, List.drop_succ_cons, List.drop_zero, Nat.zero_add, Nat.add_zero, Nat.zero_le, Nat.le_refl, decide_true, decide_false, Bool.not_true, Bool.not_false, stepW, opE, intV, parV, boxE, loadE, partE, faddrE, fieldE, checkE, extractE, resultsE, resEs, resE, buildE, fillE, splice, if_true, if_false, Bool.false_eq_true, true_and, and_true, AV.cells, okA, oneA, fzs, fz, opTmp, Option.bind_some, Option.map_some, List.getElem?_cons_zero, List.getElem?_cons_succ, and_self, canonR, canon, canons, shift, shifts, pushAll, pushFrom, tys77, onceA, postU, postFz, hrd.len']
    rw [codeW_loop]
    refine loop_intro (fun q e m => ∃ i lv, q + i = T.length ∧ e 2 = .tptr 0 [intV k, intV r, intV c, intV w] ∧ e 8 = lv ∧ e 20 = treeR T.length (tCells hs T) ∧ e 21 = intV (T.length : Nat) ∧ e 22 = intV (i : Nat) ∧ Hid (Own m 3 1 lv (cntT k hs (T.take i)).length (intsA (cntT k hs (T.take i))))) T.length ⟨0, nilS, by omega, rfl, rfl, rfl, rfl, rfl, ⟨own_nil⟩⟩ ?_
    rintro q e m ⟨i, lv, hqi, e2, e8, e20, e21, e22, hJ⟩
    replace hqi := Hid.mk hqi
    by_cases hlt : i < T.length
    · have hlt' : ((i : Nat) : Int) < ((T.length : Nat) : Int) := by omega
      have w1 := wrap_succ (n := i) (by have := hTl.out; omega)
      obtain ⟨z, hz⟩ : ∃ z, T[i]? = some z := ⟨_, List.getElem?_eq_getElem hlt⟩
      obtain ⟨t1, t2⟩ := tCells_at hs T i z hz
      obtain ⟨ht, htl⟩ := take2 t1 t2
      have hcell : RdSl (tCell hs z) (cellsN hs z hs.length).length (intsA (cellsN hs z hs.length)) := treeR_rd _ _
      have f1 := rd_fz hcell
      have o1 := rd_one hcell
      have htk : T.take (i + 1) = T.take i ++ [z] := by rw [List.take_add_one, hz]; rfl
      have hct : cntT k hs (T.take (i + 1)) = cntT k hs (T.take i) ++ (if cntB k hs z = true then [z] else []) := by
        unfold cntT
        rw [htk, List.filter_append]
        cases h : cntB k hs z <;> simp [h]
      have hcl : (cntT k hs (T.take i)).length ≤ 1073741824 := by
        unfold cntT
        have := List.length_filter_le (cntB k hs) (T.take i)
        have := List.length_take_le i T
        have := hTl.out
        omega
      replace hz := Hid.mk hz
      replace htk := Hid.mk htk
      replace hct := Hid.mk hct
      replace hcl := Hid.mk hcl
      by_cases hb : k ≤ ((cellsN hs z hs.length).length : Nat)
      · have hcb : cntB k hs z = true := by unfold cntB; rw [decide_eq_true hb]
        simp only [↓pre, post, ↓reduceIte, Nat.reduceEqDiff, Nat.reduceAdd, Nat.reduceMul, Nat.reduceSub, Nat.reduceLeDiff, Nat.reduceMod, Nat.reduceDiv, reduceCtorEq, Nat.reduceLT, Nat.reduceGT, Nat.reduceBEq, Option.isSome_some, ne_eq, Int.reduceEq, not_false_eq_true, bin_quo, bin_rem, List.length_cons, List.length_nil, List.map_cons, List.map_nil, List.append_nil, List.cons_append, List.nil_append, List.take_succ_cons, List.take_zero, List.drop_succ_cons, List.drop_zero, Nat.zero_add, Nat.add_zero, Nat.zero_le, Nat.le_refl, decide_true, decide_false, Bool.not_true, Bool.not_false, stepW, opE, intV, parV, boxE, loadE, partE, faddrE, fieldE, checkE, extractE, resultsE, resEs, resE, buildE, fillE, splice, if_true, if_false, Bool.false_eq_true, true_and, and_true, AV.cells, okA, oneA, fzs, fz, opTmp, Option.bind_some, Option.map_some, List.getElem?_cons_zero, List.getElem?_cons_succ, and_self, canonR, canon, canons, shift, shifts, pushAll, pushFrom, tys77, onceA, postU, postA, postV, allocE, storeE, eq_self, put_at, push_at, e2, e8, e20, e21, e22, hlt', hrd.addr', hlt, ht, htl, f1, o1, hcell.len', hb, cond_t]
        refine app_keep (kd := .flat) (sz := 1) (y := 8) (zl := [.int .i64 0]) (by kernel_rfl) (hJ.out.pp _ _) (by kernel_rfl) (by kernel_rfl) (by kernel_rfl) rfl srcT1 (by rfl) (by have := hcl.out; omega) (by have := hcl.out; omega) ?_
        intro lv' m3 ho' hnx' hkeep hbl
        simp only [↓pre, post, ↓reduceIte, Nat.reduceEqDiff, Nat.reduceAdd, Nat.reduceMul, Nat.reduceSub, Nat.reduceLeDiff, Nat.reduceMod, Nat.reduceDiv, reduceCtorEq, Nat.reduceLT, Nat.reduceGT, Nat.reduceBEq, Option.isSome_some, ne_eq, Int.reduceEq, not_false_eq_true, bin_quo, bin_rem, List.length_cons, List.length_nil, List.map_cons, List.map_nil, List.append_nil, List.cons_append, List.nil_append, List.take_succ_cons, List.take_zero, List.drop_succ_cons, List.drop_zero, Nat.zero_add, Nat.add_zero, Nat.zero_le, Nat.le_refl, decide_true, decide_false, Bool.not_true, Bool.not_false, stepW, opE, intV, parV, boxE, loadE, partE, faddrE, fieldE, checkE, extractE, resultsE, resEs, resE, buildE, fillE, splice, if_true, if_false, Bool.false_eq_true, true_and, and_true, AV.cells, okA, oneA, fzs, fz, opTmp, Option.bind_some, Option.map_some, List.getElem?_cons_zero, List.getElem?_cons_succ, and_self, canonR, canon, canons, shift, shifts, pushAll, pushFrom, tys77, onceA, postU, e2, e8, e20, e21, e22, w1]
        refine ⟨q - 1, by have := hqi.out; omega, i + 1, lv', by have := hqi.out; omega, rfl, rfl, ⟨?_⟩⟩
        rw [hct.out, if_pos hcb, List.length_append, intsA_append]
        exact ho'
      · have hcb : cntB k hs z = false := by unfold cntB; rw [decide_eq_false hb]
        simp only [↓pre, post, ↓reduceIte, Nat.reduceEqDiff, Nat.reduceAdd, Nat.reduceMul, Nat.reduceSub, Nat.reduceLeDiff, Nat.reduceMod, Nat.reduceDiv, reduceCtorEq, Nat.reduceLT, Nat.reduceGT, Nat.reduceBEq, Option.isSome_some, ne_eq, Int.reduceEq, not_false_eq_true, bin_quo, bin_rem, List.length_cons, List.length_nil, List.map_cons, List.map_nil, List.append_nil, List.cons_append, List.nil_append, List.take_succ_cons, List.take_zero, List.drop_succ_cons, List.drop_zero, Nat.zero_add, Nat.add_zero, Nat.zero_le, Nat.le_refl, decide_true, decide_false, Bool.not_true, Bool.not_false, stepW, opE, intV, parV, boxE, loadE, partE, faddrE, fieldE, checkE, extractE, resultsE, resEs, resE, buildE, fillE, splice, if_true, if_false, Bool.false_eq_true, true_and, and_true, AV.cells, okA, oneA, fzs, fz, opTmp, Option.bind_some, Option.map_some, List.getElem?_cons_zero, List.getElem?_cons_succ, and_self, canonR, canon, canons, shift, shifts, pushAll, pushFrom, tys77, onceA, postU, postA, postV, allocE, storeE, eq_self, put_at, push_at, e2, e8, e20, e21, e22, hlt', hrd.addr', hlt, ht, htl, f1, o1, hcell.len', hb, cond_t, cond_f, w1]
        refine ⟨q - 1, by have := hqi.out; omega, i + 1, lv, by have := hqi.out; omega, rfl, rfl, ⟨?_⟩⟩
        rw [hct.out, if_neg (by rw [hcb]; decide), List.append_nil]
        exact hJ.out.pp _ _
    · have hlt' : ¬ ((i : Nat) : Int) < ((T.length : Nat) : Int) := by omega
      have hiT : i = T.length := by have := hqi.out; omega
      have htk : T.take i = T := by rw [hiT, List.take_length]
      rw [htk] at hJ
      have hcan := own_canon (P := Try.prog) (by kernel_rfl) hJ.out
      simp only [↓pre, post, ↓reduceIte, Nat.reduceEqDiff, Nat.reduceAdd, Nat.reduceMul, Nat.reduceSub, Nat.reduceLeDiff, Nat.reduceMod, Nat.reduceDiv, reduceCtorEq, Nat.reduceLT, Nat.reduceGT, Nat.reduceBEq, Option.isSome_some, ne_eq, Int.reduceEq, not_false_eq_true, bin_quo, bin_rem, List.length_cons, List.length_nil, List.map_cons, List.map_nil, List.append_nil, List.cons_append, List.nil_append, List.take_succ_cons, List.take_zero, List.drop_succ_cons, List.drop_zero, Nat.zero_add, Nat.add_zero, Nat.zero_le, Nat.le_refl, decide_true, decide_false, Bool.not_true, Bool.not_false, stepW, opE, intV, parV, boxE, loadE, partE, faddrE, fieldE, checkE, extractE, resultsE, resEs, resE, buildE, fillE, splice, if_true, if_false, Bool.false_eq_true, true_and, and_true, AV.cells, okA, oneA, fzs, fz, opTmp, Option.bind_some, Option.map_some, List.getElem?_cons_zero, List.getElem?_cons_succ, and_self, canonR, canon, canons, shift, shifts, pushAll, pushFrom, tys77, onceA, postU, e2, e8, e20, e21, e22, hlt', cond_f, hcan]
      rw [← hres.out]
      rfl
  · have hT : talT k r c w ps = [] := by unfold talT; rw [if_neg hc]
    rw [hT] at hh ⊢
    have hn : treeR ([] : List Int).length (tCells (heldsP k r c w ps) []) = nilS := rfl
    rw [hn] at hh
    generalize chkI k r c w ps = ck at *
    refine fspec_of_body follows Try.func77 (by unfold Try.f77; rfl) (by unfold Try.f77; simp) onceA (by unfold Try.f77; simp) (by kernel_rfl) ?_; unfold Try.f77
    simp only [↓pre, post, ↓reduceIte, Nat.reduceEqDiff, Nat.reduceAdd, Nat.reduceMul, Nat.reduceSub, Nat.reduceLeDiff, Nat.reduceMod, Nat.reduceDiv, reduceCtorEq, Nat.reduceLT, Nat.reduceGT, Nat.reduceBEq, Option.isSome_some, ne_eq, Int.reduceEq, not_false_eq_true, bin_quo, bin_rem, List.length_cons, List.length_nil, List.map_cons, List.map_nil, List.append_nil, List.cons_append, List.nil_append, List.take_succ_cons, List.take_zero, List.drop_succ_cons, List.drop_zero, Nat.zero_add, Nat.add_zero, Nat.zero_le, Nat.le_refl, decide_true, decide_false, Bool.not_true, Bool.not_false, stepW, opE, intV, parV, boxE, loadE, partE, faddrE, fieldE, checkE, extractE, resultsE, resEs, resE, buildE, fillE, splice, if_true, if_false, Bool.false_eq_true, true_and, and_true, AV.cells, okA, oneA, fzs, fz, opTmp, Option.bind_some, Option.map_some, List.getElem?_cons_zero, List.getElem?_cons_succ, and_self, canonR, canon, canons, shift, shifts, pushAll, pushFrom, tys77, onceA, postU]
    (first | refine call_plain (hh) (by first | rfl | simp only [plains, plain, plain_treeR, Bool.and_true, Bool.and_self, *]) ?_ | refine call_pure (hh) (by first | rfl | simp only [plains, plain, plain_treeR, Bool.and_true, Bool.and_self, *]) (by intro k; first | rfl | simp only [shift, shifts, intV, boolV, *]) ?_); simp only [↓pre, post, ↓reduceIte, Nat.reduceEqDiff, Nat.reduceAdd, Nat.reduceMul, Nat.reduceSub, Nat.reduceLeDiff, Nat.reduceMod, Nat.reduceDiv, reduceCtorEq, Nat.reduceLT, Nat.reduceGT, Nat.reduceBEq, Option.isSome_some, ne_eq, Int.reduceEq, not_false_eq_true, bin_quo, bin_rem, List.length_cons, List.length_nil, List.map_cons, List.map_nil, List.append_nil, List.cons_append, List.nil_append, List.take_succ_cons, List.take_zero, List.drop_succ_cons, List.drop_zero, Nat.zero_add, Nat.add_zero, Nat.zero_le, Nat.le_refl, decide_true, decide_false, Bool.not_true, Bool.not_false, stepW, opE, intV, parV, boxE, loadE, partE, faddrE, fieldE, checkE, extractE, resultsE, resEs, resE, buildE, fillE, splice, if_true, if_false, Bool.false_eq_true, true_and, and_true, AV.cells, okA, oneA, fzs, fz, opTmp, Option.bind_some, Option.map_some, List.getElem?_cons_zero, List.getElem?_cons_succ, and_self, canonR, canon, canons, shift, shifts, pushAll, pushFrom, tys77, onceA, postU, nilS, hc]
    rfl
theorem census_counting (k r c w : Int) (v : AV) (ps : List PairB) (cells : List AV) (hv : RowV v ps cells) : FSpec Try.prog 77 [parV k r c w, v] ⟨.tup [treeR (cntT k (heldsP k r c w ps) (talT k r c w ps)).length (intsA (cntT k (heldsP k r c w ps) (talT k r c w ps))), intV (chkI k r c w ps)], []⟩ :=
  frozen_ownE (by kernel_rfl) (census_counting_own k r c w v ps cells hv)
end Go.Proofs.Ytenmbfplceeolaa

set_option linter.unusedVariables false
set_option linter.unusedSimpArgs false
set_option maxRecDepth 10000
namespace Go.Proofs.Ytenmbfplceeolaa
open Go Go.Tw Go.Proofs

/-- the versions that could count -/
def cntP (k r c w : Int) (ps : List PairB) : List Int := cntT k (heldsP k r c w ps) (talT k r c w ps)
theorem cntP_bad {k r c w : Int} {ps : List PairB} (h : ¬ chkI k r c w ps = 0) : cntP k r c w ps = [] := by unfold cntP talT; rw [if_neg h]; rfl
def winV (k r c w : Int) (ps : List PairB) : AV := .tup [intV ((cntP k r c w ps).getD 0 0), boolV (decide (1 ≤ (cntP k r c w ps).length)), intV (chkI k r c w ps)]
def runV (k r c w : Int) (ps : List PairB) : AV := .tup [intV ((cntP k r c w ps).getD 1 0), boolV (decide (2 ≤ (cntP k r c w ps).length)), intV (chkI k r c w ps)]
theorem z0 : ((0 : Nat) : Int) = 0 := rfl
theorem int_rd (n : Nat) (l : List Int) : RdSl (treeR n (intsA l)) n (intsA l) := treeR_rd _ _
theorem census_Winner (k r c w : Int) (v : AV) (ps : List PairB) (cells : List AV) (hv : RowV v ps cells) : FSpec Try.prog 39 [parV k r c w, v] ⟨winV k r c w ps, []⟩ := by
  have hp := hv.rd.plain
  have hh := census_counting k r c w v ps cells hv
  have hbad := cntP_bad (k := k) (r := r) (c := c) (w := w) (ps := ps)
  unfold winV
  change FSpec _ _ _ ⟨.tup [treeR (cntP k r c w ps).length (intsA (cntP k r c w ps)), _], []⟩ at hh
  generalize cntP k r c w ps = l at *
  generalize chkI k r c w ps = ck at *
  have hrd := int_rd l.length l
  have hpl := hrd.plain
  by_cases hc : ck = 0
  · subst hc
    cases l with
    | nil =>
      refine fspec_of_body follows Try.func39 (by unfold Try.f39; rfl) (by unfold Try.f39; simp) onceA (by unfold Try.f39; simp) (by kernel_rfl) ?_; unfold Try.f39
      simp only [↓pre, post, ↓reduceIte, Nat.reduceEqDiff, Nat.reduceAdd, Nat.reduceMul, Nat.reduceSub, Nat.reduceLeDiff, Nat.reduceMod, Nat.reduceDiv, reduceCtorEq, Nat.reduceLT, Nat.reduceGT, Nat.reduceBEq, Option.isSome_some, ne_eq, Int.reduceEq, not_false_eq_true, bin_quo, bin_rem, List.length_cons, List.length_nil, List.map_cons, List.map_nil, List.append_nil, List.cons_append, List.nil_append, List.take_succ_cons, List.take_zero, List.drop_succ_cons, List.drop_zero, Nat.zero_add, Nat.add_zero, Nat.zero_le, Nat.le_refl, decide_true, decide_false, Bool.not_true, Bool.not_false, stepW, opE, intV, parV, boxE, loadE, partE, faddrE, fieldE, checkE, extractE, resultsE, resEs, resE, buildE, fillE, splice, if_true, if_false, Bool.false_eq_true, true_and, and_true, AV.cells, okA, oneA, fzs, fz, opTmp, Option.bind_some, Option.map_some, List.getElem?_cons_zero, List.getElem?_cons_succ, and_self, canonR, canon, canons, shift, shifts, pushAll, pushFrom, tys39, onceA, postU]
      (first | refine call_plain (hh) (by first | rfl | simp only [plains, plain, plain_treeR, Bool.and_true, Bool.and_self, *]) ?_ | refine call_pure (hh) (by first | rfl | simp only [plains, plain, plain_treeR, Bool.and_true, Bool.and_self, *]) (by intro k; first | rfl | simp only [shift, shifts, intV, boolV, *]) ?_); simp only [↓pre, post, ↓reduceIte, Nat.reduceEqDiff, Nat.reduceAdd, Nat.reduceMul, Nat.reduceSub, Nat.reduceLeDiff, Nat.reduceMod, Nat.reduceDiv, reduceCtorEq, Nat.reduceLT, Nat.reduceGT, Nat.reduceBEq, Option.isSome_some, ne_eq, Int.reduceEq, not_false_eq_true, bin_quo, bin_rem, List.length_cons, List.length_nil, List.map_cons, List.map_nil, List.append_nil, List.cons_append, List.nil_append, List.take_succ_cons, List.take_zero, List.drop_succ_cons, List.drop_zero, Nat.zero_add, Nat.add_zero, Nat.zero_le, Nat.le_refl, decide_true, decide_false, Bool.not_true, Bool.not_false, stepW, opE, intV, parV, boxE, loadE, partE, faddrE, fieldE, checkE, extractE, resultsE, resEs, resE, buildE, fillE, splice, if_true, if_false, Bool.false_eq_true, true_and, and_true, AV.cells, okA, oneA, fzs, fz, opTmp, Option.bind_some, Option.map_some, List.getElem?_cons_zero, List.getElem?_cons_succ, and_self, canonR, canon, canons, shift, shifts, pushAll, pushFrom, tys39, onceA, postU, postFz, z0]
      rfl
    | cons a l =>
      have h1 : ¬ (((a :: l).length : Nat) : Int) = 0 := by simp; omega
      have h2 : 0 < (a :: l).length := by simp
      have h3 : (intsA (a :: l))[0]? = some (.val (.int .i64 a)) := rfl
      generalize hL : a :: l = L at *
      have h4 : decide (1 ≤ L.length) = true := by rw [decide_eq_true_eq]; omega
      have h5 : L.getD 0 0 = a := by rw [← hL]; rfl
      rw [h4, h5]
      replace hL := Hid.mk hL
      refine fspec_of_body follows Try.func39 (by unfold Try.f39; rfl) (by unfold Try.f39; simp) onceA (by unfold Try.f39; simp) (by kernel_rfl) ?_; unfold Try.f39
      simp only [↓pre, post, ↓reduceIte, Nat.reduceEqDiff, Nat.reduceAdd, Nat.reduceMul, Nat.reduceSub, Nat.reduceLeDiff, Nat.reduceMod, Nat.reduceDiv, reduceCtorEq, Nat.reduceLT, Nat.reduceGT, Nat.reduceBEq, Option.isSome_some, ne_eq, Int.reduceEq, not_false_eq_true, bin_quo, bin_rem, List.length_cons, List.length_nil, List.map_cons, List.map_nil, List.append_nil, List.cons_append, List.nil_append, List.take_succ_cons, List.take_zero, List.drop_succ_cons, List.drop_zero, Nat.zero_add, Nat.add_zero, Nat.zero_le, Nat.le_refl, decide_true, decide_false, Bool.not_true, Bool.not_false, stepW, opE, intV, parV, boxE, loadE, partE, faddrE, fieldE, checkE, extractE, resultsE, resEs, resE, buildE, fillE, splice, if_true, if_false, Bool.false_eq_true, true_and, and_true, AV.cells, okA, oneA, fzs, fz, opTmp, Option.bind_some, Option.map_some, List.getElem?_cons_zero, List.getElem?_cons_succ, and_self, canonR, canon, canons, shift, shifts, pushAll, pushFrom, tys39, onceA, postU]
      (first | refine call_plain (hh) (by first | rfl | simp only [plains, plain, plain_treeR, Bool.and_true, Bool.and_self, *]) ?_ | refine call_pure (hh) (by first | rfl | simp only [plains, plain, plain_treeR, Bool.and_true, Bool.and_self, *]) (by intro k; first | rfl | simp only [shift, shifts, intV, boolV, *]) ?_); simp only [↓pre, post, ↓reduceIte, Nat.reduceEqDiff, Nat.reduceAdd, Nat.reduceMul, Nat.reduceSub, Nat.reduceLeDiff, Nat.reduceMod, Nat.reduceDiv, reduceCtorEq, Nat.reduceLT, Nat.reduceGT, Nat.reduceBEq, Option.isSome_some, ne_eq, Int.reduceEq, not_false_eq_true, bin_quo, bin_rem, List.length_cons, List.length_nil, List.map_cons, List.map_nil, List.append_nil, List.cons_append, List.nil_append, List.take_succ_cons, List.take_zero, List.drop_succ_cons, List.drop_zero, Nat.zero_add, Nat.add_zero, Nat.zero_le, Nat.le_refl, decide_true, decide_false, Bool.not_true, Bool.not_false, stepW, opE, intV, parV, boxE, loadE, partE, faddrE, fieldE, checkE, extractE, resultsE, resEs, resE, buildE, fillE, splice, if_true, if_false, Bool.false_eq_true, true_and, and_true, AV.cells, okA, oneA, fzs, fz, opTmp, Option.bind_some, Option.map_some, List.getElem?_cons_zero, List.getElem?_cons_succ, and_self, canonR, canon, canons, shift, shifts, pushAll, pushFrom, tys39, onceA, postU, postFz, hrd.len', hrd.addr', h1, h2, h3, Nat.mul_one]
      rfl
  · have hl : l = [] := hbad hc
    subst hl
    refine fspec_of_body follows Try.func39 (by unfold Try.f39; rfl) (by unfold Try.f39; simp) onceA (by unfold Try.f39; simp) (by kernel_rfl) ?_; unfold Try.f39
    simp only [↓pre, post, ↓reduceIte, Nat.reduceEqDiff, Nat.reduceAdd, Nat.reduceMul, Nat.reduceSub, Nat.reduceLeDiff, Nat.reduceMod, Nat.reduceDiv, reduceCtorEq, Nat.reduceLT, Nat.reduceGT, Nat.reduceBEq, Option.isSome_some, ne_eq, Int.reduceEq, not_false_eq_true, bin_quo, bin_rem, List.length_cons, List.length_nil, List.map_cons, List.map_nil, List.append_nil, List.cons_append, List.nil_append, List.take_succ_cons, List.take_zero, List.drop_succ_cons, List.drop_zero, Nat.zero_add, Nat.add_zero, Nat.zero_le, Nat.le_refl, decide_true, decide_false, Bool.not_true, Bool.not_false, stepW, opE, intV, parV, boxE, loadE, partE, faddrE, fieldE, checkE, extractE, resultsE, resEs, resE, buildE, fillE, splice, if_true, if_false, Bool.false_eq_true, true_and, and_true, AV.cells, okA, oneA, fzs, fz, opTmp, Option.bind_some, Option.map_some, List.getElem?_cons_zero, List.getElem?_cons_succ, and_self, canonR, canon, canons, shift, shifts, pushAll, pushFrom, tys39, onceA, postU]
    (first | refine call_plain (hh) (by first | rfl | simp only [plains, plain, plain_treeR, Bool.and_true, Bool.and_self, *]) ?_ | refine call_pure (hh) (by first | rfl | simp only [plains, plain, plain_treeR, Bool.and_true, Bool.and_self, *]) (by intro k; first | rfl | simp only [shift, shifts, intV, boolV, *]) ?_); simp only [↓pre, post, ↓reduceIte, Nat.reduceEqDiff, Nat.reduceAdd, Nat.reduceMul, Nat.reduceSub, Nat.reduceLeDiff, Nat.reduceMod, Nat.reduceDiv, reduceCtorEq, Nat.reduceLT, Nat.reduceGT, Nat.reduceBEq, Option.isSome_some, ne_eq, Int.reduceEq, not_false_eq_true, bin_quo, bin_rem, List.length_cons, List.length_nil, List.map_cons, List.map_nil, List.append_nil, List.cons_append, List.nil_append, List.take_succ_cons, List.take_zero, List.drop_succ_cons, List.drop_zero, Nat.zero_add, Nat.add_zero, Nat.zero_le, Nat.le_refl, decide_true, decide_false, Bool.not_true, Bool.not_false, stepW, opE, intV, parV, boxE, loadE, partE, faddrE, fieldE, checkE, extractE, resultsE, resEs, resE, buildE, fillE, splice, if_true, if_false, Bool.false_eq_true, true_and, and_true, AV.cells, okA, oneA, fzs, fz, opTmp, Option.bind_some, Option.map_some, List.getElem?_cons_zero, List.getElem?_cons_succ, and_self, canonR, canon, canons, shift, shifts, pushAll, pushFrom, tys39, onceA, postU, postFz, hc]
    rfl
theorem census_Runner (k r c w : Int) (v : AV) (ps : List PairB) (cells : List AV) (hv : RowV v ps cells) : FSpec Try.prog 45 [parV k r c w, v] ⟨runV k r c w ps, []⟩ := by
  have hp := hv.rd.plain
  have hh := census_counting k r c w v ps cells hv
  have hbad := cntP_bad (k := k) (r := r) (c := c) (w := w) (ps := ps)
  unfold runV
  change FSpec _ _ _ ⟨.tup [treeR (cntP k r c w ps).length (intsA (cntP k r c w ps)), _], []⟩ at hh
  generalize cntP k r c w ps = l at *
  generalize chkI k r c w ps = ck at *
  have hrd := int_rd l.length l
  have hpl := hrd.plain
  by_cases hc : ck = 0
  · subst hc
    by_cases h1 : ((l.length : Nat) : Int) < 2
    · have h4 : decide (2 ≤ l.length) = false := by rw [decide_eq_false_iff_not]; omega
      have h5 : l.getD 1 0 = 0 := by rw [List.getD_eq_getElem?_getD, List.getElem?_eq_none (by omega)]; rfl
      rw [h4, h5]
      refine fspec_of_body follows Try.func45 (by unfold Try.f45; rfl) (by unfold Try.f45; simp) onceA (by unfold Try.f45; simp) (by kernel_rfl) ?_; unfold Try.f45
      simp only [↓pre, post, ↓reduceIte, Nat.reduceEqDiff, Nat.reduceAdd, Nat.reduceMul, Nat.reduceSub, Nat.reduceLeDiff, Nat.reduceMod, Nat.reduceDiv, reduceCtorEq, Nat.reduceLT, Nat.reduceGT, Nat.reduceBEq, Option.isSome_some, ne_eq, Int.reduceEq, not_false_eq_true, bin_quo, bin_rem, List.length_cons, List.length_nil, List.map_cons, List.map_nil, List.append_nil, List.cons_append, List.nil_append, List.take_succ_cons, List.take_zero, List.drop_succ_cons, List.drop_zero, Nat.zero_add, Nat.add_zero, Nat.zero_le, Nat.le_refl, decide_true, decide_false, Bool.not_true, Bool.not_false, stepW, opE, intV, parV, boxE, loadE, partE, faddrE, fieldE, checkE, extractE, resultsE, resEs, resE, buildE, fillE, splice, if_true, if_false, Bool.false_eq_true, true_and, and_true, AV.cells, okA, oneA, fzs, fz, opTmp, Option.bind_some, Option.map_some, List.getElem?_cons_zero, List.getElem?_cons_succ, and_self, canonR, canon, canons, shift, shifts, pushAll, pushFrom, tys45, onceA, postU]
      (first | refine call_plain (hh) (by first | rfl | simp only [plains, plain, plain_treeR, Bool.and_true, Bool.and_self, *]) ?_ | refine call_pure (hh) (by first | rfl | simp only [plains, plain, plain_treeR, Bool.and_true, Bool.and_self, *]) (by intro k; first | rfl | simp only [shift, shifts, intV, boolV, *]) ?_); simp only [↓pre, post, ↓reduceIte, Nat.reduceEqDiff, Nat.reduceAdd, Nat.reduceMul, Nat.reduceSub, Nat.reduceLeDiff, Nat.reduceMod, Nat.reduceDiv, reduceCtorEq, Nat.reduceLT, Nat.reduceGT, Nat.reduceBEq, Option.isSome_some, ne_eq, Int.reduceEq, not_false_eq_true, bin_quo, bin_rem, List.length_cons, List.length_nil, List.map_cons, List.map_nil, List.append_nil, List.cons_append, List.nil_append, List.take_succ_cons, List.take_zero, List.drop_succ_cons, List.drop_zero, Nat.zero_add, Nat.add_zero, Nat.zero_le, Nat.le_refl, decide_true, decide_false, Bool.not_true, Bool.not_false, stepW, opE, intV, parV, boxE, loadE, partE, faddrE, fieldE, checkE, extractE, resultsE, resEs, resE, buildE, fillE, splice, if_true, if_false, Bool.false_eq_true, true_and, and_true, AV.cells, okA, oneA, fzs, fz, opTmp, Option.bind_some, Option.map_some, List.getElem?_cons_zero, List.getElem?_cons_succ, and_self, canonR, canon, canons, shift, shifts, pushAll, pushFrom, tys45, onceA, postU, postFz, hrd.len', h1]
      rfl
    · have h2 : 1 < l.length := by omega
      obtain ⟨a, ha⟩ : ∃ a, l[1]? = some a := ⟨_, List.getElem?_eq_getElem h2⟩
      have h3 : (intsA l)[1]? = some (.val (.int .i64 a)) := by have := int_at (x := []) ha; rwa [List.append_nil] at this
      have h4 : decide (2 ≤ l.length) = true := by rw [decide_eq_true_eq]; omega
      have h5 : l.getD 1 0 = a := by rw [List.getD_eq_getElem?_getD, ha]; rfl
      rw [h4, h5]
      replace ha := Hid.mk ha
      refine fspec_of_body follows Try.func45 (by unfold Try.f45; rfl) (by unfold Try.f45; simp) onceA (by unfold Try.f45; simp) (by kernel_rfl) ?_; unfold Try.f45
      simp only [↓pre, post, ↓reduceIte, Nat.reduceEqDiff, Nat.reduceAdd, Nat.reduceMul, Nat.reduceSub, Nat.reduceLeDiff, Nat.reduceMod, Nat.reduceDiv, reduceCtorEq, Nat.reduceLT, Nat.reduceGT, Nat.reduceBEq, Option.isSome_some, ne_eq, Int.reduceEq, not_false_eq_true, bin_quo, bin_rem, List.length_cons, List.length_nil, List.map_cons, List.map_nil, List.append_nil, List.cons_append, List.nil_append, List.take_succ_cons, List.take_zero, List.drop_succ_cons, List.drop_zero, Nat.zero_add, Nat.add_zero, Nat.zero_le, Nat.le_refl, decide_true, decide_false, Bool.not_true, Bool.not_false, stepW, opE, intV, parV, boxE, loadE, partE, faddrE, fieldE, checkE, extractE, resultsE, resEs, resE, buildE, fillE, splice, if_true, if_false, Bool.false_eq_true, true_and, and_true, AV.cells, okA, oneA, fzs, fz, opTmp, Option.bind_some, Option.map_some, List.getElem?_cons_zero, List.getElem?_cons_succ, and_self, canonR, canon, canons, shift, shifts, pushAll, pushFrom, tys45, onceA, postU]
      (first | refine call_plain (hh) (by first | rfl | simp only [plains, plain, plain_treeR, Bool.and_true, Bool.and_self, *]) ?_ | refine call_pure (hh) (by first | rfl | simp only [plains, plain, plain_treeR, Bool.and_true, Bool.and_self, *]) (by intro k; first | rfl | simp only [shift, shifts, intV, boolV, *]) ?_); simp only [↓pre, post, ↓reduceIte, Nat.reduceEqDiff, Nat.reduceAdd, Nat.reduceMul, Nat.reduceSub, Nat.reduceLeDiff, Nat.reduceMod, Nat.reduceDiv, reduceCtorEq, Nat.reduceLT, Nat.reduceGT, Nat.reduceBEq, Option.isSome_some, ne_eq, Int.reduceEq, not_false_eq_true, bin_quo, bin_rem, List.length_cons, List.length_nil, List.map_cons, List.map_nil, List.append_nil, List.cons_append, List.nil_append, List.take_succ_cons, List.take_zero, List.drop_succ_cons, List.drop_zero, Nat.zero_add, Nat.add_zero, Nat.zero_le, Nat.le_refl, decide_true, decide_false, Bool.not_true, Bool.not_false, stepW, opE, intV, parV, boxE, loadE, partE, faddrE, fieldE, checkE, extractE, resultsE, resEs, resE, buildE, fillE, splice, if_true, if_false, Bool.false_eq_true, true_and, and_true, AV.cells, okA, oneA, fzs, fz, opTmp, Option.bind_some, Option.map_some, List.getElem?_cons_zero, List.getElem?_cons_succ, and_self, canonR, canon, canons, shift, shifts, pushAll, pushFrom, tys45, onceA, postU, postFz, hrd.len', hrd.addr', h1, h2, h3, Nat.mul_one]
      rfl
  · have hl : l = [] := hbad hc
    subst hl
    refine fspec_of_body follows Try.func45 (by unfold Try.f45; rfl) (by unfold Try.f45; simp) onceA (by unfold Try.f45; simp) (by kernel_rfl) ?_; unfold Try.f45
    simp only [↓pre, post, ↓reduceIte, Nat.reduceEqDiff, Nat.reduceAdd, Nat.reduceMul, Nat.reduceSub, Nat.reduceLeDiff, Nat.reduceMod, Nat.reduceDiv, reduceCtorEq, Nat.reduceLT, Nat.reduceGT, Nat.reduceBEq, Option.isSome_some, ne_eq, Int.reduceEq, not_false_eq_true, bin_quo, bin_rem, List.length_cons, List.length_nil, List.map_cons, List.map_nil, List.append_nil, List.cons_append, List.nil_append, List.take_succ_cons, List.take_zero, List.drop_succ_cons, List.drop_zero, Nat.zero_add, Nat.add_zero, Nat.zero_le, Nat.le_refl, decide_true, decide_false, Bool.not_true, Bool.not_false, stepW, opE, intV, parV, boxE, loadE, partE, faddrE, fieldE, checkE, extractE, resultsE, resEs, resE, buildE, fillE, splice, if_true, if_false, Bool.false_eq_true, true_and, and_true, AV.cells, okA, oneA, fzs, fz, opTmp, Option.bind_some, Option.map_some, List.getElem?_cons_zero, List.getElem?_cons_succ, and_self, canonR, canon, canons, shift, shifts, pushAll, pushFrom, tys45, onceA, postU]
    (first | refine call_plain (hh) (by first | rfl | simp only [plains, plain, plain_treeR, Bool.and_true, Bool.and_self, *]) ?_ | refine call_pure (hh) (by first | rfl | simp only [plains, plain, plain_treeR, Bool.and_true, Bool.and_self, *]) (by intro k; first | rfl | simp only [shift, shifts, intV, boolV, *]) ?_); simp only [↓pre, post, ↓reduceIte, Nat.reduceEqDiff, Nat.reduceAdd, Nat.reduceMul, Nat.reduceSub, Nat.reduceLeDiff, Nat.reduceMod, Nat.reduceDiv, reduceCtorEq, Nat.reduceLT, Nat.reduceGT, Nat.reduceBEq, Option.isSome_some, ne_eq, Int.reduceEq, not_false_eq_true, bin_quo, bin_rem, List.length_cons, List.length_nil, List.map_cons, List.map_nil, List.append_nil, List.cons_append, List.nil_append, List.take_succ_cons, List.take_zero, List.drop_succ_cons, List.drop_zero, Nat.zero_add, Nat.add_zero, Nat.zero_le, Nat.le_refl, decide_true, decide_false, Bool.not_true, Bool.not_false, stepW, opE, intV, parV, boxE, loadE, partE, faddrE, fieldE, checkE, extractE, resultsE, resEs, resE, buildE, fillE, splice, if_true, if_false, Bool.false_eq_true, true_and, and_true, AV.cells, okA, oneA, fzs, fz, opTmp, Option.bind_some, Option.map_some, List.getElem?_cons_zero, List.getElem?_cons_succ, and_self, canonR, canon, canons, shift, shifts, pushAll, pushFrom, tys45, onceA, postU, postFz, hc]
    rfl
theorem census_Losers_own (k r c w : Int) (v : AV) (ps : List PairB) (cells : List AV) (hv : RowV v ps cells) : FSpec Try.prog 47 [parV k r c w, v] (ownE 3 (losT k (heldsP k r c w ps) (talT k r c w ps)).length (intsA (losT k (heldsP k r c w ps) (talT k r c w ps))) (chkI k r c w ps)) := by
  have hp := hv.rd.plain
  have hh := census_Tallies k r c w v ps cells hv
  by_cases hc : chkI k r c w ps = 0
  · rw [hc] at hh ⊢
    have hTl := talT_len k r c w ps
    generalize talT k r c w ps = T at *
    generalize heldsP k r c w ps = hs at *
    generalize hres : ownE 3 (losT k hs T).length (intsA (losT k hs T)) 0 = res
    have hrd := treeR_rd T.length (tCells hs T)
    replace hres := Hid.mk hres
    replace hTl := Hid.mk hTl
    refine fspec_of_body follows Try.func47 (by unfold Try.f47; rfl) (by unfold Try.f47; simp) onceA (by unfold Try.f47; simp) (by kernel_rfl) ?_; unfold Try.f47
    simp only [↓pre, post, ↓reduceIte, Nat.reduceEqDiff, Nat.reduceAdd, Nat.reduceMul, Nat.reduceSub, Nat.reduceLeDiff, Nat.reduceMod, Nat.reduceDiv, reduceCtorEq, Nat.reduceLT, Nat.reduceGT, Nat.reduceBEq, Option.isSome_some, ne_eq, Int.reduceEq, not_false_eq_true, bin_quo, bin_rem, List.length_cons, List.length_nil, List.map_cons, List.map_nil, List.append_nil, List.cons_append, List.nil_append, List.take_succ_cons, List.take_zero, List.drop_succ_cons, List.drop_zero, Nat.zero_add, Nat.add_zero, Nat.zero_le, Nat.le_refl, decide_true, decide_false, Bool.not_true, Bool.not_false, stepW, opE, intV, parV, boxE, loadE, partE, faddrE, fieldE, checkE, extractE, resultsE, resEs, resE, buildE, fillE, splice, if_true, if_false, Bool.false_eq_true, true_and, and_true, AV.cells, okA, oneA, fzs, fz, opTmp, Option.bind_some, Option.map_some, List.getElem?_cons_zero, List.getElem?_cons_succ, and_self, canonR, canon, canons, shift, shifts, pushAll, pushFrom, tys47, onceA, postU]
    (first | refine call_plain (hh) (by first | rfl | simp only [plains, plain, plain_treeR, Bool.and_true, Bool.and_self, *]) ?_ | refine call_pure (hh) (by first | rfl | simp only [plains, plain, plain_treeR, Bool.and_true, Bool.and_self, *]) (by intro k; first | rfl | simp only [shift, shifts, intV, boolV, *]) ?_); simp only [↓pre, post, ↓reduceIte, Nat.reduceEqDiff, Nat.reduceAdd, Nat.reduceMul, Nat.reduceSub, Nat.reduceLeDiff, Nat.reduceMod, Nat.reduceDiv, reduceCtorEq, Nat.reduceLT, Nat.reduceGT, Nat.reduceBEq, Option.isSome_some, ne_eq, Int.reduceEq, not_false_eq_true, bin_quo, bin_rem, List.length_cons, List.length_nil, List.map_cons, List.map_nil, List.append_nil, List.cons_append, List.nil_append, List.take_succ_cons, List.take_zero, List.drop_succ_cons, List.drop_zero, Nat.zero_add, Nat.add_zero, Nat.zero_le, Nat.le_refl, decide_true, decide_false, Bool.not_true, Bool.not_false, stepW, opE, intV, parV, boxE, loadE, partE, faddrE, fieldE, checkE, extractE, resultsE, resEs, resE, buildE, fillE, splice, if_true, if_false, Bool.false_eq_true, true_and, and_true, AV.cells, okA, oneA, fzs, fz, opTmp, Option.bind_some, Option.map_some, List.getElem?_cons_zero, List.getElem?_cons_succ, and_self, canonR, canon, canons, shift, shifts, pushAll, pushFrom, tys47, onceA, postU, postFz, hrd.len']
    rw [codeW_loop]
    refine loop_intro (fun q e m => ∃ i lv, q + i = T.length ∧ e 2 = .tptr 0 [intV k, intV r, intV c, intV w] ∧ e 8 = lv ∧ e 20 = treeR T.length (tCells hs T) ∧ e 21 = intV (T.length : Nat) ∧ e 22 = intV (i : Nat) ∧ Hid (Own m 3 1 lv i (intsA (T.take i)) ∧ losT k hs T = T.take i ++ losT k hs (T.drop i))) T.length ⟨0, nilS, by omega, rfl, rfl, rfl, rfl, rfl, ⟨own_nil, by simp⟩⟩ ?_
    rintro q e m ⟨i, lv, hqi, e2, e8, e20, e21, e22, hJ⟩
    replace hqi := Hid.mk hqi
    by_cases hlt : i < T.length
    · have hlt' : ((i : Nat) : Int) < ((T.length : Nat) : Int) := by omega
      have w1 := wrap_succ (n := i) (by have := hTl.out; omega)
      obtain ⟨z, hz⟩ : ∃ z, T[i]? = some z := ⟨_, List.getElem?_eq_getElem hlt⟩
      obtain ⟨t1, t2⟩ := tCells_at hs T i z hz
      obtain ⟨ht, htl⟩ := take2 t1 t2
      have hcell : RdSl (tCell hs z) (cellsN hs z hs.length).length (intsA (cellsN hs z hs.length)) := treeR_rd _ _
      have f1 := rd_fz hcell
      have o1 := rd_one hcell
      have htk : T.take (i + 1) = T.take i ++ [z] := by rw [List.take_add_one, hz]; rfl
      have hdr : T.drop i = z :: T.drop (i + 1) := by
        rw [List.drop_eq_getElem_cons hlt]
        have := (List.getElem?_eq_some_iff.1 hz).2
        rw [this]
      replace hz := Hid.mk hz
      replace htk := Hid.mk htk
      replace hdr := Hid.mk hdr
      by_cases hb : k ≤ ((cellsN hs z hs.length).length : Nat)
      · have hcb : cntB k hs z = true := by unfold cntB; rw [decide_eq_true hb]
        have hlos : losT k hs T = T.take i := by
          rw [hJ.out.2, hdr.out]
          unfold losT
          rw [List.takeWhile_cons, hcb]
          simp
        have hil : (T.take i).length = i := by rw [List.length_take]; omega
        have hcan := own_canon (P := Try.prog) (by kernel_rfl) (hJ.out.1.pp ⟨[.val (.int .i64 0), .val (.slice none 0 0)], 69, .hole, true⟩ none)
        simp only [↓pre, post, ↓reduceIte, Nat.reduceEqDiff, Nat.reduceAdd, Nat.reduceMul, Nat.reduceSub, Nat.reduceLeDiff, Nat.reduceMod, Nat.reduceDiv, reduceCtorEq, Nat.reduceLT, Nat.reduceGT, Nat.reduceBEq, Option.isSome_some, ne_eq, Int.reduceEq, not_false_eq_true, bin_quo, bin_rem, List.length_cons, List.length_nil, List.map_cons, List.map_nil, List.append_nil, List.cons_append, List.nil_append, List.take_succ_cons, List.take_zero, List.drop_succ_cons, List.drop_zero, Nat.zero_add, Nat.add_zero, Nat.zero_le, Nat.le_refl, decide_true, decide_false, Bool.not_true, Bool.not_false, stepW, opE, intV, parV, boxE, loadE, partE, faddrE, fieldE, checkE, extractE, resultsE, resEs, resE, buildE, fillE, splice, if_true, if_false, Bool.false_eq_true, true_and, and_true, AV.cells, okA, oneA, fzs, fz, opTmp, Option.bind_some, Option.map_some, List.getElem?_cons_zero, List.getElem?_cons_succ, and_self, canonR, canon, canons, shift, shifts, pushAll, pushFrom, tys47, onceA, postU, postA, postV, allocE, storeE, eq_self, put_at, push_at, e2, e8, e20, e21, e22, hlt', hrd.addr', hlt, ht, htl, f1, o1, hcell.len', hb, cond_t, hcan]
        rw [← hres.out, hlos, hil]
        rfl
      · have hcb : cntB k hs z = false := by unfold cntB; rw [decide_eq_false hb]
        simp only [↓pre, post, ↓reduceIte, Nat.reduceEqDiff, Nat.reduceAdd, Nat.reduceMul, Nat.reduceSub, Nat.reduceLeDiff, Nat.reduceMod, Nat.reduceDiv, reduceCtorEq, Nat.reduceLT, Nat.reduceGT, Nat.reduceBEq, Option.isSome_some, ne_eq, Int.reduceEq, not_false_eq_true, bin_quo, bin_rem, List.length_cons, List.length_nil, List.map_cons, List.map_nil, List.append_nil, List.cons_append, List.nil_append, List.take_succ_cons, List.take_zero, List.drop_succ_cons, List.drop_zero, Nat.zero_add, Nat.add_zero, Nat.zero_le, Nat.le_refl, decide_true, decide_false, Bool.not_true, Bool.not_false, stepW, opE, intV, parV, boxE, loadE, partE, faddrE, fieldE, checkE, extractE, resultsE, resEs, resE, buildE, fillE, splice, if_true, if_false, Bool.false_eq_true, true_and, and_true, AV.cells, okA, oneA, fzs, fz, opTmp, Option.bind_some, Option.map_some, List.getElem?_cons_zero, List.getElem?_cons_succ, and_self, canonR, canon, canons, shift, shifts, pushAll, pushFrom, tys47, onceA, postU, postA, postV, allocE, storeE, eq_self, put_at, push_at, e2, e8, e20, e21, e22, hlt', hrd.addr', hlt, ht, htl, f1, o1, hcell.len', hb, cond_t, cond_f]
        refine app_keep (kd := .flat) (sz := 1) (y := 8) (zl := [.int .i64 0]) (by kernel_rfl) (hJ.out.1.pp _ _) (by kernel_rfl) (by kernel_rfl) (by kernel_rfl) rfl srcT1 (by rfl) (by have := hTl.out; omega) (by have := hTl.out; omega) ?_
        intro lv' m3 ho' hnx' hkeep hbl
        simp only [↓pre, post, ↓reduceIte, Nat.reduceEqDiff, Nat.reduceAdd, Nat.reduceMul, Nat.reduceSub, Nat.reduceLeDiff, Nat.reduceMod, Nat.reduceDiv, reduceCtorEq, Nat.reduceLT, Nat.reduceGT, Nat.reduceBEq, Option.isSome_some, ne_eq, Int.reduceEq, not_false_eq_true, bin_quo, bin_rem, List.length_cons, List.length_nil, List.map_cons, List.map_nil, List.append_nil, List.cons_append, List.nil_append, List.take_succ_cons, List.take_zero, List.drop_succ_cons, List.drop_zero, Nat.zero_add, Nat.add_zero, Nat.zero_le, Nat.le_refl, decide_true, decide_false, Bool.not_true, Bool.not_false, stepW, opE, intV, parV, boxE, loadE, partE, faddrE, fieldE, checkE, extractE, resultsE, resEs, resE, buildE, fillE, splice, if_true, if_false, Bool.false_eq_true, true_and, and_true, AV.cells, okA, oneA, fzs, fz, opTmp, Option.bind_some, Option.map_some, List.getElem?_cons_zero, List.getElem?_cons_succ, and_self, canonR, canon, canons, shift, shifts, pushAll, pushFrom, tys47, onceA, postU, e2, e8, e20, e21, e22, w1]
        refine ⟨q - 1, by have := hqi.out; omega, i + 1, lv', by have := hqi.out; omega, rfl, rfl, ⟨?_, ?_⟩⟩
        · rw [htk.out, intsA_append]
          exact ho'
        · rw [hJ.out.2, hdr.out, htk.out]
          unfold losT
          rw [List.takeWhile_cons, hcb]
          simp
    · have hlt' : ¬ ((i : Nat) : Int) < ((T.length : Nat) : Int) := by omega
      have hiT : i = T.length := by have := hqi.out; omega
      have hlos : losT k hs T = T := by
        rw [hJ.out.2, hiT, List.take_length, List.drop_length]
        unfold losT
        simp
      have hcan := own_canon (P := Try.prog) (by kernel_rfl) hJ.out.1
      simp only [↓pre, post, ↓reduceIte, Nat.reduceEqDiff, Nat.reduceAdd, Nat.reduceMul, Nat.reduceSub, Nat.reduceLeDiff, Nat.reduceMod, Nat.reduceDiv, reduceCtorEq, Nat.reduceLT, Nat.reduceGT, Nat.reduceBEq, Option.isSome_some, ne_eq, Int.reduceEq, not_false_eq_true, bin_quo, bin_rem, List.length_cons, List.length_nil, List.map_cons, List.map_nil, List.append_nil, List.cons_append, List.nil_append, List.take_succ_cons, List.take_zero, List.drop_succ_cons, List.drop_zero, Nat.zero_add, Nat.add_zero, Nat.zero_le, Nat.le_refl, decide_true, decide_false, Bool.not_true, Bool.not_false, stepW, opE, intV, parV, boxE, loadE, partE, faddrE, fieldE, checkE, extractE, resultsE, resEs, resE, buildE, fillE, splice, if_true, if_false, Bool.false_eq_true, true_and, and_true, AV.cells, okA, oneA, fzs, fz, opTmp, Option.bind_some, Option.map_some, List.getElem?_cons_zero, List.getElem?_cons_succ, and_self, canonR, canon, canons, shift, shifts, pushAll, pushFrom, tys47, onceA, postU, e2, e8, e20, e21, e22, hlt', cond_f, hcan]
      rw [← hres.out, hlos, hiT, List.take_length]
      rfl
  · have hT : talT k r c w ps = [] := by unfold talT; rw [if_neg hc]
    rw [hT] at hh ⊢
    have hn : treeR ([] : List Int).length (tCells (heldsP k r c w ps) []) = nilS := rfl
    rw [hn] at hh
    generalize chkI k r c w ps = ck at *
    refine fspec_of_body follows Try.func47 (by unfold Try.f47; rfl) (by unfold Try.f47; simp) onceA (by unfold Try.f47; simp) (by kernel_rfl) ?_; unfold Try.f47
    simp only [↓pre, post, ↓reduceIte, Nat.reduceEqDiff, Nat.reduceAdd, Nat.reduceMul, Nat.reduceSub, Nat.reduceLeDiff, Nat.reduceMod, Nat.reduceDiv, reduceCtorEq, Nat.reduceLT, Nat.reduceGT, Nat.reduceBEq, Option.isSome_some, ne_eq, Int.reduceEq, not_false_eq_true, bin_quo, bin_rem, List.length_cons, List.length_nil, List.map_cons, List.map_nil, List.append_nil, List.cons_append, List.nil_append, List.take_succ_cons, List.take_zero, List.drop_succ_cons, List.drop_zero, Nat.zero_add, Nat.add_zero, Nat.zero_le, Nat.le_refl, decide_true, decide_false, Bool.not_true, Bool.not_false, stepW, opE, intV, parV, boxE, loadE, partE, faddrE, fieldE, checkE, extractE, resultsE, resEs, resE, buildE, fillE, splice, if_true, if_false, Bool.false_eq_true, true_and, and_true, AV.cells, okA, oneA, fzs, fz, opTmp, Option.bind_some, Option.map_some, List.getElem?_cons_zero, List.getElem?_cons_succ, and_self, canonR, canon, canons, shift, shifts, pushAll, pushFrom, tys47, onceA, postU]
    (first | refine call_plain (hh) (by first | rfl | simp only [plains, plain, plain_treeR, Bool.and_true, Bool.and_self, *]) ?_ | refine call_pure (hh) (by first | rfl | simp only [plains, plain, plain_treeR, Bool.and_true, Bool.and_self, *]) (by intro k; first | rfl | simp only [shift, shifts, intV, boolV, *]) ?_); simp only [↓pre, post, ↓reduceIte, Nat.reduceEqDiff, Nat.reduceAdd, Nat.reduceMul, Nat.reduceSub, Nat.reduceLeDiff, Nat.reduceMod, Nat.reduceDiv, reduceCtorEq, Nat.reduceLT, Nat.reduceGT, Nat.reduceBEq, Option.isSome_some, ne_eq, Int.reduceEq, not_false_eq_true, bin_quo, bin_rem, List.length_cons, List.length_nil, List.map_cons, List.map_nil, List.append_nil, List.cons_append, List.nil_append, List.take_succ_cons, List.take_zero, List.drop_succ_cons, List.drop_zero, Nat.zero_add, Nat.add_zero, Nat.zero_le, Nat.le_refl, decide_true, decide_false, Bool.not_true, Bool.not_false, stepW, opE, intV, parV, boxE, loadE, partE, faddrE, fieldE, checkE, extractE, resultsE, resEs, resE, buildE, fillE, splice, if_true, if_false, Bool.false_eq_true, true_and, and_true, AV.cells, okA, oneA, fzs, fz, opTmp, Option.bind_some, Option.map_some, List.getElem?_cons_zero, List.getElem?_cons_succ, and_self, canonR, canon, canons, shift, shifts, pushAll, pushFrom, tys47, onceA, postU, nilS, hc]
    rfl
theorem census_Losers (k r c w : Int) (v : AV) (ps : List PairB) (cells : List AV) (hv : RowV v ps cells) : FSpec Try.prog 47 [parV k r c w, v] ⟨.tup [treeR (losT k (heldsP k r c w ps) (talT k r c w ps)).length (intsA (losT k (heldsP k r c w ps) (talT k r c w ps))), intV (chkI k r c w ps)], []⟩ :=
  frozen_ownE (by kernel_rfl) (census_Losers_own k r c w v ps cells hv)
end Go.Proofs.Ytenmbfplceeolaa

/- Who counts: plain laws. -/
set_option linter.unusedVariables false
set_option linter.unusedSimpArgs false
set_option maxRecDepth 10000
namespace Go.Proofs.Ytenmbfplceeolaa
open Go Go.Tw Go.Proofs

section
variable {k : Int} {hs : List (Int × Int)} {T : List Int}
theorem cnt_pw (hp : T.Pairwise (· > ·)) : (cntT k hs T).Pairwise (· > ·) := hp.filter _
theorem cnt_mem {v : Int} : v ∈ cntT k hs T ↔ v ∈ T ∧ cntB k hs v = true := List.mem_filter
theorem cnt_zero {v : Int} (hp : T.Pairwise (· > ·)) (h1 : ∀ v ∈ T, 1 ≤ v) (hv : v ∈ T) (hc : cntB k hs v = true) : v ≤ (cntT k hs T).getD 0 0 := by
  have hm := cnt_mem.2 ⟨hv, hc⟩
  cases hl : cntT k hs T with
  | nil => rw [hl] at hm; cases hm
  | cons a l =>
    have hpw := cnt_pw (k := k) (hs := hs) hp
    rw [hl] at hm hpw
    rw [List.pairwise_cons] at hpw
    rcases List.mem_cons.1 hm with rfl | hm
    · exact Int.le_refl _
    · have := hpw.1 v hm
      show v ≤ a
      omega
theorem cnt_head {v : Int} (h1 : ∀ v ∈ T, 1 ≤ v) (hv : v ∈ T) (he : v = (cntT k hs T).getD 0 0) : cntB k hs v = true := by
  cases hl : cntT k hs T with
  | nil =>
    rw [hl] at he
    have := h1 v hv
    simp at he
    omega
  | cons a l =>
    rw [hl] at he
    have he : v = a := he
    subst he
    exact (cnt_mem.1 (by rw [hl]; simp)).2
theorem cnt_one {v : Int} (hp : T.Pairwise (· > ·)) (hv : v ∈ T) (hc : cntB k hs v = true) (hlt : v < (cntT k hs T).getD 0 0) : v ≤ (cntT k hs T).getD 1 0 := by
  have hm := cnt_mem.2 ⟨hv, hc⟩
  cases hl : cntT k hs T with
  | nil => rw [hl] at hm; cases hm
  | cons a l =>
    have hpw := cnt_pw (k := k) (hs := hs) hp
    rw [hl] at hm hpw hlt
    rw [List.pairwise_cons] at hpw
    have hlt : v < a := hlt
    rcases List.mem_cons.1 hm with rfl | hm
    · omega
    · cases l with
      | nil => cases hm
      | cons b l =>
        show v ≤ b
        rcases List.mem_cons.1 hm with rfl | hm
        · exact Int.le_refl _
        · have := (List.pairwise_cons.1 hpw.2).1 v hm
          omega
theorem cnt_next {v : Int} (h1 : ∀ v ∈ T, 1 ≤ v) (hv : v ∈ T) (he : v = (cntT k hs T).getD 1 0) : cntB k hs v = true := by
  cases hl : cntT k hs T with
  | nil =>
    rw [hl] at he
    have := h1 v hv
    simp at he
    omega
  | cons a l =>
    cases l with
    | nil =>
      rw [hl] at he
      have := h1 v hv
      simp at he
      omega
    | cons b l =>
      rw [hl] at he
      have he : v = b := he
      subst he
      exact (cnt_mem.1 (by rw [hl]; simp)).2
theorem takeWhile_at {α : Type} (p : α → Bool) : ∀ (l : List α) (i : Nat) (v : α), l[i]? = some v → (i < (l.takeWhile p).length → (l.takeWhile p)[i]? = some v ∧ p v = true) ∧ (i = (l.takeWhile p).length → p v = false)
  | [], i, v, h => by simp at h
  | a :: l, i, v, h => by
    rw [List.takeWhile_cons]
    cases hp : p a with
    | false =>
      simp only [Bool.false_eq_true, if_false, List.length_nil, Nat.not_lt_zero, false_implies, true_and]
      rintro rfl
      simp at h
      subst h
      exact hp
    | true =>
      simp only [if_true, List.length_cons]
      cases i with
      | zero =>
        simp at h
        subst h
        exact ⟨fun _ => ⟨rfl, hp⟩, fun h => by omega⟩
      | succ i =>
        have ih := takeWhile_at p l i v (by simpa using h)
        exact ⟨fun h => by have := ih.1 (by omega); exact ⟨by simpa using this.1, this.2⟩, fun h => ih.2 (by omega)⟩
theorem los_lt {i : Nat} {v : Int} (hp : T.Pairwise (· > ·)) (h1 : ∀ v ∈ T, 1 ≤ v) (hv : T[i]? = some v) (hi : i < (losT k hs T).length) : (cntT k hs T).getD 0 0 < v ∧ cntB k hs v = false ∧ (losT k hs T)[i]? = some v := by
  have ht := (takeWhile_at (fun v => !cntB k hs v) T i v hv).1 hi
  have hcb : cntB k hs v = false := by simpa using ht.2
  refine ⟨?_, hcb, ht.1⟩
  cases hl : cntT k hs T with
  | nil => have := h1 v (List.mem_of_getElem? hv); simp; omega
  | cons a l =>
    show a < v
    have ha := cnt_mem.1 (show a ∈ cntT k hs T by rw [hl]; simp)
    obtain ⟨j, hj⟩ := List.getElem?_of_mem ha.1
    have hij : i < j := by
      by_cases h : i < j
      · exact h
      · exfalso
        have h2 : j < (losT k hs T).length := by omega
        have := ((takeWhile_at (fun v => !cntB k hs v) T j a hj).1 h2).2
        rw [ha.2] at this
        cases this
    obtain ⟨il, iv⟩ := List.getElem?_eq_some_iff.1 hv
    obtain ⟨jl, jv⟩ := List.getElem?_eq_some_iff.1 hj
    have := List.pairwise_iff_getElem.1 hp i j il jl hij
    rw [iv, jv] at this
    exact this
theorem los_ge {i : Nat} {v : Int} (hp : T.Pairwise (· > ·)) (h1 : ∀ v ∈ T, 1 ≤ v) (hv : T[i]? = some v) (hi : (losT k hs T).length ≤ i) : v ≤ (cntT k hs T).getD 0 0 := by
  obtain ⟨il, iv⟩ := List.getElem?_eq_some_iff.1 hv
  have hfl : (losT k hs T).length < T.length := by omega
  have hf : T[(losT k hs T).length]? = some (T[(losT k hs T).length]) := List.getElem?_eq_getElem hfl
  have hc := (takeWhile_at (fun v => !cntB k hs v) T _ _ hf).2 rfl
  have hcb : cntB k hs T[(losT k hs T).length] = true := by simpa using hc
  have := cnt_zero hp h1 (List.mem_of_getElem? hf) hcb
  by_cases he : (losT k hs T).length = i
  · have : v = T[(losT k hs T).length] := by
      rw [← iv]
      simp only [he]
    omega
  · have := List.pairwise_iff_getElem.1 hp (losT k hs T).length i hfl il (by omega)
    rw [iv] at this
    omega
end
/-- drives that hold a version and those that miss it are all drives -/
theorem cells_miss (hs : List (Int × Int)) (v : Int) : ∀ n, (missN hs v n).length + (cellsN hs v n).length = n
  | 0 => rfl
  | n + 1 => by
    have ih := cells_miss hs v n
    rw [missN_succ, cellsN_succ]
    cases h : holdsAt hs n v <;> simp <;> omega
theorem cells_mem {hs : List (Int × Int)} {v : Int} {n : Nat} {x : Int} : x ∈ cellsN hs v n ↔ ∃ i : Nat, i < n ∧ x = (i : Int) ∧ holdsAt hs i v = true := by
  unfold cellsN
  rw [List.mem_filterMap]
  constructor
  · rintro ⟨i, hi, h⟩
    split at h
    · rename_i hh; cases h; exact ⟨i, by simpa using hi, rfl, hh⟩
    · cases h
  · rintro ⟨i, hi, rfl, hh⟩
    exact ⟨i, by simpa using hi, by rw [if_pos hh]⟩
theorem miss_mem {hs : List (Int × Int)} {v : Int} {n : Nat} {x : Int} : x ∈ missN hs v n ↔ ∃ i : Nat, i < n ∧ x = (i : Int) ∧ holdsAt hs i v = false := by
  unfold missN
  rw [List.mem_filterMap]
  constructor
  · rintro ⟨i, hi, h⟩
    split at h
    · cases h
    · rename_i hh; cases h; exact ⟨i, by simpa using hi, rfl, by simpa using hh⟩
  · rintro ⟨i, hi, rfl, hh⟩
    exact ⟨i, by simpa using hi, by rw [if_neg (by rw [hh]; decide)]⟩
theorem cells_pw (hs : List (Int × Int)) (v : Int) : ∀ n, (cellsN hs v n).Pairwise (· < ·)
  | 0 => .nil
  | n + 1 => by
    rw [cellsN_succ, List.pairwise_append]
    refine ⟨cells_pw hs v n, by split <;> simp, fun a ha b hb => ?_⟩
    obtain ⟨i, hi, rfl, _⟩ := cells_mem.1 ha
    split at hb
    · simp at hb; omega
    · cases hb
/-- each drive is told at most twice -/
def sumC (hs : List (Int × Int)) (n : Nat) : List Int → Nat
  | [] => 0
  | v :: T => (cellsN hs v n).length + sumC hs n T
theorem sumC_succ (hs : List (Int × Int)) (n : Nat) : ∀ T : List Int, sumC hs (n + 1) T = sumC hs n T + (T.filter (fun v => holdsAt hs n v)).length
  | [] => rfl
  | v :: T => by
    have ih := sumC_succ hs n T
    unfold sumC
    rw [cellsN_succ, ih]
    cases h : holdsAt hs n v <;> simp [h] <;> omega
theorem two_at {p q : Int} : ∀ {T : List Int}, T.Nodup → (T.filter fun v => decide (p = v) || decide (q = v)).length ≤ 2
  | [], _ => by simp
  | v :: T, h => by
    rw [List.nodup_cons] at h
    have one : ∀ (a : Int) (L : List Int), L.Nodup → (L.filter fun v => decide (a = v)).length ≤ 1 := by
      intro a L
      induction L with
      | nil => intro _; simp
      | cons b L ih =>
        intro hL
        rw [List.nodup_cons] at hL
        by_cases hab : a = b
        · subst hab
          have : (L.filter fun v => decide (a = v)) = [] := by
            rw [List.filter_eq_nil_iff]
            intro x hx
            simp
            rintro rfl
            exact hL.1 hx
          simp [this]
        · have := ih hL.2
          simp [hab, this]
    have h1 := two_at (p := p) (q := q) h.2
    by_cases hv : p = v ∨ q = v
    · have h2 : (T.filter fun v => decide (p = v) || decide (q = v)).length ≤ 1 := by
        rcases hv with rfl | rfl
        · have : (T.filter fun v => decide (p = v) || decide (q = v)) = T.filter fun v => decide (q = v) := by
            apply List.filter_congr
            intro x hx
            have : ¬ p = x := by rintro rfl; exact h.1 hx
            simp [this]
          rw [this]
          exact one q T h.2
        · have : (T.filter fun v => decide (p = v) || decide (q = v)) = T.filter fun v => decide (p = v) := by
            apply List.filter_congr
            intro x hx
            have : ¬ q = x := by rintro rfl; exact h.1 hx
            simp [this]
          rw [this]
          exact one p T h.2
      rw [List.filter_cons]
      split <;> simp <;> omega
    · rw [List.filter_cons, if_neg (by simp; omega)]
      exact h1
theorem sumC_le (hs : List (Int × Int)) (T : List Int) (hnd : T.Nodup) : ∀ n, sumC hs n T ≤ 2 * n
  | 0 => by
    have : ∀ L : List Int, sumC hs 0 L = 0 := by
      intro L
      induction L with
      | nil => rfl
      | cons a L ih => unfold sumC; rw [ih]; rfl
    rw [this]
    exact Nat.zero_le _
  | n + 1 => by
    have ih := sumC_le hs T hnd n
    rw [sumC_succ]
    have : (T.filter (fun v => holdsAt hs n v)).length ≤ 2 := by
      cases hx : hs[n]? with
      | none =>
        have : (T.filter (fun v => holdsAt hs n v)) = [] := by
          rw [List.filter_eq_nil_iff]
          intro v _
          unfold holdsAt
          rw [hx]
          simp
        rw [this]; simp
      | some x =>
        have := two_at (p := x.1) (q := x.2) hnd
        have e : (T.filter (fun v => holdsAt hs n v)) = T.filter fun v => decide (x.1 = v) || decide (x.2 = v) := by
          apply List.filter_congr
          intro v _
          unfold holdsAt
          rw [hx]
        rw [e]
        exact this
    omega
theorem sumC_append (hs : List (Int × Int)) (n : Nat) : ∀ (A B : List Int), sumC hs n (A ++ B) = sumC hs n A + sumC hs n B
  | [], B => by simp [sumC]
  | a :: A, B => by
    have := sumC_append hs n A B
    show (cellsN hs a n).length + sumC hs n (A ++ B) = (cellsN hs a n).length + sumC hs n A + sumC hs n B
    omega
end Go.Proofs.Ytenmbfplceeolaa

set_option linter.unusedVariables false
set_option linter.unusedSimpArgs false
set_option maxRecDepth 10000
namespace Go.Proofs.Ytenmbfplceeolaa
open Go Go.Tw Go.Proofs

theorem law14_apart (va vb : AV) (l l' : List Int) (hv : RdSl va l.length (intsA l)) (hv' : RdSl vb l'.length (intsA l')) (hp : l.Pairwise (· < ·)) (hd : ∀ x ∈ l, x ∉ l') (hn : l.length ≤ 1000000) (hn' : l'.length ≤ 1000000) : FSpec Try.prog 53 [va, vb] ⟨boolV true, []⟩ := by
  replace hp := Hid.mk hp
  replace hd := Hid.mk hd
  refine fspec_of_body follows Try.func53 (by unfold Try.f53; rfl) (by unfold Try.f53; simp) onceA (by unfold Try.f53; simp) (by kernel_rfl) ?_; unfold Try.f53
  simp only [↓pre, post, ↓reduceIte, Nat.reduceEqDiff, Nat.reduceAdd, Nat.reduceMul, Nat.reduceSub, Nat.reduceLeDiff, Nat.reduceMod, Nat.reduceDiv, reduceCtorEq, Nat.reduceLT, Nat.reduceGT, Nat.reduceBEq, Option.isSome_some, ne_eq, Int.reduceEq, not_false_eq_true, bin_quo, bin_rem, List.length_cons, List.length_nil, List.map_cons, List.map_nil, List.append_nil, List.cons_append, List.nil_append, List.take_succ_cons, List.take_zero, List.drop_succ_cons, List.drop_zero, Nat.zero_add, Nat.add_zero, Nat.zero_le, Nat.le_refl, decide_true, decide_false, Bool.not_true, Bool.not_false, stepW, opE, intV, parV, boxE, loadE, partE, faddrE, fieldE, checkE, extractE, resultsE, resEs, resE, buildE, fillE, splice, if_true, if_false, Bool.false_eq_true, true_and, and_true, AV.cells, okA, oneA, fzs, fz, opTmp, Option.bind_some, Option.map_some, List.getElem?_cons_zero, List.getElem?_cons_succ, and_self, canonR, canon, canons, shift, shifts, pushAll, pushFrom, tys53, onceA, postU]
  rw [codeW_loop]
  refine loop_intro (fun q e m => ∃ i, q + i = l.length ∧ e 0 = va ∧ e 1 = vb ∧ e 5 = intV (i : Nat)) l.length ⟨0, by omega, rfl, rfl, rfl⟩ ?_
  rintro q e m ⟨i, hqi, e0, e1, e5⟩
  replace hqi := Hid.mk hqi
  by_cases hlt : i < l.length
  · have hlt' : ((i : Nat) : Int) < ((l.length : Nat) : Int) := by omega
    have w1 := wrap_succ (n := i) (by omega)
    obtain ⟨a, ha⟩ : ∃ a, l[i]? = some a := ⟨_, List.getElem?_eq_getElem hlt⟩
    have a1 : (intsA l)[i]? = some (.val (.int .i64 a)) := by have := int_at (x := []) ha; rwa [List.append_nil] at this
    replace ha := Hid.mk ha
    by_cases h0 : (0 : Int) < ((i : Nat) : Int)
    · have hi1 : i - 1 < l.length := by omega
      obtain ⟨p, hp1⟩ : ∃ p, l[i - 1]? = some p := ⟨_, List.getElem?_eq_getElem hi1⟩
      have p1 : (intsA l)[i - 1]? = some (.val (.int .i64 p)) := by have := int_at (x := []) hp1; rwa [List.append_nil] at this
      have hle : ¬ a ≤ p := by
        obtain ⟨il, iv⟩ := List.getElem?_eq_some_iff.1 ha.out
        obtain ⟨jl, jv⟩ := List.getElem?_eq_some_iff.1 hp1
        have := List.pairwise_iff_getElem.1 hp.out (i - 1) i jl il (by omega)
        omega
      have ws : IntKind.i64.wrap (((i : Nat) : Int) - 1) = ((i - 1 : Nat) : Int) := by rw [show ((i : Nat) : Int) - 1 = ((i - 1 : Nat) : Int) by omega]; exact wrap_nat (by omega)
      replace hp1 := Hid.mk hp1
      simp only [↓pre, post, ↓reduceIte, Nat.reduceEqDiff, Nat.reduceAdd, Nat.reduceMul, Nat.reduceSub, Nat.reduceLeDiff, Nat.reduceMod, Nat.reduceDiv, reduceCtorEq, Nat.reduceLT, Nat.reduceGT, Nat.reduceBEq, Option.isSome_some, ne_eq, Int.reduceEq, not_false_eq_true, bin_quo, bin_rem, List.length_cons, List.length_nil, List.map_cons, List.map_nil, List.append_nil, List.cons_append, List.nil_append, List.take_succ_cons, List.take_zero, List.drop_succ_cons, List.drop_zero, Nat.zero_add, Nat.add_zero, Nat.zero_le, Nat.le_refl, decide_true, decide_false, Bool.not_true, Bool.not_false, stepW, opE, intV, parV, boxE, loadE, partE, faddrE, fieldE, checkE, extractE, resultsE, resEs, resE, buildE, fillE, splice, if_true, if_false, Bool.false_eq_true, true_and, and_true, AV.cells, okA, oneA, fzs, fz, opTmp, Option.bind_some, Option.map_some, List.getElem?_cons_zero, List.getElem?_cons_succ, and_self, canonR, canon, canons, shift, shifts, pushAll, pushFrom, tys53, onceA, postU, e0, e1, e5, hv.len', hlt', h0, hv.addr', hlt, hi1, Nat.mul_one, a1, p1, ws, hle, cond_t, cond_f]
      rw [codeW_loop]
      refine loop_intro (fun q e m => ∃ j, q + j = l'.length ∧ e 0 = va ∧ e 1 = vb ∧ e 5 = intV (i : Nat) ∧ e 6 = intV (j : Nat)) l'.length ⟨0, by omega, e0, e1, e5, rfl⟩ ?_
      rintro q2 e m ⟨j, hqj, e0, e1, e5, e6⟩
      replace hqj := Hid.mk hqj
      by_cases hjl : j < l'.length
      · have hjl' : ((j : Nat) : Int) < ((l'.length : Nat) : Int) := by omega
        have w2 := wrap_succ (n := j) (by omega)
        obtain ⟨b, hb⟩ : ∃ b, l'[j]? = some b := ⟨_, List.getElem?_eq_getElem hjl⟩
        have b1 : (intsA l')[j]? = some (.val (.int .i64 b)) := by have := int_at (x := []) hb; rwa [List.append_nil] at this
        have hne : ¬ a = b := fun h => hd.out a (List.mem_of_getElem? ha.out) (by rw [h]; exact List.mem_of_getElem? hb)
        replace hb := Hid.mk hb
        simp only [↓pre, post, ↓reduceIte, Nat.reduceEqDiff, Nat.reduceAdd, Nat.reduceMul, Nat.reduceSub, Nat.reduceLeDiff, Nat.reduceMod, Nat.reduceDiv, reduceCtorEq, Nat.reduceLT, Nat.reduceGT, Nat.reduceBEq, Option.isSome_some, ne_eq, Int.reduceEq, not_false_eq_true, bin_quo, bin_rem, List.length_cons, List.length_nil, List.map_cons, List.map_nil, List.append_nil, List.cons_append, List.nil_append, List.take_succ_cons, List.take_zero, List.drop_succ_cons, List.drop_zero, Nat.zero_add, Nat.add_zero, Nat.zero_le, Nat.le_refl, decide_true, decide_false, Bool.not_true, Bool.not_false, stepW, opE, intV, parV, boxE, loadE, partE, faddrE, fieldE, checkE, extractE, resultsE, resEs, resE, buildE, fillE, splice, if_true, if_false, Bool.false_eq_true, true_and, and_true, AV.cells, okA, oneA, fzs, fz, opTmp, Option.bind_some, Option.map_some, List.getElem?_cons_zero, List.getElem?_cons_succ, and_self, canonR, canon, canons, shift, shifts, pushAll, pushFrom, tys53, onceA, postU, e0, e1, e5, e6, hv.len', hv'.len', hv.addr', hv'.addr', hlt, hjl, hjl', Nat.mul_one, a1, b1, hne, cond_t, cond_f, w2]
        exact ⟨q2 - 1, by have := hqj.out; omega, j + 1, by have := hqj.out; omega, rfl⟩
      · have hjl' : ¬ ((j : Nat) : Int) < ((l'.length : Nat) : Int) := by omega
        simp only [↓pre, post, ↓reduceIte, Nat.reduceEqDiff, Nat.reduceAdd, Nat.reduceMul, Nat.reduceSub, Nat.reduceLeDiff, Nat.reduceMod, Nat.reduceDiv, reduceCtorEq, Nat.reduceLT, Nat.reduceGT, Nat.reduceBEq, Option.isSome_some, ne_eq, Int.reduceEq, not_false_eq_true, bin_quo, bin_rem, List.length_cons, List.length_nil, List.map_cons, List.map_nil, List.append_nil, List.cons_append, List.nil_append, List.take_succ_cons, List.take_zero, List.drop_succ_cons, List.drop_zero, Nat.zero_add, Nat.add_zero, Nat.zero_le, Nat.le_refl, decide_true, decide_false, Bool.not_true, Bool.not_false, stepW, opE, intV, parV, boxE, loadE, partE, faddrE, fieldE, checkE, extractE, resultsE, resEs, resE, buildE, fillE, splice, if_true, if_false, Bool.false_eq_true, true_and, and_true, AV.cells, okA, oneA, fzs, fz, opTmp, Option.bind_some, Option.map_some, List.getElem?_cons_zero, List.getElem?_cons_succ, and_self, canonR, canon, canons, shift, shifts, pushAll, pushFrom, tys53, onceA, postU, e0, e1, e5, e6, hv'.len', hjl', cond_f, w1]
        exact ⟨q - 1, by have := hqi.out; omega, i + 1, by have := hqi.out; omega, rfl⟩
    · simp only [↓pre, post, ↓reduceIte, Nat.reduceEqDiff, Nat.reduceAdd, Nat.reduceMul, Nat.reduceSub, Nat.reduceLeDiff, Nat.reduceMod, Nat.reduceDiv, reduceCtorEq, Nat.reduceLT, Nat.reduceGT, Nat.reduceBEq, Option.isSome_some, ne_eq, Int.reduceEq, not_false_eq_true, bin_quo, bin_rem, List.length_cons, List.length_nil, List.map_cons, List.map_nil, List.append_nil, List.cons_append, List.nil_append, List.take_succ_cons, List.take_zero, List.drop_succ_cons, List.drop_zero, Nat.zero_add, Nat.add_zero, Nat.zero_le, Nat.le_refl, decide_true, decide_false, Bool.not_true, Bool.not_false, stepW, opE, intV, parV, boxE, loadE, partE, faddrE, fieldE, checkE, extractE, resultsE, resEs, resE, buildE, fillE, splice, if_true, if_false, Bool.false_eq_true, true_and, and_true, AV.cells, okA, oneA, fzs, fz, opTmp, Option.bind_some, Option.map_some, List.getElem?_cons_zero, List.getElem?_cons_succ, and_self, canonR, canon, canons, shift, shifts, pushAll, pushFrom, tys53, onceA, postU, e0, e1, e5, hv.len', hlt', h0, cond_t, cond_f]
      rw [codeW_loop]
      refine loop_intro (fun q e m => ∃ j, q + j = l'.length ∧ e 0 = va ∧ e 1 = vb ∧ e 5 = intV (i : Nat) ∧ e 6 = intV (j : Nat)) l'.length ⟨0, by omega, e0, e1, e5, rfl⟩ ?_
      rintro q2 e m ⟨j, hqj, e0, e1, e5, e6⟩
      replace hqj := Hid.mk hqj
      by_cases hjl : j < l'.length
      · have hjl' : ((j : Nat) : Int) < ((l'.length : Nat) : Int) := by omega
        have w2 := wrap_succ (n := j) (by omega)
        obtain ⟨b, hb⟩ : ∃ b, l'[j]? = some b := ⟨_, List.getElem?_eq_getElem hjl⟩
        have b1 : (intsA l')[j]? = some (.val (.int .i64 b)) := by have := int_at (x := []) hb; rwa [List.append_nil] at this
        have hne : ¬ a = b := fun h => hd.out a (List.mem_of_getElem? ha.out) (by rw [h]; exact List.mem_of_getElem? hb)
        replace hb := Hid.mk hb
        simp only [↓pre, post, ↓reduceIte, Nat.reduceEqDiff, Nat.reduceAdd, Nat.reduceMul, Nat.reduceSub, Nat.reduceLeDiff, Nat.reduceMod, Nat.reduceDiv, reduceCtorEq, Nat.reduceLT, Nat.reduceGT, Nat.reduceBEq, Option.isSome_some, ne_eq, Int.reduceEq, not_false_eq_true, bin_quo, bin_rem, List.length_cons, List.length_nil, List.map_cons, List.map_nil, List.append_nil, List.cons_append, List.nil_append, List.take_succ_cons, List.take_zero, List.drop_succ_cons, List.drop_zero, Nat.zero_add, Nat.add_zero, Nat.zero_le, Nat.le_refl, decide_true, decide_false, Bool.not_true, Bool.not_false, stepW, opE, intV, parV, boxE, loadE, partE, faddrE, fieldE, checkE, extractE, resultsE, resEs, resE, buildE, fillE, splice, if_true, if_false, Bool.false_eq_true, true_and, and_true, AV.cells, okA, oneA, fzs, fz, opTmp, Option.bind_some, Option.map_some, List.getElem?_cons_zero, List.getElem?_cons_succ, and_self, canonR, canon, canons, shift, shifts, pushAll, pushFrom, tys53, onceA, postU, e0, e1, e5, e6, hv.len', hv'.len', hv.addr', hv'.addr', hlt, hjl, hjl', Nat.mul_one, a1, b1, hne, cond_t, cond_f, w2]
        exact ⟨q2 - 1, by have := hqj.out; omega, j + 1, by have := hqj.out; omega, rfl⟩
      · have hjl' : ¬ ((j : Nat) : Int) < ((l'.length : Nat) : Int) := by omega
        simp only [↓pre, post, ↓reduceIte, Nat.reduceEqDiff, Nat.reduceAdd, Nat.reduceMul, Nat.reduceSub, Nat.reduceLeDiff, Nat.reduceMod, Nat.reduceDiv, reduceCtorEq, Nat.reduceLT, Nat.reduceGT, Nat.reduceBEq, Option.isSome_some, ne_eq, Int.reduceEq, not_false_eq_true, bin_quo, bin_rem, List.length_cons, List.length_nil, List.map_cons, List.map_nil, List.append_nil, List.cons_append, List.nil_append, List.take_succ_cons, List.take_zero, List.drop_succ_cons, List.drop_zero, Nat.zero_add, Nat.add_zero, Nat.zero_le, Nat.le_refl, decide_true, decide_false, Bool.not_true, Bool.not_false, stepW, opE, intV, parV, boxE, loadE, partE, faddrE, fieldE, checkE, extractE, resultsE, resEs, resE, buildE, fillE, splice, if_true, if_false, Bool.false_eq_true, true_and, and_true, AV.cells, okA, oneA, fzs, fz, opTmp, Option.bind_some, Option.map_some, List.getElem?_cons_zero, List.getElem?_cons_succ, and_self, canonR, canon, canons, shift, shifts, pushAll, pushFrom, tys53, onceA, postU, e0, e1, e5, e6, hv'.len', hjl', cond_f, w1]
        exact ⟨q - 1, by have := hqi.out; omega, i + 1, by have := hqi.out; omega, rfl⟩
  · have hlt' : ¬ ((i : Nat) : Int) < ((l.length : Nat) : Int) := by omega
    simp only [↓pre, post, ↓reduceIte, Nat.reduceEqDiff, Nat.reduceAdd, Nat.reduceMul, Nat.reduceSub, Nat.reduceLeDiff, Nat.reduceMod, Nat.reduceDiv, reduceCtorEq, Nat.reduceLT, Nat.reduceGT, Nat.reduceBEq, Option.isSome_some, ne_eq, Int.reduceEq, not_false_eq_true, bin_quo, bin_rem, List.length_cons, List.length_nil, List.map_cons, List.map_nil, List.append_nil, List.cons_append, List.nil_append, List.take_succ_cons, List.take_zero, List.drop_succ_cons, List.drop_zero, Nat.zero_add, Nat.add_zero, Nat.zero_le, Nat.le_refl, decide_true, decide_false, Bool.not_true, Bool.not_false, stepW, opE, intV, parV, boxE, loadE, partE, faddrE, fieldE, checkE, extractE, resultsE, resEs, resE, buildE, fillE, splice, if_true, if_false, Bool.false_eq_true, true_and, and_true, AV.cells, okA, oneA, fzs, fz, opTmp, Option.bind_some, Option.map_some, List.getElem?_cons_zero, List.getElem?_cons_succ, and_self, canonR, canon, canons, shift, shifts, pushAll, pushFrom, tys53, onceA, postU, e0, e1, e5, hv.len', hlt', cond_f, boolV]
end Go.Proofs.Ytenmbfplceeolaa

set_option linter.unusedVariables false
set_option linter.unusedSimpArgs false
set_option maxRecDepth 10000
namespace Go.Proofs.Ytenmbfplceeolaa
open Go Go.Tw Go.Proofs

def blank3 : List PairB := [([], []), ([], []), ([], [])]
theorem make_pair3 (m : Mem) : makeE Try.prog m 55 3 3 = some ⟨.sl m.next 0 3 3 true, m.push ⟨[nilS, nilS, nilS, nilS, nilS, nilS], 59, .var, true⟩, none⟩ := by
  have h1 : elE Try.prog 55 = some 59 := by kernel_rfl
  have h2 : szE Try.prog 59 = some 2 := by kernel_rfl
  have h3 : byE Try.prog 59 = some 48 := by kernel_rfl
  have h4 : kindT Try.prog 59 = .var := by kernel_rfl
  have h5 : zeroE Try.prog 59 = some [.slice none 0 0, .slice none 0 0] := by kernel_rfl
  simp [makeE, h1, h2, h3, h4, zerosE, h5, outV, List.range_succ, nilS]
theorem nil_rd : RdSl nilS ([] : List UInt8).length (bytesA [] ++ []) := ⟨.inl ⟨rfl, rfl⟩⟩
theorem blank_row : RowV (.tree 3 3 [nilS, nilS, nilS, nilS, nilS, nilS] true) blank3 [nilS, nilS, nilS, nilS, nilS, nilS] := by
  refine ⟨⟨.inr (.inr ⟨3, true, rfl, Nat.le_refl _⟩)⟩, fun i p hp => ?_⟩
  match i, hp with
  | 0, hp => cases hp; exact ⟨nilS, nilS, [], [], rfl, rfl, nil_rd, nil_rd⟩
  | 1, hp => cases hp; exact ⟨nilS, nilS, [], [], rfl, rfl, nil_rd, nil_rd⟩
  | 2, hp => cases hp; exact ⟨nilS, nilS, [], [], rfl, rfl, nil_rd, nil_rd⟩
  | i + 3, hp => simp [blank3] at hp
theorem blank_held (k r c w ix : Int) (hm : mayB k r c w = true) : heldI k r c w [] ix = 0 := by
  have hmn := may_n hm
  have : isSlot k r c w [] = false := by
    unfold isSlot
    rw [decide_eq_false (by unfold sizeI; simp; omega)]
    rfl
  unfold heldI heldB isOf
  rw [this]
  rfl
theorem law14_awake : FSpec Try.prog 38 [] ⟨boolV true, []⟩ := by
  have hm := census_Missing_own 2 1 16 8 5 (.tree 3 3 [nilS, nilS, nilS, nilS, nilS, nilS] true) blank3 _ blank_row
  have hmay : mayB 2 1 16 8 = true := by decide
  have hck : chkI 2 1 16 8 blank3 = 0 := by decide
  have he : missE 2 1 16 8 5 blank3 = 0 := by unfold missE; rw [hck]; decide
  have hb := fun ix => blank_held 2 1 16 8 ix hmay
  have hl : missL 2 1 16 8 5 blank3 = [0, 1, 2] := by
    unfold missL
    rw [he]
    have : heldsP 2 1 16 8 blank3 = [(0, 0), (0, 0), (0, 0)] := by
      simp [heldsP, blank3, hb, List.mapIdx_cons]
    rw [this]
    decide
  rw [hl, he] at hm
  refine fspec_of_body follows Try.func38 (by unfold Try.f38; rfl) (by unfold Try.f38; simp) onceA (by unfold Try.f38; simp) (by kernel_rfl) ?_; unfold Try.f38
  simp only [↓pre, post, ↓reduceIte, Nat.reduceEqDiff, Nat.reduceAdd, Nat.reduceMul, Nat.reduceSub, Nat.reduceLeDiff, Nat.reduceMod, Nat.reduceDiv, reduceCtorEq, Nat.reduceLT, Nat.reduceGT, Nat.reduceBEq, Option.isSome_some, ne_eq, Int.reduceEq, not_false_eq_true, bin_quo, bin_rem, List.length_cons, List.length_nil, List.map_cons, List.map_nil, List.append_nil, List.cons_append, List.nil_append, List.take_succ_cons, List.take_zero, List.drop_succ_cons, List.drop_zero, Nat.zero_add, Nat.add_zero, Nat.zero_le, Nat.le_refl, decide_true, decide_false, Bool.not_true, Bool.not_false, stepW, opE, intV, parV, boxE, loadE, partE, faddrE, fieldE, checkE, extractE, resultsE, resEs, resE, buildE, fillE, splice, if_true, if_false, Bool.false_eq_true, true_and, and_true, AV.cells, okA, oneA, fzs, fz, opTmp, Option.bind_some, Option.map_some, List.getElem?_cons_zero, List.getElem?_cons_succ, and_self, canonR, canon, canons, shift, shifts, pushAll, pushFrom, tys38, onceA, postU, make_pair3]
  have hml : ([0, 1, 2] : List Int).length = 3 := rfl
  have hown : ownE 3 3 (intsA [0, 1, 2]) 0 = ⟨.tup [.sl 0 0 3 3 false, intV 0], [(3, intsA [0, 1, 2])]⟩ := rfl
  rw [hml, hown] at hm
  refine call_lentR hm (by simp [lends, lend, nilS, push_at, parV, intV]) rfl ?_
  have c3 : (((3 : Nat) : Nat) : Int) = 3 := rfl
  have l3 : ∀ b, lenE Try.prog 43 (.sl b 0 3 3 false) = some (.val (.int .i64 ((3 : Nat) : Int))) := fun b => by kernel_rfl
  simp only [↓pre, post, ↓reduceIte, Nat.reduceEqDiff, Nat.reduceAdd, Nat.reduceMul, Nat.reduceSub, Nat.reduceLeDiff, Nat.reduceMod, Nat.reduceDiv, reduceCtorEq, Nat.reduceLT, Nat.reduceGT, Nat.reduceBEq, Option.isSome_some, ne_eq, Int.reduceEq, not_false_eq_true, bin_quo, bin_rem, List.length_cons, List.length_nil, List.map_cons, List.map_nil, List.append_nil, List.cons_append, List.nil_append, List.take_succ_cons, List.take_zero, List.drop_succ_cons, List.drop_zero, Nat.zero_add, Nat.add_zero, Nat.zero_le, Nat.le_refl, decide_true, decide_false, Bool.not_true, Bool.not_false, stepW, opE, intV, parV, boxE, loadE, partE, faddrE, fieldE, checkE, extractE, resultsE, resEs, resE, buildE, fillE, splice, if_true, if_false, Bool.false_eq_true, true_and, and_true, AV.cells, okA, oneA, fzs, fz, opTmp, Option.bind_some, Option.map_some, List.getElem?_cons_zero, List.getElem?_cons_succ, and_self, canonR, canon, canons, shift, shifts, pushAll, pushFrom, tys38, onceA, postU, l3, c3, eq_self, boolV]
end Go.Proofs.Ytenmbfplceeolaa
