import Derived.Test.YtenmbfplceeolaaCmG11
import Derived.Test.YtenmbfplceeolaaCmG10
set_option linter.unusedVariables false
set_option linter.unusedSimpArgs false
set_option maxRecDepth 10000
namespace Go.Proofs.Ytenmbfplceeolaa
open Go Go.Tw Go.Proofs

/-- the last version of a vector that may be; 0: it may not be -/
def lastV (k r : Int) (l : List Int) : Int := if (l.length : Int) = k + r then (if l.any (fun n => !verB n) = true then 0 else lastI l) else 0
theorem ref10_Last (k r c w : Int) (hm : mayB k r c w = true) (v : AV) (l : List Int) (x : List AV) (hv : RdSl v l.length (intsA l ++ x)) (hn : l.length ≤ 1000000000000) : FSpec Try.prog 154 [parV k r c w, v] ⟨intV (lastV k r l), []⟩ := by
  have hp := hv.plain
  refine fspec_of_body follows Try.func154 (by unfold Try.f154; rfl) (by unfold Try.f154; simp) onceA (by unfold Try.f154; simp) (by kernel_rfl) ?_; unfold Try.f154
  simp only [↓pre, post, ↓reduceIte, Nat.reduceEqDiff, Nat.reduceAdd, Nat.reduceMul, Nat.reduceSub, Nat.reduceLeDiff, Nat.reduceMod, Nat.reduceDiv, reduceCtorEq, Nat.reduceLT, Nat.reduceGT, Nat.reduceBEq, Option.isSome_some, ne_eq, Int.reduceEq, not_false_eq_true, bin_quo, bin_rem, List.length_cons, List.length_nil, List.map_cons, List.map_nil, List.append_nil, List.cons_append, List.nil_append, List.take_succ_cons, List.take_zero, List.drop_succ_cons, List.drop_zero, Nat.zero_add, Nat.add_zero, Nat.zero_le, Nat.le_refl, decide_true, decide_false, Bool.not_true, Bool.not_false, stepW, opE, intV, parV, boxE, loadE, partE, faddrE, fieldE, checkE, extractE, resultsE, resEs, resE, buildE, fillE, splice, if_true, if_false, Bool.false_eq_true, true_and, and_true, AV.cells, okA, oneA, fzs, fz, opTmp, Option.bind_some, Option.map_some, List.getElem?_cons_zero, List.getElem?_cons_succ, and_self, canonR, canon, canons, shift, shifts, pushAll, pushFrom, tys154, onceA, postU, hv.len']
  by_cases hl : (l.length : Int) = k + r
  · (first | refine call_plain (ref06_N _ _ _ _ hm) (by first | rfl | simp only [plains, plain, Bool.and_true, Bool.and_self, *]) ?_ | refine call_pure (ref06_N _ _ _ _ hm) (by first | rfl | simp only [plains, plain, Bool.and_true, Bool.and_self, *]) (by intro k; first | rfl | simp only [shift, shifts, intV, boolV, *]) ?_); simp only [↓pre, post, ↓reduceIte, Nat.reduceEqDiff, Nat.reduceAdd, Nat.reduceMul, Nat.reduceSub, Nat.reduceLeDiff, Nat.reduceMod, Nat.reduceDiv, reduceCtorEq, Nat.reduceLT, Nat.reduceGT, Nat.reduceBEq, Option.isSome_some, ne_eq, Int.reduceEq, not_false_eq_true, bin_quo, bin_rem, List.length_cons, List.length_nil, List.map_cons, List.map_nil, List.append_nil, List.cons_append, List.nil_append, List.take_succ_cons, List.take_zero, List.drop_succ_cons, List.drop_zero, Nat.zero_add, Nat.add_zero, Nat.zero_le, Nat.le_refl, decide_true, decide_false, Bool.not_true, Bool.not_false, stepW, opE, intV, parV, boxE, loadE, partE, faddrE, fieldE, checkE, extractE, resultsE, resEs, resE, buildE, fillE, splice, if_true, if_false, Bool.false_eq_true, true_and, and_true, AV.cells, okA, oneA, fzs, fz, opTmp, Option.bind_some, Option.map_some, List.getElem?_cons_zero, List.getElem?_cons_succ, and_self, canonR, canon, canons, shift, shifts, pushAll, pushFrom, tys154, onceA, postU, hv.len', hl, eq_self]
    rw [codeW_loop]
    refine loop_intro (fun n e m => ∃ i, n + i = l.length ∧ e 1 = v ∧ e 6 = intV (i : Nat) ∧ e 5 = intV (lastI (l.take i)) ∧ ∀ (j : Nat) (a : Int), j < i → l[j]? = some a → verB a = true) l.length ⟨0, by omega, ?_⟩ ?_
    · simp [Env.set, entryE, intV, lastI]
    · rintro n e m ⟨i, hi, e1, e6, e5, hpre⟩
      replace hpre := Hid.mk hpre
      by_cases hlt : i < l.length
      · have hlt' : (i : Int) < (l.length : Nat) := by omega
        obtain ⟨a, ha⟩ : ∃ a, l[i]? = some a := ⟨_, List.getElem?_eq_getElem hlt⟩
        have a1 := int_at (x := x) ha
        have a2 := last_take ha
        have w1 := wrap_succ (n := i) (by omega)
        have hc := ref10_Version a
        replace hl := Hid.mk hl
        simp only [↓pre, post, ↓reduceIte, Nat.reduceEqDiff, Nat.reduceAdd, Nat.reduceMul, Nat.reduceSub, Nat.reduceLeDiff, Nat.reduceMod, Nat.reduceDiv, reduceCtorEq, Nat.reduceLT, Nat.reduceGT, Nat.reduceBEq, Option.isSome_some, ne_eq, Int.reduceEq, not_false_eq_true, bin_quo, bin_rem, List.length_cons, List.length_nil, List.map_cons, List.map_nil, List.append_nil, List.cons_append, List.nil_append, List.take_succ_cons, List.take_zero, List.drop_succ_cons, List.drop_zero, Nat.zero_add, Nat.add_zero, Nat.zero_le, Nat.le_refl, decide_true, decide_false, Bool.not_true, Bool.not_false, stepW, opE, intV, parV, boxE, loadE, partE, faddrE, fieldE, checkE, extractE, resultsE, resEs, resE, buildE, fillE, splice, if_true, if_false, Bool.false_eq_true, true_and, and_true, AV.cells, okA, oneA, fzs, fz, opTmp, Option.bind_some, Option.map_some, List.getElem?_cons_zero, List.getElem?_cons_succ, and_self, canonR, canon, canons, shift, shifts, pushAll, pushFrom, tys154, onceA, postU, hv.len', e1, e6, e5, hlt', hv.addr', hlt, Nat.mul_one, a1, w1]
        cases hb : verB a with
        | true =>
          rw [hb] at hc
          (first | refine call_plain (hc) (by first | rfl | simp only [plains, plain, Bool.and_true, Bool.and_self, *]) ?_ | refine call_pure (hc) (by first | rfl | simp only [plains, plain, Bool.and_true, Bool.and_self, *]) (by intro k; first | rfl | simp only [shift, shifts, intV, boolV, *]) ?_); simp only [↓pre, post, ↓reduceIte, Nat.reduceEqDiff, Nat.reduceAdd, Nat.reduceMul, Nat.reduceSub, Nat.reduceLeDiff, Nat.reduceMod, Nat.reduceDiv, reduceCtorEq, Nat.reduceLT, Nat.reduceGT, Nat.reduceBEq, Option.isSome_some, ne_eq, Int.reduceEq, not_false_eq_true, bin_quo, bin_rem, List.length_cons, List.length_nil, List.map_cons, List.map_nil, List.append_nil, List.cons_append, List.nil_append, List.take_succ_cons, List.take_zero, List.drop_succ_cons, List.drop_zero, Nat.zero_add, Nat.add_zero, Nat.zero_le, Nat.le_refl, decide_true, decide_false, Bool.not_true, Bool.not_false, stepW, opE, intV, parV, boxE, loadE, partE, faddrE, fieldE, checkE, extractE, resultsE, resEs, resE, buildE, fillE, splice, if_true, if_false, Bool.false_eq_true, true_and, and_true, AV.cells, okA, oneA, fzs, fz, opTmp, Option.bind_some, Option.map_some, List.getElem?_cons_zero, List.getElem?_cons_succ, and_self, canonR, canon, canons, shift, shifts, pushAll, pushFrom, tys154, onceA, postU, hv.len', e1, e6, e5, hlt', hv.addr', hlt, Nat.mul_one, a1, w1, boolV]
          refine ⟨n - 1, by omega, i + 1, by omega, rfl, by rw [a2], fun j b hj hjb => ?_⟩
          by_cases hji : j = i
          · subst hji
            rw [ha] at hjb
            cases hjb
            exact hb
          · exact hpre.out j b (by omega) hjb
        | false =>
          rw [hb] at hc
          have hx : lastV k r l = 0 := by
            rw [lastV, if_pos hl.out, if_pos]
            exact List.any_eq_true.2 ⟨a, List.mem_of_getElem? ha, by simp [hb]⟩
          (first | refine call_plain (hc) (by first | rfl | simp only [plains, plain, Bool.and_true, Bool.and_self, *]) ?_ | refine call_pure (hc) (by first | rfl | simp only [plains, plain, Bool.and_true, Bool.and_self, *]) (by intro k; first | rfl | simp only [shift, shifts, intV, boolV, *]) ?_); simp only [↓pre, post, ↓reduceIte, Nat.reduceEqDiff, Nat.reduceAdd, Nat.reduceMul, Nat.reduceSub, Nat.reduceLeDiff, Nat.reduceMod, Nat.reduceDiv, reduceCtorEq, Nat.reduceLT, Nat.reduceGT, Nat.reduceBEq, Option.isSome_some, ne_eq, Int.reduceEq, not_false_eq_true, bin_quo, bin_rem, List.length_cons, List.length_nil, List.map_cons, List.map_nil, List.append_nil, List.cons_append, List.nil_append, List.take_succ_cons, List.take_zero, List.drop_succ_cons, List.drop_zero, Nat.zero_add, Nat.add_zero, Nat.zero_le, Nat.le_refl, decide_true, decide_false, Bool.not_true, Bool.not_false, stepW, opE, intV, parV, boxE, loadE, partE, faddrE, fieldE, checkE, extractE, resultsE, resEs, resE, buildE, fillE, splice, if_true, if_false, Bool.false_eq_true, true_and, and_true, AV.cells, okA, oneA, fzs, fz, opTmp, Option.bind_some, Option.map_some, List.getElem?_cons_zero, List.getElem?_cons_succ, and_self, canonR, canon, canons, shift, shifts, pushAll, pushFrom, tys154, onceA, postU, hv.len', e1, e6, e5, boolV, hx]
      · have hlt' : ¬ (i : Int) < (l.length : Nat) := by omega
        have ht : l.take i = l := List.take_of_length_le (by omega)
        rw [ht] at e5
        have hx : lastV k r l = lastI l := by
          rw [lastV, if_pos hl, if_neg]
          intro h
          obtain ⟨a, h1, h2⟩ := List.any_eq_true.1 h
          obtain ⟨j, hj, rfl⟩ := List.getElem_of_mem h1
          rw [hpre.out j _ (by omega) (List.getElem?_eq_getElem hj)] at h2
          cases h2
        replace hl := Hid.mk hl
        simp only [↓pre, post, ↓reduceIte, Nat.reduceEqDiff, Nat.reduceAdd, Nat.reduceMul, Nat.reduceSub, Nat.reduceLeDiff, Nat.reduceMod, Nat.reduceDiv, reduceCtorEq, Nat.reduceLT, Nat.reduceGT, Nat.reduceBEq, Option.isSome_some, ne_eq, Int.reduceEq, not_false_eq_true, bin_quo, bin_rem, List.length_cons, List.length_nil, List.map_cons, List.map_nil, List.append_nil, List.cons_append, List.nil_append, List.take_succ_cons, List.take_zero, List.drop_succ_cons, List.drop_zero, Nat.zero_add, Nat.add_zero, Nat.zero_le, Nat.le_refl, decide_true, decide_false, Bool.not_true, Bool.not_false, stepW, opE, intV, parV, boxE, loadE, partE, faddrE, fieldE, checkE, extractE, resultsE, resEs, resE, buildE, fillE, splice, if_true, if_false, Bool.false_eq_true, true_and, and_true, AV.cells, okA, oneA, fzs, fz, opTmp, Option.bind_some, Option.map_some, List.getElem?_cons_zero, List.getElem?_cons_succ, and_self, canonR, canon, canons, shift, shifts, pushAll, pushFrom, tys154, onceA, postU, hv.len', e1, e6, e5, hlt', decide_false, cond_f, hx]
  · have hx : lastV k r l = 0 := by rw [lastV, if_neg hl]
    (first | refine call_plain (ref06_N _ _ _ _ hm) (by first | rfl | simp only [plains, plain, Bool.and_true, Bool.and_self, *]) ?_ | refine call_pure (ref06_N _ _ _ _ hm) (by first | rfl | simp only [plains, plain, Bool.and_true, Bool.and_self, *]) (by intro k; first | rfl | simp only [shift, shifts, intV, boolV, *]) ?_); simp only [↓pre, post, ↓reduceIte, Nat.reduceEqDiff, Nat.reduceAdd, Nat.reduceMul, Nat.reduceSub, Nat.reduceLeDiff, Nat.reduceMod, Nat.reduceDiv, reduceCtorEq, Nat.reduceLT, Nat.reduceGT, Nat.reduceBEq, Option.isSome_some, ne_eq, Int.reduceEq, not_false_eq_true, bin_quo, bin_rem, List.length_cons, List.length_nil, List.map_cons, List.map_nil, List.append_nil, List.cons_append, List.nil_append, List.take_succ_cons, List.take_zero, List.drop_succ_cons, List.drop_zero, Nat.zero_add, Nat.add_zero, Nat.zero_le, Nat.le_refl, decide_true, decide_false, Bool.not_true, Bool.not_false, stepW, opE, intV, parV, boxE, loadE, partE, faddrE, fieldE, checkE, extractE, resultsE, resEs, resE, buildE, fillE, splice, if_true, if_false, Bool.false_eq_true, true_and, and_true, AV.cells, okA, oneA, fzs, fz, opTmp, Option.bind_some, Option.map_some, List.getElem?_cons_zero, List.getElem?_cons_succ, and_self, canonR, canon, canons, shift, shifts, pushAll, pushFrom, tys154, onceA, postU, hv.len', hl, hx]
end Go.Proofs.Ytenmbfplceeolaa

set_option linter.unusedVariables false
set_option linter.unusedSimpArgs false
set_option maxRecDepth 10000
namespace Go.Proofs.Ytenmbfplceeolaa
open Go Go.Tw Go.Proofs

theorem rd_fz {v : AV} {n : Nat} {cs : List AV} (h : RdSl v n cs) (m : Mem) : fz m v = some (v, m) := by
  rcases h.form with ⟨rfl, _⟩ | ⟨_, _, rfl, _⟩ | ⟨_, _, rfl, _⟩ <;> rfl
theorem rd_one {v : AV} {n : Nat} {cs : List AV} (h : RdSl v n cs) : oneA v = true := by
  rcases h.form with ⟨rfl, _⟩ | ⟨_, _, rfl, _⟩ | ⟨_, _, rfl, _⟩ <;> rfl
def slotV (kd ix ce st : Int) (vv dv : AV) : AV := .agg [.val (.int .u8 kd), intV ix, intV ce, intV st, vv, dv]
/-- may a slot's content be, of what the vector says -/
def mayS (k r c w kd ix ce st : Int) (l : List Int) (dn : Nat) : Bool :=
  decide (vecE k r c w l = 0) && (decide (st = lastI l) && (decide (0 ≤ ix ∧ ix < l.length) && ((decide (kd = 1) || decide (kd = 2)) && (decide (l[ix.toNat]? = some ce) && decide ((dn : Int) = c)))))
theorem slot_may (k r c w kd ix ce st : Int) (vv dv : AV) (l : List Int) (x : List AV) (dn : Nat) (y : List AV) (hv : RdSl vv l.length (intsA l ++ x)) (hd : RdSl dv dn y) (hn : l.length ≤ 1000000000000) : FSpec Try.prog 123 [parV k r c w, slotV kd ix ce st vv dv] ⟨boolV (mayS k r c w kd ix ce st l dn), []⟩ := by
  have hc := vector_Last k r c w vv l x hv hn
  have hp := hv.plain
  have f1 := rd_fz hv
  have f2 := rd_fz hd
  have o1 := rd_one hv
  have o2 := rd_one hd
  refine fspec_of_body follows Try.func123 (by unfold Try.f123; rfl) (by unfold Try.f123; simp) onceA (by unfold Try.f123; simp) (by kernel_rfl) ?_; unfold Try.f123
  unfold slotV
  simp only [↓pre, post, ↓reduceIte, Nat.reduceEqDiff, Nat.reduceAdd, Nat.reduceMul, Nat.reduceSub, Nat.reduceLeDiff, Nat.reduceMod, Nat.reduceDiv, reduceCtorEq, Nat.reduceLT, Nat.reduceGT, Nat.reduceBEq, Option.isSome_some, ne_eq, Int.reduceEq, not_false_eq_true, bin_quo, bin_rem, List.length_cons, List.length_nil, List.map_cons, List.map_nil, List.append_nil, List.cons_append, List.nil_append, List.take_succ_cons, List.take_zero, List.drop_succ_cons, List.drop_zero, Nat.zero_add, Nat.add_zero, Nat.zero_le, Nat.le_refl, decide_true, decide_false, Bool.not_true, Bool.not_false, stepW, opE, intV, parV, boxE, loadE, partE, faddrE, fieldE, checkE, extractE, resultsE, resEs, resE, buildE, fillE, splice, if_true, if_false, Bool.false_eq_true, true_and, and_true, AV.cells, okA, oneA, fzs, fz, opTmp, Option.bind_some, Option.map_some, List.getElem?_cons_zero, List.getElem?_cons_succ, and_self, canonR, canon, canons, shift, shifts, pushAll, pushFrom, tys123, onceA, postU, f1, f2, o1, o2, hv.len', hd.len']
  (first | refine call_plain hc (by simp only [plains, plain, parV, intV, hp, Bool.and_true, Bool.and_self]) ?_ | refine call_pure hc (by simp only [plains, plain, parV, intV, hp, Bool.and_true, Bool.and_self]) (by intro k; first | rfl | simp only [shift, shifts, intV, boolV, *]) ?_)
  by_cases he : vecE k r c w l = 0
  · by_cases hst : st = lastI l
    · subst hst
      by_cases h0 : ix < 0
      · have hx : mayS k r c w kd ix ce (lastI l) l dn = false := by
          have : ¬ (0 ≤ ix ∧ ix < l.length) := by omega
          rw [mayS, decide_eq_false this]; simp
        simp only [↓pre, post, ↓reduceIte, Nat.reduceEqDiff, Nat.reduceAdd, Nat.reduceMul, Nat.reduceSub, Nat.reduceLeDiff, Nat.reduceMod, Nat.reduceDiv, reduceCtorEq, Nat.reduceLT, Nat.reduceGT, Nat.reduceBEq, Option.isSome_some, ne_eq, Int.reduceEq, not_false_eq_true, bin_quo, bin_rem, List.length_cons, List.length_nil, List.map_cons, List.map_nil, List.append_nil, List.cons_append, List.nil_append, List.take_succ_cons, List.take_zero, List.drop_succ_cons, List.drop_zero, Nat.zero_add, Nat.add_zero, Nat.zero_le, Nat.le_refl, decide_true, decide_false, Bool.not_true, Bool.not_false, stepW, opE, intV, parV, boxE, loadE, partE, faddrE, fieldE, checkE, extractE, resultsE, resEs, resE, buildE, fillE, splice, if_true, if_false, Bool.false_eq_true, true_and, and_true, AV.cells, okA, oneA, fzs, fz, opTmp, Option.bind_some, Option.map_some, List.getElem?_cons_zero, List.getElem?_cons_succ, and_self, canonR, canon, canons, shift, shifts, pushAll, pushFrom, tys123, onceA, postU, he, hv.len', h0, hx, boolV, eq_self]
      · obtain ⟨i, rfl⟩ : ∃ i : Nat, ix = (i : Nat) := ⟨ix.toNat, by omega⟩
        by_cases h1 : i < l.length
        · have hlt : ¬ ((l.length : Nat) : Int) ≤ (i : Int) := by omega
          obtain ⟨a, ha⟩ : ∃ a, l[i]? = some a := ⟨_, List.getElem?_eq_getElem h1⟩
          have a1 := int_at (x := x) ha
          have hm : mayS k r c w kd (i : Nat) ce (lastI l) l dn = ((decide (kd = 1) || decide (kd = 2)) && (decide (a = ce) && decide ((dn : Int) = c))) := by
            have : (0 : Int) ≤ (i : Nat) ∧ ((i : Nat) : Int) < (l.length : Nat) := by omega
            rw [mayS, decide_eq_true he, decide_eq_true (rfl : lastI l = lastI l), decide_eq_true this, Int.toNat_natCast, ha]
            simp
          rw [hm]
          replace ha := Hid.mk ha
          replace hm := Hid.mk hm
          simp only [↓pre, post, ↓reduceIte, Nat.reduceEqDiff, Nat.reduceAdd, Nat.reduceMul, Nat.reduceSub, Nat.reduceLeDiff, Nat.reduceMod, Nat.reduceDiv, reduceCtorEq, Nat.reduceLT, Nat.reduceGT, Nat.reduceBEq, Option.isSome_some, ne_eq, Int.reduceEq, not_false_eq_true, bin_quo, bin_rem, List.length_cons, List.length_nil, List.map_cons, List.map_nil, List.append_nil, List.cons_append, List.nil_append, List.take_succ_cons, List.take_zero, List.drop_succ_cons, List.drop_zero, Nat.zero_add, Nat.add_zero, Nat.zero_le, Nat.le_refl, decide_true, decide_false, Bool.not_true, Bool.not_false, stepW, opE, intV, parV, boxE, loadE, partE, faddrE, fieldE, checkE, extractE, resultsE, resEs, resE, buildE, fillE, splice, if_true, if_false, Bool.false_eq_true, true_and, and_true, AV.cells, okA, oneA, fzs, fz, opTmp, Option.bind_some, Option.map_some, List.getElem?_cons_zero, List.getElem?_cons_succ, and_self, canonR, canon, canons, shift, shifts, pushAll, pushFrom, tys123, onceA, postU, he, hv.len', hd.len', hv.addr', h0, hlt, h1, Nat.mul_one, a1, boolV, eq_self]; repeat' ((first | refine guard_dec (fun _ => ?_) (fun _ => ?_) | refine cond_dec (fun _ => ?_) (fun _ => ?_) | refine guard_ndec (fun _ => ?_) (fun _ => ?_) | refine cond_ndec (fun _ => ?_) (fun _ => ?_) | refine guard_split (fun _ => ?_) (fun _ => ?_) | refine cond_split (fun _ => ?_) (fun _ => ?_)) <;> simp only [↓pre, post, ↓reduceIte, Nat.reduceEqDiff, Nat.reduceAdd, Nat.reduceMul, Nat.reduceSub, Nat.reduceLeDiff, Nat.reduceMod, Nat.reduceDiv, reduceCtorEq, Nat.reduceLT, Nat.reduceGT, Nat.reduceBEq, Option.isSome_some, ne_eq, Int.reduceEq, not_false_eq_true, bin_quo, bin_rem, List.length_cons, List.length_nil, List.map_cons, List.map_nil, List.append_nil, List.cons_append, List.nil_append, List.take_succ_cons, List.take_zero, List.drop_succ_cons, List.drop_zero, Nat.zero_add, Nat.add_zero, Nat.zero_le, Nat.le_refl, decide_true, decide_false, Bool.not_true, Bool.not_false, stepW, opE, intV, parV, boxE, loadE, partE, faddrE, fieldE, checkE, extractE, resultsE, resEs, resE, buildE, fillE, splice, if_true, if_false, Bool.false_eq_true, true_and, and_true, AV.cells, okA, oneA, fzs, fz, opTmp, Option.bind_some, Option.map_some, List.getElem?_cons_zero, List.getElem?_cons_succ, and_self, canonR, canon, canons, shift, shifts, pushAll, pushFrom, tys123, onceA, postU, he, hv.len', hd.len', hv.addr', h0, hlt, h1, Nat.mul_one, a1, boolV, eq_self, *])
          all_goals (first | rfl | (refine bool_fin ?_; simp_all; done) | (rename_i hh; have h2 : ¬ a = ce := fun e => hh e.symm; rw [decide_eq_false h2]; simp; done))
        · have hge : ((l.length : Nat) : Int) ≤ (i : Int) := by omega
          have hx : mayS k r c w kd (i : Nat) ce (lastI l) l dn = false := by
            have : ¬ ((0 : Int) ≤ (i : Nat) ∧ ((i : Nat) : Int) < (l.length : Nat)) := by omega
            rw [mayS, decide_eq_false this]; simp
          simp only [↓pre, post, ↓reduceIte, Nat.reduceEqDiff, Nat.reduceAdd, Nat.reduceMul, Nat.reduceSub, Nat.reduceLeDiff, Nat.reduceMod, Nat.reduceDiv, reduceCtorEq, Nat.reduceLT, Nat.reduceGT, Nat.reduceBEq, Option.isSome_some, ne_eq, Int.reduceEq, not_false_eq_true, bin_quo, bin_rem, List.length_cons, List.length_nil, List.map_cons, List.map_nil, List.append_nil, List.cons_append, List.nil_append, List.take_succ_cons, List.take_zero, List.drop_succ_cons, List.drop_zero, Nat.zero_add, Nat.add_zero, Nat.zero_le, Nat.le_refl, decide_true, decide_false, Bool.not_true, Bool.not_false, stepW, opE, intV, parV, boxE, loadE, partE, faddrE, fieldE, checkE, extractE, resultsE, resEs, resE, buildE, fillE, splice, if_true, if_false, Bool.false_eq_true, true_and, and_true, AV.cells, okA, oneA, fzs, fz, opTmp, Option.bind_some, Option.map_some, List.getElem?_cons_zero, List.getElem?_cons_succ, and_self, canonR, canon, canons, shift, shifts, pushAll, pushFrom, tys123, onceA, postU, he, hv.len', h0, hge, hx, boolV, eq_self]
    · have hx : mayS k r c w kd ix ce st l dn = false := by simp [mayS, hst]
      simp only [↓pre, post, ↓reduceIte, Nat.reduceEqDiff, Nat.reduceAdd, Nat.reduceMul, Nat.reduceSub, Nat.reduceLeDiff, Nat.reduceMod, Nat.reduceDiv, reduceCtorEq, Nat.reduceLT, Nat.reduceGT, Nat.reduceBEq, Option.isSome_some, ne_eq, Int.reduceEq, not_false_eq_true, bin_quo, bin_rem, List.length_cons, List.length_nil, List.map_cons, List.map_nil, List.append_nil, List.cons_append, List.nil_append, List.take_succ_cons, List.take_zero, List.drop_succ_cons, List.drop_zero, Nat.zero_add, Nat.add_zero, Nat.zero_le, Nat.le_refl, decide_true, decide_false, Bool.not_true, Bool.not_false, stepW, opE, intV, parV, boxE, loadE, partE, faddrE, fieldE, checkE, extractE, resultsE, resEs, resE, buildE, fillE, splice, if_true, if_false, Bool.false_eq_true, true_and, and_true, AV.cells, okA, oneA, fzs, fz, opTmp, Option.bind_some, Option.map_some, List.getElem?_cons_zero, List.getElem?_cons_succ, and_self, canonR, canon, canons, shift, shifts, pushAll, pushFrom, tys123, onceA, postU, he, hst, hx, boolV, eq_self]
  · have hx : mayS k r c w kd ix ce st l dn = false := by simp [mayS, he]
    simp only [↓pre, post, ↓reduceIte, Nat.reduceEqDiff, Nat.reduceAdd, Nat.reduceMul, Nat.reduceSub, Nat.reduceLeDiff, Nat.reduceMod, Nat.reduceDiv, reduceCtorEq, Nat.reduceLT, Nat.reduceGT, Nat.reduceBEq, Option.isSome_some, ne_eq, Int.reduceEq, not_false_eq_true, bin_quo, bin_rem, List.length_cons, List.length_nil, List.map_cons, List.map_nil, List.append_nil, List.cons_append, List.nil_append, List.take_succ_cons, List.take_zero, List.drop_succ_cons, List.drop_zero, Nat.zero_add, Nat.add_zero, Nat.zero_le, Nat.le_refl, decide_true, decide_false, Bool.not_true, Bool.not_false, stepW, opE, intV, parV, boxE, loadE, partE, faddrE, fieldE, checkE, extractE, resultsE, resEs, resE, buildE, fillE, splice, if_true, if_false, Bool.false_eq_true, true_and, and_true, AV.cells, okA, oneA, fzs, fz, opTmp, Option.bind_some, Option.map_some, List.getElem?_cons_zero, List.getElem?_cons_succ, and_self, canonR, canon, canons, shift, shifts, pushAll, pushFrom, tys123, onceA, postU, he, hx, boolV, eq_self]
end Go.Proofs.Ytenmbfplceeolaa

set_option linter.unusedVariables false
set_option linter.unusedSimpArgs false
set_option maxRecDepth 10000
namespace Go.Proofs.Ytenmbfplceeolaa
open Go Go.Tw Go.Proofs

def bytesA (l : List UInt8) : List AV := l.map byteV
theorem byte_at {bs : List UInt8} {x : List AV} {i : Nat} {a : UInt8} (h : bs[i]? = some a) : (bytesA bs ++ x)[i]? = some (.val (.int .u8 a.toNat)) := by
  have hi := (List.getElem?_eq_some_iff.1 h).1
  rw [List.getElem?_append_left (by simpa [bytesA] using hi)]
  simp [bytesA, h, byteV]
theorem bytesA_drop (bs : List UInt8) (x : List AV) (k : Nat) (hk : k ≤ bs.length) : (bytesA bs ++ x).drop k = bytesA (bs.drop k) ++ x := by
  rw [List.drop_append_of_le_length (by simpa [bytesA] using hk)]
  simp [bytesA, List.map_drop]
theorem rd_cut3 {P : Program} {t : TypeId} {v : AV} {n k : Nat} {cs : List AV} (h : RdSl v n cs) (h1 : ((elE P t).bind (szE P)).isSome = true) (hk : 0 < k) (hkn : k ≤ n) : ∃ v', sliceE P t none (some k) (some k) v = some v' ∧ RdSl v' k cs := by
  obtain ⟨sz, hsz⟩ := Option.isSome_iff_exists.1 h1
  obtain ⟨el, hel, hsz⟩ := Option.bind_eq_some_iff.1 hsz
  rcases h.form with ⟨rfl, h0⟩ | ⟨_, _, rfl, h0⟩ | ⟨c, f, rfl, hc⟩
  · omega
  · omega
  · refine ⟨.tree k k cs true, ?_, ⟨.inr (.inr ⟨k, true, rfl, Nat.le_refl _⟩)⟩⟩
    simp only [sliceE, hel, hsz, cutE, Option.isSome_some, Option.isNone_some, Bool.and_false, Bool.false_eq_true, if_false, Option.bind_some, Option.getD_some, Option.getD_none]
    rw [if_pos (by omega), if_neg (by omega)]
    simp
def beN (l : List UInt8) : Nat := l.foldl (fun n b => n * 256 + b.toNat) 0
theorem be_take {l : List UInt8} {i : Nat} {a : UInt8} (h : l[i]? = some a) : beN (l.take (i + 1)) = beN (l.take i) * 256 + a.toNat := by
  rw [List.take_add_one, h]
  simp [beN]
theorem be_le : ∀ (i : Nat) (l : List UInt8), beN (l.take i) < 256 ^ i
  | 0, l => by simp [beN]
  | i + 1, l => by
    by_cases h : i < l.length
    · have ih := be_le i l
      have hb := be_take (List.getElem?_eq_getElem h)
      have ha := (l[i]).toNat_lt
      rw [hb, Nat.pow_succ]
      omega
    · have ih := be_le i l
      have e : l.take (i + 1) = l.take i := by rw [List.take_of_length_le (by omega), List.take_of_length_le (by omega)]
      rw [e, Nat.pow_succ]
      omega
theorem rd_canon {P : Program} {m : Mem} {v : AV} {n : Nat} {cs : List AV} (h : RdSl v n cs) (d : Nat) (ids : List (Nat × Nat)) (rows : List (TypeId × List AV)) : canon P m d ids rows v = some (v, ids, rows) := by
  rcases h.form with ⟨rfl, _⟩ | ⟨_, _, rfl, _⟩ | ⟨_, _, rfl, _⟩ <;> (try unfold nilS) <;> (cases d <;> (unfold canon; rfl))
theorem slot_take (v : AV) (bs : List UInt8) (x : List AV) (hv : RdSl v bs.length (bytesA bs ++ x)) (h4 : 4 ≤ bs.length) : ∃ v', RdSl v' (bs.drop 4).length (bytesA (bs.drop 4) ++ x) ∧ FSpec Try.prog 122 [v] ⟨.tup [intV (beN (bs.take 4) : Nat), v'], []⟩ := by
  obtain ⟨v1, s1, r1⟩ := rd_cut3 (P := Try.prog) (t := 29) (k := 4) hv (by kernel_rfl) (by decide) h4
  obtain ⟨v2, s2, r2⟩ := hv.slice (P := Try.prog) (t := 29) (sz := 1) (lo := some 4) (hi := none) (by kernel_rfl) (by simpa using h4) (by simp)
  simp only [Option.getD_some, Option.getD_none, Nat.mul_one] at r2
  rw [bytesA_drop bs x 4 h4, ← List.length_drop] at r2
  refine ⟨v2, r2, ?_⟩
  have hp := hv.plain
  refine fspec_of_body follows Try.func122 (by unfold Try.f122; rfl) (by unfold Try.f122; simp) onceA (by unfold Try.f122; simp) (by kernel_rfl) ?_; unfold Try.f122
  have nt4 : natOf (.val (.int .i64 4)) = some 4 := rfl
  simp only [↓pre, post, ↓reduceIte, Nat.reduceEqDiff, Nat.reduceAdd, Nat.reduceMul, Nat.reduceSub, Nat.reduceLeDiff, Nat.reduceMod, Nat.reduceDiv, reduceCtorEq, Nat.reduceLT, Nat.reduceGT, Nat.reduceBEq, Option.isSome_some, ne_eq, Int.reduceEq, not_false_eq_true, bin_quo, bin_rem, List.length_cons, List.length_nil, List.map_cons, List.map_nil, List.append_nil, List.cons_append, List.nil_append, List.take_succ_cons, List.take_zero, List.drop_succ_cons, List.drop_zero, Nat.zero_add, Nat.add_zero, Nat.zero_le, Nat.le_refl, decide_true, decide_false, Bool.not_true, Bool.not_false, stepW, opE, intV, parV, boxE, loadE, partE, faddrE, fieldE, checkE, extractE, resultsE, resEs, resE, buildE, fillE, splice, if_true, if_false, Bool.false_eq_true, true_and, and_true, AV.cells, okA, oneA, fzs, fz, opTmp, Option.bind_some, Option.map_some, List.getElem?_cons_zero, List.getElem?_cons_succ, and_self, canonR, canon, canons, shift, shifts, pushAll, pushFrom, tys122, onceA, postU, postV, postX, hv.slOk, s1, s2, nt4, optNat, Option.map_some, Option.map_none, r1.len']
  rw [codeW_loop]
  refine loop_intro (fun n e m => ∃ i, n + i = 4 ∧ e 0 = v ∧ e 8 = v1 ∧ e 9 = intV 4 ∧ e 10 = intV (i : Nat) ∧ e 4 = intV (beN (bs.take i) : Nat)) 4 ⟨0, by omega, ?_⟩ ?_
  · simp [Env.set, entryE, intV, beN]
  · rintro n e m ⟨i, hi, e0, e8, e9, e10, e4⟩
    by_cases hlt : i < 4
    · have hlt' : (i : Int) < 4 := by omega
      obtain ⟨a, ha⟩ : ∃ a, bs[i]? = some a := ⟨_, List.getElem?_eq_getElem (by omega)⟩
      have a1 := byte_at (x := x) ha
      have a2 := be_take ha
      have hle := be_le i bs
      have ha256 := a.toNat_lt
      have w1 := wrap_succ (n := i) (by omega)
      simp only [↓pre, post, ↓reduceIte, Nat.reduceEqDiff, Nat.reduceAdd, Nat.reduceMul, Nat.reduceSub, Nat.reduceLeDiff, Nat.reduceMod, Nat.reduceDiv, reduceCtorEq, Nat.reduceLT, Nat.reduceGT, Nat.reduceBEq, Option.isSome_some, ne_eq, Int.reduceEq, not_false_eq_true, bin_quo, bin_rem, List.length_cons, List.length_nil, List.map_cons, List.map_nil, List.append_nil, List.cons_append, List.nil_append, List.take_succ_cons, List.take_zero, List.drop_succ_cons, List.drop_zero, Nat.zero_add, Nat.add_zero, Nat.zero_le, Nat.le_refl, decide_true, decide_false, Bool.not_true, Bool.not_false, stepW, opE, intV, parV, boxE, loadE, partE, faddrE, fieldE, checkE, extractE, resultsE, resEs, resE, buildE, fillE, splice, if_true, if_false, Bool.false_eq_true, true_and, and_true, AV.cells, okA, oneA, fzs, fz, opTmp, Option.bind_some, Option.map_some, List.getElem?_cons_zero, List.getElem?_cons_succ, and_self, canonR, canon, canons, shift, shifts, pushAll, pushFrom, tys122, onceA, postU, postV, postX, e0, e8, e9, e10, e4, hlt', r1.addr', hlt, Nat.mul_one, a1, w1]
      have hpow : 256 ^ i ≤ 256 ^ 3 := Nat.pow_le_pow_right (by decide) (by omega)
      have h3 : 256 ^ 3 = 16777216 := by decide
      have w5 : IntKind.i64.wrap (a.toNat : Int) = (a.toNat : Int) := wrap_nat (by omega)
      have w7 : IntKind.i64.wrap (((beN (bs.take i) : Nat) : Int) * 2 ^ min 8 IntKind.i64.bits) = ((beN (bs.take i) * 256 : Nat) : Int) := by
        rw [show (((beN (bs.take i) : Nat) : Int) * 2 ^ min 8 IntKind.i64.bits) = ((beN (bs.take i) * 256 : Nat) : Int) by simp [IntKind.bits]]
        exact wrap_nat (by omega)
      have w8 : borI .i64 ((beN (bs.take i) * 256 : Nat) : Int) (a.toNat : Int) = ((beN (bs.take i) * 256 + a.toNat : Nat) : Int) := by
        rw [borI_i64 (by omega) (by omega), or_add (by omega)]
      exact ⟨n - 1, by omega, i + 1, by omega, rfl, by rw [w7, w5, w8, a2]⟩
    · have hlt' : ¬ (i : Int) < 4 := by omega
      have hi4 : i = 4 := by omega
      subst hi4
      simp only [↓pre, post, ↓reduceIte, Nat.reduceEqDiff, Nat.reduceAdd, Nat.reduceMul, Nat.reduceSub, Nat.reduceLeDiff, Nat.reduceMod, Nat.reduceDiv, reduceCtorEq, Nat.reduceLT, Nat.reduceGT, Nat.reduceBEq, Option.isSome_some, ne_eq, Int.reduceEq, not_false_eq_true, bin_quo, bin_rem, List.length_cons, List.length_nil, List.map_cons, List.map_nil, List.append_nil, List.cons_append, List.nil_append, List.take_succ_cons, List.take_zero, List.drop_succ_cons, List.drop_zero, Nat.zero_add, Nat.add_zero, Nat.zero_le, Nat.le_refl, decide_true, decide_false, Bool.not_true, Bool.not_false, stepW, opE, intV, parV, boxE, loadE, partE, faddrE, fieldE, checkE, extractE, resultsE, resEs, resE, buildE, fillE, splice, if_true, if_false, Bool.false_eq_true, true_and, and_true, AV.cells, okA, oneA, fzs, fz, opTmp, Option.bind_some, Option.map_some, List.getElem?_cons_zero, List.getElem?_cons_succ, and_self, canonR, canon, canons, shift, shifts, pushAll, pushFrom, tys122, onceA, postU, postV, postX, e0, e8, e9, e10, e4, hlt', decide_false, cond_f, hv.slOk, s2, nt4, optNat, Option.map_some, Option.map_none, rd_canon r2]
end Go.Proofs.Ytenmbfplceeolaa

set_option linter.unusedVariables false
set_option linter.unusedSimpArgs false
set_option maxRecDepth 10000
namespace Go.Proofs.Ytenmbfplceeolaa
open Go Go.Tw Go.Proofs

theorem be_four {l : List UInt8} {i : Nat} {a b c d : UInt8} (h0 : l[i]? = some a) (h1 : l[i + 1]? = some b) (h2 : l[i + 2]? = some c) (h3 : l[i + 3]? = some d) : beN ((l.drop i).take 4) = ((a.toNat * 256 + b.toNat) * 256 + c.toNat) * 256 + d.toNat := by
  have e : (l.drop i).take 4 = [a, b, c, d] := by
    apply List.ext_getElem?
    intro j
    rw [List.getElem?_take]
    match j with
    | 0 => simpa using h0
    | 1 => simpa using h1
    | 2 => simpa using h2
    | 3 => simpa using h3
    | j + 4 => simp; omega
  rw [e]
  simp [beN]
theorem ref10_number (v : AV) (bs : List UInt8) (x : List AV) (i : Nat) (hv : RdSl v bs.length (bytesA bs ++ x)) (hi : i + 4 ≤ bs.length) (hn : bs.length ≤ 1000000000000) : FSpec Try.prog 150 [v, intV (i : Nat)] ⟨intV (beN ((bs.drop i).take 4) : Nat), []⟩ := by
  obtain ⟨a, ha⟩ : ∃ a, bs[i]? = some a := ⟨_, List.getElem?_eq_getElem (by omega)⟩
  obtain ⟨b, hb⟩ : ∃ a, bs[i + 1]? = some a := ⟨_, List.getElem?_eq_getElem (by omega)⟩
  obtain ⟨c, hc⟩ : ∃ a, bs[i + 2]? = some a := ⟨_, List.getElem?_eq_getElem (by omega)⟩
  obtain ⟨d, hd⟩ : ∃ a, bs[i + 3]? = some a := ⟨_, List.getElem?_eq_getElem (by omega)⟩
  rw [be_four ha hb hc hd]
  have a0 := byte_at (x := x) ha
  have a1 := byte_at (x := x) hb
  have a2 := byte_at (x := x) hc
  have a3 := byte_at (x := x) hd
  have l0 : i < bs.length := by omega
  have l1 : i + 1 < bs.length := by omega
  have l2 : i + 2 < bs.length := by omega
  have l3 : i + 3 < bs.length := by omega
  have u0 := a.toNat_lt
  have u1 := b.toNat_lt
  have u2 := c.toNat_lt
  have u3 := d.toNat_lt
  have w0 : IntKind.i64.wrap ((i : Int) + 1) = ((i + 1 : Nat) : Int) := wrap_nat (n := i + 1) (by omega)
  have w1 : IntKind.i64.wrap ((i : Int) + 2) = ((i + 2 : Nat) : Int) := wrap_nat (n := i + 2) (by omega)
  have w2 : IntKind.i64.wrap ((i : Int) + 3) = ((i + 3 : Nat) : Int) := wrap_nat (n := i + 3) (by omega)
  have b0 : ∀ q : UInt8, IntKind.i64.wrap (q.toNat : Int) = (q.toNat : Int) := fun q => wrap_nat (by have := q.toNat_lt; omega)
  have m0 : IntKind.i64.wrap ((a.toNat : Int) * 256) = ((a.toNat * 256 : Nat) : Int) := wrap_nat (n := a.toNat * 256) (by omega)
  have s0 : IntKind.i64.wrap (((a.toNat * 256 : Nat) : Int) + (b.toNat : Int)) = ((a.toNat * 256 + b.toNat : Nat) : Int) := wrap_nat (n := a.toNat * 256 + b.toNat) (by omega)
  have m1 : IntKind.i64.wrap (((a.toNat * 256 + b.toNat : Nat) : Int) * 256) = (((a.toNat * 256 + b.toNat) * 256 : Nat) : Int) := wrap_nat (n := (a.toNat * 256 + b.toNat) * 256) (by omega)
  have s1 : IntKind.i64.wrap ((((a.toNat * 256 + b.toNat) * 256 : Nat) : Int) + (c.toNat : Int)) = (((a.toNat * 256 + b.toNat) * 256 + c.toNat : Nat) : Int) := wrap_nat (n := (a.toNat * 256 + b.toNat) * 256 + c.toNat) (by omega)
  have m2 : IntKind.i64.wrap ((((a.toNat * 256 + b.toNat) * 256 + c.toNat : Nat) : Int) * 256) = ((((a.toNat * 256 + b.toNat) * 256 + c.toNat) * 256 : Nat) : Int) := wrap_nat (n := ((a.toNat * 256 + b.toNat) * 256 + c.toNat) * 256) (by omega)
  have s2 : IntKind.i64.wrap (((((a.toNat * 256 + b.toNat) * 256 + c.toNat) * 256 : Nat) : Int) + (d.toNat : Int)) = ((((a.toNat * 256 + b.toNat) * 256 + c.toNat) * 256 + d.toNat : Nat) : Int) := wrap_nat (n := ((a.toNat * 256 + b.toNat) * 256 + c.toNat) * 256 + d.toNat) (by omega)
  have hp := hv.plain
  refine fspec_of_body follows Try.func150 (by unfold Try.f150; rfl) (by unfold Try.f150; simp) onceA (by unfold Try.f150; simp) (by kernel_rfl) ?_; unfold Try.f150
  simp only [↓pre, post, ↓reduceIte, Nat.reduceEqDiff, Nat.reduceAdd, Nat.reduceMul, Nat.reduceSub, Nat.reduceLeDiff, Nat.reduceMod, Nat.reduceDiv, reduceCtorEq, Nat.reduceLT, Nat.reduceGT, Nat.reduceBEq, Option.isSome_some, ne_eq, Int.reduceEq, not_false_eq_true, bin_quo, bin_rem, List.length_cons, List.length_nil, List.map_cons, List.map_nil, List.append_nil, List.cons_append, List.nil_append, List.take_succ_cons, List.take_zero, List.drop_succ_cons, List.drop_zero, Nat.zero_add, Nat.add_zero, Nat.zero_le, Nat.le_refl, decide_true, decide_false, Bool.not_true, Bool.not_false, stepW, opE, intV, parV, boxE, loadE, partE, faddrE, fieldE, checkE, extractE, resultsE, resEs, resE, buildE, fillE, splice, if_true, if_false, Bool.false_eq_true, true_and, and_true, AV.cells, okA, oneA, fzs, fz, opTmp, Option.bind_some, Option.map_some, List.getElem?_cons_zero, List.getElem?_cons_succ, and_self, canonR, canon, canons, shift, shifts, pushAll, pushFrom, tys150, onceA, postU, postV, hv.addr', Nat.mul_one, a0, a1, a2, a3, l0, l1, l2, l3, w0, w1, w2, b0, m0, s0, m1, s1, m2, s2]
end Go.Proofs.Ytenmbfplceeolaa

set_option linter.unusedVariables false
set_option linter.unusedSimpArgs false
set_option maxRecDepth 10000
namespace Go.Proofs.Ytenmbfplceeolaa
open Go Go.Tw Go.Proofs

theorem last_pos {l : List Int} (h : l ≠ []) (hv : ∀ n ∈ l, 1 ≤ n) : 1 ≤ lastI l := by
  have key : ∀ (l : List Int) (m : Int), (0 ≤ m) → m ≤ l.foldl max m := by
    intro l
    induction l with
    | nil => intro m _; exact Int.le_refl _
    | cons a l ih => intro m hm; simp only [List.foldl_cons]; have := ih (max m a) (by omega); omega
  cases l with
  | nil => exact absurd rfl h
  | cons a l =>
    have h1 := hv a (by simp)
    have := key l (max 0 a) (by omega)
    simp only [lastI, List.foldl_cons]
    omega
theorem lastV_pos {k r c w : Int} (hm : mayB k r c w = true) (l : List Int) : (0 < lastV k r l ↔ vecE k r c w l = 0) ∧ (vecE k r c w l = 0 → lastV k r l = lastI l ∧ (l.length : Int) = k + r) := by
  have hn := may_n hm
  unfold lastV vecE
  rw [if_pos hm]
  by_cases hl : (l.length : Int) = k + r
  · rw [if_pos hl, if_pos hl]
    by_cases ha : l.any (fun n => !verB n) = true
    · rw [if_pos ha, if_pos ha]
      exact ⟨by omega, fun h => by omega⟩
    · rw [if_neg ha, if_neg ha]
      have hp : 1 ≤ lastI l := last_pos (by intro e; subst e; simp at hl; omega) fun n hn => by
        have h2 : verB n = true := by
          cases hq : verB n with
          | true => rfl
          | false => exact absurd (List.any_eq_true.2 ⟨n, hn, by simp [hq]⟩) ha
        simp [verB] at h2
        omega
      exact ⟨by omega, fun _ => ⟨rfl, hl⟩⟩
  · rw [if_neg hl, if_neg hl]
    exact ⟨by omega, fun h => by omega⟩
theorem ref10_May (k r c w kd ix ce st : Int) (hm : mayB k r c w = true) (vv dv : AV) (l : List Int) (x : List AV) (dn : Nat) (y : List AV) (hv : RdSl vv l.length (intsA l ++ x)) (hd : RdSl dv dn y) (hn : l.length ≤ 1000000000000) : FSpec Try.prog 151 [parV k r c w, slotV kd ix ce st vv dv] ⟨boolV (mayS k r c w kd ix ce st l dn), []⟩ := by
  have hc := ref10_Last k r c w hm vv l x hv hn
  have hN := ref06_N k r c w hm
  have hp := hv.plain
  have f1 := rd_fz hv
  have f2 := rd_fz hd
  have o1 := rd_one hv
  have o2 := rd_one hd
  obtain ⟨q1, q2⟩ := lastV_pos hm l
  refine fspec_of_body follows Try.func151 (by unfold Try.f151; rfl) (by unfold Try.f151; simp) onceA (by unfold Try.f151; simp) (by kernel_rfl) ?_; unfold Try.f151
  unfold slotV
  by_cases hk : kd = 1 ∨ kd = 2
  · rcases hk with rfl | rfl
    · skip
      by_cases h0 : ix < 0
      · have hx : mayS k r c w 1 ix ce st l dn = false := by
          have : ¬ (0 ≤ ix ∧ ix < l.length) := by omega
          rw [mayS, decide_eq_false this]; simp
        simp only [↓pre, post, ↓reduceIte, Nat.reduceEqDiff, Nat.reduceAdd, Nat.reduceMul, Nat.reduceSub, Nat.reduceLeDiff, Nat.reduceMod, Nat.reduceDiv, reduceCtorEq, Nat.reduceLT, Nat.reduceGT, Nat.reduceBEq, Option.isSome_some, ne_eq, Int.reduceEq, not_false_eq_true, bin_quo, bin_rem, List.length_cons, List.length_nil, List.map_cons, List.map_nil, List.append_nil, List.cons_append, List.nil_append, List.take_succ_cons, List.take_zero, List.drop_succ_cons, List.drop_zero, Nat.zero_add, Nat.add_zero, Nat.zero_le, Nat.le_refl, decide_true, decide_false, Bool.not_true, Bool.not_false, stepW, opE, intV, parV, boxE, loadE, partE, faddrE, fieldE, checkE, extractE, resultsE, resEs, resE, buildE, fillE, splice, if_true, if_false, Bool.false_eq_true, true_and, and_true, AV.cells, okA, oneA, fzs, fz, opTmp, Option.bind_some, Option.map_some, List.getElem?_cons_zero, List.getElem?_cons_succ, and_self, canonR, canon, canons, shift, shifts, pushAll, pushFrom, tys151, onceA, postU, f1, f2, o1, o2, hv.len', hd.len', hv.addr', boolV, eq_self, Int.reduceEq, h0, hx]
      · by_cases hg : k + r ≤ ix
        · have hx : mayS k r c w 1 ix ce st l dn = false := by
            by_cases he : vecE k r c w l = 0
            · have := (q2 he).2
              have : ¬ (0 ≤ ix ∧ ix < l.length) := by omega
              rw [mayS, decide_eq_false this]; simp
            · rw [mayS, decide_eq_false he]; simp
          simp only [↓pre, post, ↓reduceIte, Nat.reduceEqDiff, Nat.reduceAdd, Nat.reduceMul, Nat.reduceSub, Nat.reduceLeDiff, Nat.reduceMod, Nat.reduceDiv, reduceCtorEq, Nat.reduceLT, Nat.reduceGT, Nat.reduceBEq, Option.isSome_some, ne_eq, Int.reduceEq, not_false_eq_true, bin_quo, bin_rem, List.length_cons, List.length_nil, List.map_cons, List.map_nil, List.append_nil, List.cons_append, List.nil_append, List.take_succ_cons, List.take_zero, List.drop_succ_cons, List.drop_zero, Nat.zero_add, Nat.add_zero, Nat.zero_le, Nat.le_refl, decide_true, decide_false, Bool.not_true, Bool.not_false, stepW, opE, intV, parV, boxE, loadE, partE, faddrE, fieldE, checkE, extractE, resultsE, resEs, resE, buildE, fillE, splice, if_true, if_false, Bool.false_eq_true, true_and, and_true, AV.cells, okA, oneA, fzs, fz, opTmp, Option.bind_some, Option.map_some, List.getElem?_cons_zero, List.getElem?_cons_succ, and_self, canonR, canon, canons, shift, shifts, pushAll, pushFrom, tys151, onceA, postU, f1, f2, o1, o2, hv.len', hd.len', hv.addr', boolV, eq_self, Int.reduceEq, h0]
          (first | refine call_plain (hN) (by first | rfl | simp only [plains, plain, Bool.and_true, Bool.and_self, *]) ?_ | refine call_pure (hN) (by first | rfl | simp only [plains, plain, Bool.and_true, Bool.and_self, *]) (by intro k; first | rfl | simp only [shift, shifts, intV, boolV, *]) ?_); simp only [↓pre, post, ↓reduceIte, Nat.reduceEqDiff, Nat.reduceAdd, Nat.reduceMul, Nat.reduceSub, Nat.reduceLeDiff, Nat.reduceMod, Nat.reduceDiv, reduceCtorEq, Nat.reduceLT, Nat.reduceGT, Nat.reduceBEq, Option.isSome_some, ne_eq, Int.reduceEq, not_false_eq_true, bin_quo, bin_rem, List.length_cons, List.length_nil, List.map_cons, List.map_nil, List.append_nil, List.cons_append, List.nil_append, List.take_succ_cons, List.take_zero, List.drop_succ_cons, List.drop_zero, Nat.zero_add, Nat.add_zero, Nat.zero_le, Nat.le_refl, decide_true, decide_false, Bool.not_true, Bool.not_false, stepW, opE, intV, parV, boxE, loadE, partE, faddrE, fieldE, checkE, extractE, resultsE, resEs, resE, buildE, fillE, splice, if_true, if_false, Bool.false_eq_true, true_and, and_true, AV.cells, okA, oneA, fzs, fz, opTmp, Option.bind_some, Option.map_some, List.getElem?_cons_zero, List.getElem?_cons_succ, and_self, canonR, canon, canons, shift, shifts, pushAll, pushFrom, tys151, onceA, postU, f1, f2, o1, o2, hv.len', hd.len', hv.addr', boolV, eq_self, Int.reduceEq, h0, hg, hx]
        · by_cases hdn : (dn : Int) = c
          · simp only [↓pre, post, ↓reduceIte, Nat.reduceEqDiff, Nat.reduceAdd, Nat.reduceMul, Nat.reduceSub, Nat.reduceLeDiff, Nat.reduceMod, Nat.reduceDiv, reduceCtorEq, Nat.reduceLT, Nat.reduceGT, Nat.reduceBEq, Option.isSome_some, ne_eq, Int.reduceEq, not_false_eq_true, bin_quo, bin_rem, List.length_cons, List.length_nil, List.map_cons, List.map_nil, List.append_nil, List.cons_append, List.nil_append, List.take_succ_cons, List.take_zero, List.drop_succ_cons, List.drop_zero, Nat.zero_add, Nat.add_zero, Nat.zero_le, Nat.le_refl, decide_true, decide_false, Bool.not_true, Bool.not_false, stepW, opE, intV, parV, boxE, loadE, partE, faddrE, fieldE, checkE, extractE, resultsE, resEs, resE, buildE, fillE, splice, if_true, if_false, Bool.false_eq_true, true_and, and_true, AV.cells, okA, oneA, fzs, fz, opTmp, Option.bind_some, Option.map_some, List.getElem?_cons_zero, List.getElem?_cons_succ, and_self, canonR, canon, canons, shift, shifts, pushAll, pushFrom, tys151, onceA, postU, f1, f2, o1, o2, hv.len', hd.len', hv.addr', boolV, eq_self, Int.reduceEq, h0]
            (first | refine call_plain (hN) (by first | rfl | simp only [plains, plain, Bool.and_true, Bool.and_self, *]) ?_ | refine call_pure (hN) (by first | rfl | simp only [plains, plain, Bool.and_true, Bool.and_self, *]) (by intro k; first | rfl | simp only [shift, shifts, intV, boolV, *]) ?_); simp only [↓pre, post, ↓reduceIte, Nat.reduceEqDiff, Nat.reduceAdd, Nat.reduceMul, Nat.reduceSub, Nat.reduceLeDiff, Nat.reduceMod, Nat.reduceDiv, reduceCtorEq, Nat.reduceLT, Nat.reduceGT, Nat.reduceBEq, Option.isSome_some, ne_eq, Int.reduceEq, not_false_eq_true, bin_quo, bin_rem, List.length_cons, List.length_nil, List.map_cons, List.map_nil, List.append_nil, List.cons_append, List.nil_append, List.take_succ_cons, List.take_zero, List.drop_succ_cons, List.drop_zero, Nat.zero_add, Nat.add_zero, Nat.zero_le, Nat.le_refl, decide_true, decide_false, Bool.not_true, Bool.not_false, stepW, opE, intV, parV, boxE, loadE, partE, faddrE, fieldE, checkE, extractE, resultsE, resEs, resE, buildE, fillE, splice, if_true, if_false, Bool.false_eq_true, true_and, and_true, AV.cells, okA, oneA, fzs, fz, opTmp, Option.bind_some, Option.map_some, List.getElem?_cons_zero, List.getElem?_cons_succ, and_self, canonR, canon, canons, shift, shifts, pushAll, pushFrom, tys151, onceA, postU, f1, f2, o1, o2, hv.len', hd.len', hv.addr', boolV, eq_self, Int.reduceEq, h0, hg, hdn]
            (first | refine call_plain hc (by simp only [plains, plain, parV, intV, hp, Bool.and_true, Bool.and_self]) ?_ | refine call_pure hc (by simp only [plains, plain, parV, intV, hp, Bool.and_true, Bool.and_self]) (by intro k; first | rfl | simp only [shift, shifts, intV, boolV, *]) ?_)
            by_cases hl0 : 0 < lastV k r l
            · have he := q1.1 hl0
              obtain ⟨e1, e2⟩ := q2 he
              obtain ⟨i, rfl⟩ : ∃ i : Nat, ix = (i : Nat) := ⟨ix.toNat, by omega⟩
              have h1 : i < l.length := by omega
              obtain ⟨a, ha⟩ : ∃ a, l[i]? = some a := ⟨_, List.getElem?_eq_getElem h1⟩
              have a1 := int_at (x := x) ha
              by_cases hst : st = lastV k r l
              · have hx : mayS k r c w 1 (i : Nat) ce st l dn = decide (ce = a) := by
                  have h3 : (0 : Int) ≤ (i : Nat) ∧ ((i : Nat) : Int) < (l.length : Nat) := by omega
                  rw [mayS, decide_eq_true he, decide_eq_true (hst.trans e1), decide_eq_true h3, decide_eq_true hdn, Int.toNat_natCast, ha]
                  by_cases hca : ce = a
                  · simp [hca]
                  · have : ¬ a = ce := fun e => hca e.symm
                    simp [hca, this]
                rw [hx]
                clear hx
                replace e1 := Hid.mk e1
                replace e2 := Hid.mk e2
                replace he := Hid.mk he
                simp only [↓pre, post, ↓reduceIte, Nat.reduceEqDiff, Nat.reduceAdd, Nat.reduceMul, Nat.reduceSub, Nat.reduceLeDiff, Nat.reduceMod, Nat.reduceDiv, reduceCtorEq, Nat.reduceLT, Nat.reduceGT, Nat.reduceBEq, Option.isSome_some, ne_eq, Int.reduceEq, not_false_eq_true, bin_quo, bin_rem, List.length_cons, List.length_nil, List.map_cons, List.map_nil, List.append_nil, List.cons_append, List.nil_append, List.take_succ_cons, List.take_zero, List.drop_succ_cons, List.drop_zero, Nat.zero_add, Nat.add_zero, Nat.zero_le, Nat.le_refl, decide_true, decide_false, Bool.not_true, Bool.not_false, stepW, opE, intV, parV, boxE, loadE, partE, faddrE, fieldE, checkE, extractE, resultsE, resEs, resE, buildE, fillE, splice, if_true, if_false, Bool.false_eq_true, true_and, and_true, AV.cells, okA, oneA, fzs, fz, opTmp, Option.bind_some, Option.map_some, List.getElem?_cons_zero, List.getElem?_cons_succ, and_self, canonR, canon, canons, shift, shifts, pushAll, pushFrom, tys151, onceA, postU, f1, f2, o1, o2, hv.len', hd.len', hv.addr', boolV, eq_self, Int.reduceEq, hl0, hst, h1, Nat.mul_one, a1]
              · have hx : mayS k r c w 1 (i : Nat) ce st l dn = false := by
                  have : ¬ st = lastI l := by rw [← e1]; exact hst
                  rw [mayS, decide_eq_false this]; simp
                simp only [↓pre, post, ↓reduceIte, Nat.reduceEqDiff, Nat.reduceAdd, Nat.reduceMul, Nat.reduceSub, Nat.reduceLeDiff, Nat.reduceMod, Nat.reduceDiv, reduceCtorEq, Nat.reduceLT, Nat.reduceGT, Nat.reduceBEq, Option.isSome_some, ne_eq, Int.reduceEq, not_false_eq_true, bin_quo, bin_rem, List.length_cons, List.length_nil, List.map_cons, List.map_nil, List.append_nil, List.cons_append, List.nil_append, List.take_succ_cons, List.take_zero, List.drop_succ_cons, List.drop_zero, Nat.zero_add, Nat.add_zero, Nat.zero_le, Nat.le_refl, decide_true, decide_false, Bool.not_true, Bool.not_false, stepW, opE, intV, parV, boxE, loadE, partE, faddrE, fieldE, checkE, extractE, resultsE, resEs, resE, buildE, fillE, splice, if_true, if_false, Bool.false_eq_true, true_and, and_true, AV.cells, okA, oneA, fzs, fz, opTmp, Option.bind_some, Option.map_some, List.getElem?_cons_zero, List.getElem?_cons_succ, and_self, canonR, canon, canons, shift, shifts, pushAll, pushFrom, tys151, onceA, postU, f1, f2, o1, o2, hv.len', hd.len', hv.addr', boolV, eq_self, Int.reduceEq, hl0, hst, h1, Nat.mul_one, a1, hx]
            · have hx : mayS k r c w 1 ix ce st l dn = false := by
                have he : ¬ vecE k r c w l = 0 := fun h => hl0 (q1.2 h)
                rw [mayS, decide_eq_false he]; simp
              simp only [↓pre, post, ↓reduceIte, Nat.reduceEqDiff, Nat.reduceAdd, Nat.reduceMul, Nat.reduceSub, Nat.reduceLeDiff, Nat.reduceMod, Nat.reduceDiv, reduceCtorEq, Nat.reduceLT, Nat.reduceGT, Nat.reduceBEq, Option.isSome_some, ne_eq, Int.reduceEq, not_false_eq_true, bin_quo, bin_rem, List.length_cons, List.length_nil, List.map_cons, List.map_nil, List.append_nil, List.cons_append, List.nil_append, List.take_succ_cons, List.take_zero, List.drop_succ_cons, List.drop_zero, Nat.zero_add, Nat.add_zero, Nat.zero_le, Nat.le_refl, decide_true, decide_false, Bool.not_true, Bool.not_false, stepW, opE, intV, parV, boxE, loadE, partE, faddrE, fieldE, checkE, extractE, resultsE, resEs, resE, buildE, fillE, splice, if_true, if_false, Bool.false_eq_true, true_and, and_true, AV.cells, okA, oneA, fzs, fz, opTmp, Option.bind_some, Option.map_some, List.getElem?_cons_zero, List.getElem?_cons_succ, and_self, canonR, canon, canons, shift, shifts, pushAll, pushFrom, tys151, onceA, postU, f1, f2, o1, o2, hv.len', hd.len', hv.addr', boolV, eq_self, Int.reduceEq, hl0, hx]
          · have hx : mayS k r c w 1 ix ce st l dn = false := by
              rw [mayS, decide_eq_false hdn]; simp
            simp only [↓pre, post, ↓reduceIte, Nat.reduceEqDiff, Nat.reduceAdd, Nat.reduceMul, Nat.reduceSub, Nat.reduceLeDiff, Nat.reduceMod, Nat.reduceDiv, reduceCtorEq, Nat.reduceLT, Nat.reduceGT, Nat.reduceBEq, Option.isSome_some, ne_eq, Int.reduceEq, not_false_eq_true, bin_quo, bin_rem, List.length_cons, List.length_nil, List.map_cons, List.map_nil, List.append_nil, List.cons_append, List.nil_append, List.take_succ_cons, List.take_zero, List.drop_succ_cons, List.drop_zero, Nat.zero_add, Nat.add_zero, Nat.zero_le, Nat.le_refl, decide_true, decide_false, Bool.not_true, Bool.not_false, stepW, opE, intV, parV, boxE, loadE, partE, faddrE, fieldE, checkE, extractE, resultsE, resEs, resE, buildE, fillE, splice, if_true, if_false, Bool.false_eq_true, true_and, and_true, AV.cells, okA, oneA, fzs, fz, opTmp, Option.bind_some, Option.map_some, List.getElem?_cons_zero, List.getElem?_cons_succ, and_self, canonR, canon, canons, shift, shifts, pushAll, pushFrom, tys151, onceA, postU, f1, f2, o1, o2, hv.len', hd.len', hv.addr', boolV, eq_self, Int.reduceEq, h0]
            (first | refine call_plain (hN) (by first | rfl | simp only [plains, plain, Bool.and_true, Bool.and_self, *]) ?_ | refine call_pure (hN) (by first | rfl | simp only [plains, plain, Bool.and_true, Bool.and_self, *]) (by intro k; first | rfl | simp only [shift, shifts, intV, boolV, *]) ?_); simp only [↓pre, post, ↓reduceIte, Nat.reduceEqDiff, Nat.reduceAdd, Nat.reduceMul, Nat.reduceSub, Nat.reduceLeDiff, Nat.reduceMod, Nat.reduceDiv, reduceCtorEq, Nat.reduceLT, Nat.reduceGT, Nat.reduceBEq, Option.isSome_some, ne_eq, Int.reduceEq, not_false_eq_true, bin_quo, bin_rem, List.length_cons, List.length_nil, List.map_cons, List.map_nil, List.append_nil, List.cons_append, List.nil_append, List.take_succ_cons, List.take_zero, List.drop_succ_cons, List.drop_zero, Nat.zero_add, Nat.add_zero, Nat.zero_le, Nat.le_refl, decide_true, decide_false, Bool.not_true, Bool.not_false, stepW, opE, intV, parV, boxE, loadE, partE, faddrE, fieldE, checkE, extractE, resultsE, resEs, resE, buildE, fillE, splice, if_true, if_false, Bool.false_eq_true, true_and, and_true, AV.cells, okA, oneA, fzs, fz, opTmp, Option.bind_some, Option.map_some, List.getElem?_cons_zero, List.getElem?_cons_succ, and_self, canonR, canon, canons, shift, shifts, pushAll, pushFrom, tys151, onceA, postU, f1, f2, o1, o2, hv.len', hd.len', hv.addr', boolV, eq_self, Int.reduceEq, h0, hg, hdn, hx]
    · skip
      by_cases h0 : ix < 0
      · have hx : mayS k r c w 2 ix ce st l dn = false := by
          have : ¬ (0 ≤ ix ∧ ix < l.length) := by omega
          rw [mayS, decide_eq_false this]; simp
        simp only [↓pre, post, ↓reduceIte, Nat.reduceEqDiff, Nat.reduceAdd, Nat.reduceMul, Nat.reduceSub, Nat.reduceLeDiff, Nat.reduceMod, Nat.reduceDiv, reduceCtorEq, Nat.reduceLT, Nat.reduceGT, Nat.reduceBEq, Option.isSome_some, ne_eq, Int.reduceEq, not_false_eq_true, bin_quo, bin_rem, List.length_cons, List.length_nil, List.map_cons, List.map_nil, List.append_nil, List.cons_append, List.nil_append, List.take_succ_cons, List.take_zero, List.drop_succ_cons, List.drop_zero, Nat.zero_add, Nat.add_zero, Nat.zero_le, Nat.le_refl, decide_true, decide_false, Bool.not_true, Bool.not_false, stepW, opE, intV, parV, boxE, loadE, partE, faddrE, fieldE, checkE, extractE, resultsE, resEs, resE, buildE, fillE, splice, if_true, if_false, Bool.false_eq_true, true_and, and_true, AV.cells, okA, oneA, fzs, fz, opTmp, Option.bind_some, Option.map_some, List.getElem?_cons_zero, List.getElem?_cons_succ, and_self, canonR, canon, canons, shift, shifts, pushAll, pushFrom, tys151, onceA, postU, f1, f2, o1, o2, hv.len', hd.len', hv.addr', boolV, eq_self, Int.reduceEq, h0, hx]
      · by_cases hg : k + r ≤ ix
        · have hx : mayS k r c w 2 ix ce st l dn = false := by
            by_cases he : vecE k r c w l = 0
            · have := (q2 he).2
              have : ¬ (0 ≤ ix ∧ ix < l.length) := by omega
              rw [mayS, decide_eq_false this]; simp
            · rw [mayS, decide_eq_false he]; simp
          simp only [↓pre, post, ↓reduceIte, Nat.reduceEqDiff, Nat.reduceAdd, Nat.reduceMul, Nat.reduceSub, Nat.reduceLeDiff, Nat.reduceMod, Nat.reduceDiv, reduceCtorEq, Nat.reduceLT, Nat.reduceGT, Nat.reduceBEq, Option.isSome_some, ne_eq, Int.reduceEq, not_false_eq_true, bin_quo, bin_rem, List.length_cons, List.length_nil, List.map_cons, List.map_nil, List.append_nil, List.cons_append, List.nil_append, List.take_succ_cons, List.take_zero, List.drop_succ_cons, List.drop_zero, Nat.zero_add, Nat.add_zero, Nat.zero_le, Nat.le_refl, decide_true, decide_false, Bool.not_true, Bool.not_false, stepW, opE, intV, parV, boxE, loadE, partE, faddrE, fieldE, checkE, extractE, resultsE, resEs, resE, buildE, fillE, splice, if_true, if_false, Bool.false_eq_true, true_and, and_true, AV.cells, okA, oneA, fzs, fz, opTmp, Option.bind_some, Option.map_some, List.getElem?_cons_zero, List.getElem?_cons_succ, and_self, canonR, canon, canons, shift, shifts, pushAll, pushFrom, tys151, onceA, postU, f1, f2, o1, o2, hv.len', hd.len', hv.addr', boolV, eq_self, Int.reduceEq, h0]
          (first | refine call_plain (hN) (by first | rfl | simp only [plains, plain, Bool.and_true, Bool.and_self, *]) ?_ | refine call_pure (hN) (by first | rfl | simp only [plains, plain, Bool.and_true, Bool.and_self, *]) (by intro k; first | rfl | simp only [shift, shifts, intV, boolV, *]) ?_); simp only [↓pre, post, ↓reduceIte, Nat.reduceEqDiff, Nat.reduceAdd, Nat.reduceMul, Nat.reduceSub, Nat.reduceLeDiff, Nat.reduceMod, Nat.reduceDiv, reduceCtorEq, Nat.reduceLT, Nat.reduceGT, Nat.reduceBEq, Option.isSome_some, ne_eq, Int.reduceEq, not_false_eq_true, bin_quo, bin_rem, List.length_cons, List.length_nil, List.map_cons, List.map_nil, List.append_nil, List.cons_append, List.nil_append, List.take_succ_cons, List.take_zero, List.drop_succ_cons, List.drop_zero, Nat.zero_add, Nat.add_zero, Nat.zero_le, Nat.le_refl, decide_true, decide_false, Bool.not_true, Bool.not_false, stepW, opE, intV, parV, boxE, loadE, partE, faddrE, fieldE, checkE, extractE, resultsE, resEs, resE, buildE, fillE, splice, if_true, if_false, Bool.false_eq_true, true_and, and_true, AV.cells, okA, oneA, fzs, fz, opTmp, Option.bind_some, Option.map_some, List.getElem?_cons_zero, List.getElem?_cons_succ, and_self, canonR, canon, canons, shift, shifts, pushAll, pushFrom, tys151, onceA, postU, f1, f2, o1, o2, hv.len', hd.len', hv.addr', boolV, eq_self, Int.reduceEq, h0, hg, hx]
        · by_cases hdn : (dn : Int) = c
          · simp only [↓pre, post, ↓reduceIte, Nat.reduceEqDiff, Nat.reduceAdd, Nat.reduceMul, Nat.reduceSub, Nat.reduceLeDiff, Nat.reduceMod, Nat.reduceDiv, reduceCtorEq, Nat.reduceLT, Nat.reduceGT, Nat.reduceBEq, Option.isSome_some, ne_eq, Int.reduceEq, not_false_eq_true, bin_quo, bin_rem, List.length_cons, List.length_nil, List.map_cons, List.map_nil, List.append_nil, List.cons_append, List.nil_append, List.take_succ_cons, List.take_zero, List.drop_succ_cons, List.drop_zero, Nat.zero_add, Nat.add_zero, Nat.zero_le, Nat.le_refl, decide_true, decide_false, Bool.not_true, Bool.not_false, stepW, opE, intV, parV, boxE, loadE, partE, faddrE, fieldE, checkE, extractE, resultsE, resEs, resE, buildE, fillE, splice, if_true, if_false, Bool.false_eq_true, true_and, and_true, AV.cells, okA, oneA, fzs, fz, opTmp, Option.bind_some, Option.map_some, List.getElem?_cons_zero, List.getElem?_cons_succ, and_self, canonR, canon, canons, shift, shifts, pushAll, pushFrom, tys151, onceA, postU, f1, f2, o1, o2, hv.len', hd.len', hv.addr', boolV, eq_self, Int.reduceEq, h0]
            (first | refine call_plain (hN) (by first | rfl | simp only [plains, plain, Bool.and_true, Bool.and_self, *]) ?_ | refine call_pure (hN) (by first | rfl | simp only [plains, plain, Bool.and_true, Bool.and_self, *]) (by intro k; first | rfl | simp only [shift, shifts, intV, boolV, *]) ?_); simp only [↓pre, post, ↓reduceIte, Nat.reduceEqDiff, Nat.reduceAdd, Nat.reduceMul, Nat.reduceSub, Nat.reduceLeDiff, Nat.reduceMod, Nat.reduceDiv, reduceCtorEq, Nat.reduceLT, Nat.reduceGT, Nat.reduceBEq, Option.isSome_some, ne_eq, Int.reduceEq, not_false_eq_true, bin_quo, bin_rem, List.length_cons, List.length_nil, List.map_cons, List.map_nil, List.append_nil, List.cons_append, List.nil_append, List.take_succ_cons, List.take_zero, List.drop_succ_cons, List.drop_zero, Nat.zero_add, Nat.add_zero, Nat.zero_le, Nat.le_refl, decide_true, decide_false, Bool.not_true, Bool.not_false, stepW, opE, intV, parV, boxE, loadE, partE, faddrE, fieldE, checkE, extractE, resultsE, resEs, resE, buildE, fillE, splice, if_true, if_false, Bool.false_eq_true, true_and, and_true, AV.cells, okA, oneA, fzs, fz, opTmp, Option.bind_some, Option.map_some, List.getElem?_cons_zero, List.getElem?_cons_succ, and_self, canonR, canon, canons, shift, shifts, pushAll, pushFrom, tys151, onceA, postU, f1, f2, o1, o2, hv.len', hd.len', hv.addr', boolV, eq_self, Int.reduceEq, h0, hg, hdn]
            (first | refine call_plain hc (by simp only [plains, plain, parV, intV, hp, Bool.and_true, Bool.and_self]) ?_ | refine call_pure hc (by simp only [plains, plain, parV, intV, hp, Bool.and_true, Bool.and_self]) (by intro k; first | rfl | simp only [shift, shifts, intV, boolV, *]) ?_)
            by_cases hl0 : 0 < lastV k r l
            · have he := q1.1 hl0
              obtain ⟨e1, e2⟩ := q2 he
              obtain ⟨i, rfl⟩ : ∃ i : Nat, ix = (i : Nat) := ⟨ix.toNat, by omega⟩
              have h1 : i < l.length := by omega
              obtain ⟨a, ha⟩ : ∃ a, l[i]? = some a := ⟨_, List.getElem?_eq_getElem h1⟩
              have a1 := int_at (x := x) ha
              by_cases hst : st = lastV k r l
              · have hx : mayS k r c w 2 (i : Nat) ce st l dn = decide (ce = a) := by
                  have h3 : (0 : Int) ≤ (i : Nat) ∧ ((i : Nat) : Int) < (l.length : Nat) := by omega
                  rw [mayS, decide_eq_true he, decide_eq_true (hst.trans e1), decide_eq_true h3, decide_eq_true hdn, Int.toNat_natCast, ha]
                  by_cases hca : ce = a
                  · simp [hca]
                  · have : ¬ a = ce := fun e => hca e.symm
                    simp [hca, this]
                rw [hx]
                clear hx
                replace e1 := Hid.mk e1
                replace e2 := Hid.mk e2
                replace he := Hid.mk he
                simp only [↓pre, post, ↓reduceIte, Nat.reduceEqDiff, Nat.reduceAdd, Nat.reduceMul, Nat.reduceSub, Nat.reduceLeDiff, Nat.reduceMod, Nat.reduceDiv, reduceCtorEq, Nat.reduceLT, Nat.reduceGT, Nat.reduceBEq, Option.isSome_some, ne_eq, Int.reduceEq, not_false_eq_true, bin_quo, bin_rem, List.length_cons, List.length_nil, List.map_cons, List.map_nil, List.append_nil, List.cons_append, List.nil_append, List.take_succ_cons, List.take_zero, List.drop_succ_cons, List.drop_zero, Nat.zero_add, Nat.add_zero, Nat.zero_le, Nat.le_refl, decide_true, decide_false, Bool.not_true, Bool.not_false, stepW, opE, intV, parV, boxE, loadE, partE, faddrE, fieldE, checkE, extractE, resultsE, resEs, resE, buildE, fillE, splice, if_true, if_false, Bool.false_eq_true, true_and, and_true, AV.cells, okA, oneA, fzs, fz, opTmp, Option.bind_some, Option.map_some, List.getElem?_cons_zero, List.getElem?_cons_succ, and_self, canonR, canon, canons, shift, shifts, pushAll, pushFrom, tys151, onceA, postU, f1, f2, o1, o2, hv.len', hd.len', hv.addr', boolV, eq_self, Int.reduceEq, hl0, hst, h1, Nat.mul_one, a1]
              · have hx : mayS k r c w 2 (i : Nat) ce st l dn = false := by
                  have : ¬ st = lastI l := by rw [← e1]; exact hst
                  rw [mayS, decide_eq_false this]; simp
                simp only [↓pre, post, ↓reduceIte, Nat.reduceEqDiff, Nat.reduceAdd, Nat.reduceMul, Nat.reduceSub, Nat.reduceLeDiff, Nat.reduceMod, Nat.reduceDiv, reduceCtorEq, Nat.reduceLT, Nat.reduceGT, Nat.reduceBEq, Option.isSome_some, ne_eq, Int.reduceEq, not_false_eq_true, bin_quo, bin_rem, List.length_cons, List.length_nil, List.map_cons, List.map_nil, List.append_nil, List.cons_append, List.nil_append, List.take_succ_cons, List.take_zero, List.drop_succ_cons, List.drop_zero, Nat.zero_add, Nat.add_zero, Nat.zero_le, Nat.le_refl, decide_true, decide_false, Bool.not_true, Bool.not_false, stepW, opE, intV, parV, boxE, loadE, partE, faddrE, fieldE, checkE, extractE, resultsE, resEs, resE, buildE, fillE, splice, if_true, if_false, Bool.false_eq_true, true_and, and_true, AV.cells, okA, oneA, fzs, fz, opTmp, Option.bind_some, Option.map_some, List.getElem?_cons_zero, List.getElem?_cons_succ, and_self, canonR, canon, canons, shift, shifts, pushAll, pushFrom, tys151, onceA, postU, f1, f2, o1, o2, hv.len', hd.len', hv.addr', boolV, eq_self, Int.reduceEq, hl0, hst, h1, Nat.mul_one, a1, hx]
            · have hx : mayS k r c w 2 ix ce st l dn = false := by
                have he : ¬ vecE k r c w l = 0 := fun h => hl0 (q1.2 h)
                rw [mayS, decide_eq_false he]; simp
              simp only [↓pre, post, ↓reduceIte, Nat.reduceEqDiff, Nat.reduceAdd, Nat.reduceMul, Nat.reduceSub, Nat.reduceLeDiff, Nat.reduceMod, Nat.reduceDiv, reduceCtorEq, Nat.reduceLT, Nat.reduceGT, Nat.reduceBEq, Option.isSome_some, ne_eq, Int.reduceEq, not_false_eq_true, bin_quo, bin_rem, List.length_cons, List.length_nil, List.map_cons, List.map_nil, List.append_nil, List.cons_append, List.nil_append, List.take_succ_cons, List.take_zero, List.drop_succ_cons, List.drop_zero, Nat.zero_add, Nat.add_zero, Nat.zero_le, Nat.le_refl, decide_true, decide_false, Bool.not_true, Bool.not_false, stepW, opE, intV, parV, boxE, loadE, partE, faddrE, fieldE, checkE, extractE, resultsE, resEs, resE, buildE, fillE, splice, if_true, if_false, Bool.false_eq_true, true_and, and_true, AV.cells, okA, oneA, fzs, fz, opTmp, Option.bind_some, Option.map_some, List.getElem?_cons_zero, List.getElem?_cons_succ, and_self, canonR, canon, canons, shift, shifts, pushAll, pushFrom, tys151, onceA, postU, f1, f2, o1, o2, hv.len', hd.len', hv.addr', boolV, eq_self, Int.reduceEq, hl0, hx]
          · have hx : mayS k r c w 2 ix ce st l dn = false := by
              rw [mayS, decide_eq_false hdn]; simp
            simp only [↓pre, post, ↓reduceIte, Nat.reduceEqDiff, Nat.reduceAdd, Nat.reduceMul, Nat.reduceSub, Nat.reduceLeDiff, Nat.reduceMod, Nat.reduceDiv, reduceCtorEq, Nat.reduceLT, Nat.reduceGT, Nat.reduceBEq, Option.isSome_some, ne_eq, Int.reduceEq, not_false_eq_true, bin_quo, bin_rem, List.length_cons, List.length_nil, List.map_cons, List.map_nil, List.append_nil, List.cons_append, List.nil_append, List.take_succ_cons, List.take_zero, List.drop_succ_cons, List.drop_zero, Nat.zero_add, Nat.add_zero, Nat.zero_le, Nat.le_refl, decide_true, decide_false, Bool.not_true, Bool.not_false, stepW, opE, intV, parV, boxE, loadE, partE, faddrE, fieldE, checkE, extractE, resultsE, resEs, resE, buildE, fillE, splice, if_true, if_false, Bool.false_eq_true, true_and, and_true, AV.cells, okA, oneA, fzs, fz, opTmp, Option.bind_some, Option.map_some, List.getElem?_cons_zero, List.getElem?_cons_succ, and_self, canonR, canon, canons, shift, shifts, pushAll, pushFrom, tys151, onceA, postU, f1, f2, o1, o2, hv.len', hd.len', hv.addr', boolV, eq_self, Int.reduceEq, h0]
            (first | refine call_plain (hN) (by first | rfl | simp only [plains, plain, Bool.and_true, Bool.and_self, *]) ?_ | refine call_pure (hN) (by first | rfl | simp only [plains, plain, Bool.and_true, Bool.and_self, *]) (by intro k; first | rfl | simp only [shift, shifts, intV, boolV, *]) ?_); simp only [↓pre, post, ↓reduceIte, Nat.reduceEqDiff, Nat.reduceAdd, Nat.reduceMul, Nat.reduceSub, Nat.reduceLeDiff, Nat.reduceMod, Nat.reduceDiv, reduceCtorEq, Nat.reduceLT, Nat.reduceGT, Nat.reduceBEq, Option.isSome_some, ne_eq, Int.reduceEq, not_false_eq_true, bin_quo, bin_rem, List.length_cons, List.length_nil, List.map_cons, List.map_nil, List.append_nil, List.cons_append, List.nil_append, List.take_succ_cons, List.take_zero, List.drop_succ_cons, List.drop_zero, Nat.zero_add, Nat.add_zero, Nat.zero_le, Nat.le_refl, decide_true, decide_false, Bool.not_true, Bool.not_false, stepW, opE, intV, parV, boxE, loadE, partE, faddrE, fieldE, checkE, extractE, resultsE, resEs, resE, buildE, fillE, splice, if_true, if_false, Bool.false_eq_true, true_and, and_true, AV.cells, okA, oneA, fzs, fz, opTmp, Option.bind_some, Option.map_some, List.getElem?_cons_zero, List.getElem?_cons_succ, and_self, canonR, canon, canons, shift, shifts, pushAll, pushFrom, tys151, onceA, postU, f1, f2, o1, o2, hv.len', hd.len', hv.addr', boolV, eq_self, Int.reduceEq, h0, hg, hdn, hx]
  · have hx : mayS k r c w kd ix ce st l dn = false := by
      have h1 : ¬ kd = 1 := fun h => hk (.inl h)
      have h2 : ¬ kd = 2 := fun h => hk (.inr h)
      simp [mayS, h1, h2]
    have h1 : ¬ kd = 1 := fun h => hk (.inl h)
    have h2 : ¬ kd = 2 := fun h => hk (.inr h)
    simp only [↓pre, post, ↓reduceIte, Nat.reduceEqDiff, Nat.reduceAdd, Nat.reduceMul, Nat.reduceSub, Nat.reduceLeDiff, Nat.reduceMod, Nat.reduceDiv, reduceCtorEq, Nat.reduceLT, Nat.reduceGT, Nat.reduceBEq, Option.isSome_some, ne_eq, Int.reduceEq, not_false_eq_true, bin_quo, bin_rem, List.length_cons, List.length_nil, List.map_cons, List.map_nil, List.append_nil, List.cons_append, List.nil_append, List.take_succ_cons, List.take_zero, List.drop_succ_cons, List.drop_zero, Nat.zero_add, Nat.add_zero, Nat.zero_le, Nat.le_refl, decide_true, decide_false, Bool.not_true, Bool.not_false, stepW, opE, intV, parV, boxE, loadE, partE, faddrE, fieldE, checkE, extractE, resultsE, resEs, resE, buildE, fillE, splice, if_true, if_false, Bool.false_eq_true, true_and, and_true, AV.cells, okA, oneA, fzs, fz, opTmp, Option.bind_some, Option.map_some, List.getElem?_cons_zero, List.getElem?_cons_succ, and_self, canonR, canon, canons, shift, shifts, pushAll, pushFrom, tys151, onceA, postU, f1, f2, o1, o2, hv.len', hd.len', h1, h2, hx, boolV]
end Go.Proofs.Ytenmbfplceeolaa

set_option linter.unusedVariables false
set_option linter.unusedSimpArgs false
set_option maxRecDepth 10000
namespace Go.Proofs.Ytenmbfplceeolaa
open Go Go.Tw Go.Proofs

def sameI (l l' : List Int) : Bool := decide (l = l')
theorem ref12_SameInts (v v' : AV) (l l' : List Int) (x x' : List AV) (hv : RdSl v l.length (intsA l ++ x)) (hv' : RdSl v' l'.length (intsA l' ++ x')) (hn : l.length ≤ 1000000000000) (hn' : l'.length ≤ 1000000000000) : FSpec Try.prog 51 [v, v'] ⟨boolV (sameI l l'), []⟩ := by
  refine fspec_of_body follows Try.func51 (by unfold Try.f51; rfl) (by unfold Try.f51; simp) onceA (by unfold Try.f51; simp) (by kernel_rfl) ?_; unfold Try.f51
  simp only [↓pre, post, ↓reduceIte, Nat.reduceEqDiff, Nat.reduceAdd, Nat.reduceMul, Nat.reduceSub, Nat.reduceLeDiff, Nat.reduceMod, Nat.reduceDiv, reduceCtorEq, Nat.reduceLT, Nat.reduceGT, Nat.reduceBEq, Option.isSome_some, ne_eq, Int.reduceEq, not_false_eq_true, bin_quo, bin_rem, List.length_cons, List.length_nil, List.map_cons, List.map_nil, List.append_nil, List.cons_append, List.nil_append, List.take_succ_cons, List.take_zero, List.drop_succ_cons, List.drop_zero, Nat.zero_add, Nat.add_zero, Nat.zero_le, Nat.le_refl, decide_true, decide_false, Bool.not_true, Bool.not_false, stepW, opE, intV, parV, boxE, loadE, partE, faddrE, fieldE, checkE, extractE, resultsE, resEs, resE, buildE, fillE, splice, if_true, if_false, Bool.false_eq_true, true_and, and_true, AV.cells, okA, oneA, fzs, fz, opTmp, Option.bind_some, Option.map_some, List.getElem?_cons_zero, List.getElem?_cons_succ, and_self, canonR, canon, canons, shift, shifts, pushAll, pushFrom, tys51, onceA, postU, hv.len', hv'.len']
  refine cond_ndec (fun he => ?_) (fun he => ?_)
  · have hlen : l.length = l'.length := by omega
    simp only [↓pre, post, ↓reduceIte, Nat.reduceEqDiff, Nat.reduceAdd, Nat.reduceMul, Nat.reduceSub, Nat.reduceLeDiff, Nat.reduceMod, Nat.reduceDiv, reduceCtorEq, Nat.reduceLT, Nat.reduceGT, Nat.reduceBEq, Option.isSome_some, ne_eq, Int.reduceEq, not_false_eq_true, bin_quo, bin_rem, List.length_cons, List.length_nil, List.map_cons, List.map_nil, List.append_nil, List.cons_append, List.nil_append, List.take_succ_cons, List.take_zero, List.drop_succ_cons, List.drop_zero, Nat.zero_add, Nat.add_zero, Nat.zero_le, Nat.le_refl, decide_true, decide_false, Bool.not_true, Bool.not_false, stepW, opE, intV, parV, boxE, loadE, partE, faddrE, fieldE, checkE, extractE, resultsE, resEs, resE, buildE, fillE, splice, if_true, if_false, Bool.false_eq_true, true_and, and_true, AV.cells, okA, oneA, fzs, fz, opTmp, Option.bind_some, Option.map_some, List.getElem?_cons_zero, List.getElem?_cons_succ, and_self, canonR, canon, canons, shift, shifts, pushAll, pushFrom, tys51, onceA, postU, hv.len', hv'.len']
    rw [codeW_loop]
    refine loop_intro (fun n e m => ∃ i, n + i = l.length ∧ e 0 = v ∧ e 1 = v' ∧ e 5 = intV (i : Nat) ∧ ∀ j, j < i → l[j]? = l'[j]?) l.length ⟨0, by omega, ?_⟩ ?_
    · simp [Env.set, entryE, intV]
    · rintro n e m ⟨i, hi, e0, e1, e5, hpre⟩
      replace hpre := Hid.mk hpre
      replace hlen := Hid.mk hlen
      simp only [↓pre, post, ↓reduceIte, Nat.reduceEqDiff, Nat.reduceAdd, Nat.reduceMul, Nat.reduceSub, Nat.reduceLeDiff, Nat.reduceMod, Nat.reduceDiv, reduceCtorEq, Nat.reduceLT, Nat.reduceGT, Nat.reduceBEq, Option.isSome_some, ne_eq, Int.reduceEq, not_false_eq_true, bin_quo, bin_rem, List.length_cons, List.length_nil, List.map_cons, List.map_nil, List.append_nil, List.cons_append, List.nil_append, List.take_succ_cons, List.take_zero, List.drop_succ_cons, List.drop_zero, Nat.zero_add, Nat.add_zero, Nat.zero_le, Nat.le_refl, decide_true, decide_false, Bool.not_true, Bool.not_false, stepW, opE, intV, parV, boxE, loadE, partE, faddrE, fieldE, checkE, extractE, resultsE, resEs, resE, buildE, fillE, splice, if_true, if_false, Bool.false_eq_true, true_and, and_true, AV.cells, okA, oneA, fzs, fz, opTmp, Option.bind_some, Option.map_some, List.getElem?_cons_zero, List.getElem?_cons_succ, and_self, canonR, canon, canons, shift, shifts, pushAll, pushFrom, tys51, onceA, postU, e0, e1, e5, hv.len', hv'.len']
      refine cond_dec (fun hlt => ?_) (fun hlt => ?_)
      · obtain ⟨z, hsr⟩ : ∃ r, l[i]? = some r := ⟨_, List.getElem?_eq_getElem (by omega)⟩
        obtain ⟨z', hsr'⟩ : ∃ r, l'[i]? = some r := ⟨_, List.getElem?_eq_getElem (by have := hlen.out; omega)⟩
        have a1 := int_at (x := x) hsr
        have c1 := int_at (x := x') hsr'
        have hil : i < l.length := by omega
        have hil' : i < l'.length := by have := hlen.out; omega
        have w1 := wrap_succ (n := i) (by omega)
        simp only [↓pre, post, ↓reduceIte, Nat.reduceEqDiff, Nat.reduceAdd, Nat.reduceMul, Nat.reduceSub, Nat.reduceLeDiff, Nat.reduceMod, Nat.reduceDiv, reduceCtorEq, Nat.reduceLT, Nat.reduceGT, Nat.reduceBEq, Option.isSome_some, ne_eq, Int.reduceEq, not_false_eq_true, bin_quo, bin_rem, List.length_cons, List.length_nil, List.map_cons, List.map_nil, List.append_nil, List.cons_append, List.nil_append, List.take_succ_cons, List.take_zero, List.drop_succ_cons, List.drop_zero, Nat.zero_add, Nat.add_zero, Nat.zero_le, Nat.le_refl, decide_true, decide_false, Bool.not_true, Bool.not_false, stepW, opE, intV, parV, boxE, loadE, partE, faddrE, fieldE, checkE, extractE, resultsE, resEs, resE, buildE, fillE, splice, if_true, if_false, Bool.false_eq_true, true_and, and_true, AV.cells, okA, oneA, fzs, fz, opTmp, Option.bind_some, Option.map_some, List.getElem?_cons_zero, List.getElem?_cons_succ, and_self, canonR, canon, canons, shift, shifts, pushAll, pushFrom, tys51, onceA, postU, e0, e1, e5, hv.addr', hv'.addr', Nat.mul_one, a1, c1, hil, hil', w1]
        refine cond_ndec (fun hq => ?_) (fun hq => ?_)
        · simp only [↓pre, post, ↓reduceIte, Nat.reduceEqDiff, Nat.reduceAdd, Nat.reduceMul, Nat.reduceSub, Nat.reduceLeDiff, Nat.reduceMod, Nat.reduceDiv, reduceCtorEq, Nat.reduceLT, Nat.reduceGT, Nat.reduceBEq, Option.isSome_some, ne_eq, Int.reduceEq, not_false_eq_true, bin_quo, bin_rem, List.length_cons, List.length_nil, List.map_cons, List.map_nil, List.append_nil, List.cons_append, List.nil_append, List.take_succ_cons, List.take_zero, List.drop_succ_cons, List.drop_zero, Nat.zero_add, Nat.add_zero, Nat.zero_le, Nat.le_refl, decide_true, decide_false, Bool.not_true, Bool.not_false, stepW, opE, intV, parV, boxE, loadE, partE, faddrE, fieldE, checkE, extractE, resultsE, resEs, resE, buildE, fillE, splice, if_true, if_false, Bool.false_eq_true, true_and, and_true, AV.cells, okA, oneA, fzs, fz, opTmp, Option.bind_some, Option.map_some, List.getElem?_cons_zero, List.getElem?_cons_succ, and_self, canonR, canon, canons, shift, shifts, pushAll, pushFrom, tys51, onceA, postU, e0, e1, e5, w1]
          refine ⟨n - 1, by omega, i + 1, by omega, rfl, fun j hj => ?_⟩
          by_cases hji : j = i
          · rw [hji, hsr, hsr', hq]
          · exact hpre.out j (by omega)
        · have hne : sameI l l' = false := by
            unfold sameI
            simp only [decide_eq_false_iff_not]
            intro hll
            subst hll
            rw [hsr] at hsr'
            simp only [Option.some.injEq] at hsr'
            exact hq hsr'
          simp only [↓pre, post, ↓reduceIte, Nat.reduceEqDiff, Nat.reduceAdd, Nat.reduceMul, Nat.reduceSub, Nat.reduceLeDiff, Nat.reduceMod, Nat.reduceDiv, reduceCtorEq, Nat.reduceLT, Nat.reduceGT, Nat.reduceBEq, Option.isSome_some, ne_eq, Int.reduceEq, not_false_eq_true, bin_quo, bin_rem, List.length_cons, List.length_nil, List.map_cons, List.map_nil, List.append_nil, List.cons_append, List.nil_append, List.take_succ_cons, List.take_zero, List.drop_succ_cons, List.drop_zero, Nat.zero_add, Nat.add_zero, Nat.zero_le, Nat.le_refl, decide_true, decide_false, Bool.not_true, Bool.not_false, stepW, opE, intV, parV, boxE, loadE, partE, faddrE, fieldE, checkE, extractE, resultsE, resEs, resE, buildE, fillE, splice, if_true, if_false, Bool.false_eq_true, true_and, and_true, AV.cells, okA, oneA, fzs, fz, opTmp, Option.bind_some, Option.map_some, List.getElem?_cons_zero, List.getElem?_cons_succ, and_self, canonR, canon, canons, shift, shifts, pushAll, pushFrom, tys51, onceA, postU, e0, e1, e5, hne, boolV]
      · have hall : sameI l l' = true := by
          unfold sameI
          simp only [decide_eq_true_eq]
          refine List.ext_getElem? fun j => ?_
          by_cases hj : j < i
          · exact hpre.out j hj
          · have := hlen.out
            rw [List.getElem?_eq_none (by omega), List.getElem?_eq_none (by omega)]
        simp only [↓pre, post, ↓reduceIte, Nat.reduceEqDiff, Nat.reduceAdd, Nat.reduceMul, Nat.reduceSub, Nat.reduceLeDiff, Nat.reduceMod, Nat.reduceDiv, reduceCtorEq, Nat.reduceLT, Nat.reduceGT, Nat.reduceBEq, Option.isSome_some, ne_eq, Int.reduceEq, not_false_eq_true, bin_quo, bin_rem, List.length_cons, List.length_nil, List.map_cons, List.map_nil, List.append_nil, List.cons_append, List.nil_append, List.take_succ_cons, List.take_zero, List.drop_succ_cons, List.drop_zero, Nat.zero_add, Nat.add_zero, Nat.zero_le, Nat.le_refl, decide_true, decide_false, Bool.not_true, Bool.not_false, stepW, opE, intV, parV, boxE, loadE, partE, faddrE, fieldE, checkE, extractE, resultsE, resEs, resE, buildE, fillE, splice, if_true, if_false, Bool.false_eq_true, true_and, and_true, AV.cells, okA, oneA, fzs, fz, opTmp, Option.bind_some, Option.map_some, List.getElem?_cons_zero, List.getElem?_cons_succ, and_self, canonR, canon, canons, shift, shifts, pushAll, pushFrom, tys51, onceA, postU, e0, e1, e5, hall, boolV]
  · have hne : sameI l l' = false := by
      unfold sameI
      simp only [decide_eq_false_iff_not]
      intro hll
      subst hll
      exact he rfl
    simp only [↓pre, post, ↓reduceIte, Nat.reduceEqDiff, Nat.reduceAdd, Nat.reduceMul, Nat.reduceSub, Nat.reduceLeDiff, Nat.reduceMod, Nat.reduceDiv, reduceCtorEq, Nat.reduceLT, Nat.reduceGT, Nat.reduceBEq, Option.isSome_some, ne_eq, Int.reduceEq, not_false_eq_true, bin_quo, bin_rem, List.length_cons, List.length_nil, List.map_cons, List.map_nil, List.append_nil, List.cons_append, List.nil_append, List.take_succ_cons, List.take_zero, List.drop_succ_cons, List.drop_zero, Nat.zero_add, Nat.add_zero, Nat.zero_le, Nat.le_refl, decide_true, decide_false, Bool.not_true, Bool.not_false, stepW, opE, intV, parV, boxE, loadE, partE, faddrE, fieldE, checkE, extractE, resultsE, resEs, resE, buildE, fillE, splice, if_true, if_false, Bool.false_eq_true, true_and, and_true, AV.cells, okA, oneA, fzs, fz, opTmp, Option.bind_some, Option.map_some, List.getElem?_cons_zero, List.getElem?_cons_succ, and_self, canonR, canon, canons, shift, shifts, pushAll, pushFrom, tys51, onceA, postU, hne, boolV]
end Go.Proofs.Ytenmbfplceeolaa

set_option linter.unusedVariables false
set_option linter.unusedSimpArgs false
set_option maxRecDepth 10000
namespace Go.Proofs.Ytenmbfplceeolaa
open Go Go.Tw Go.Proofs

theorem slices_Index (v : AV) (l : List Int) (x : List AV) (z : Int) (hv : RdSl v l.length (intsA l ++ x)) (hn : l.length ≤ 1000000000000) : FSpec Try.prog 107 [v, intV z] ⟨intV (idxI (fun n => decide (z = n)) l), []⟩ := by
  refine fspec_of_body follows Try.func107 (by unfold Try.f107; rfl) (by unfold Try.f107; simp) onceA (by unfold Try.f107; simp) (by kernel_rfl) ?_; unfold Try.f107
  have hpl := hv.plain
  simp only [↓pre, post, ↓reduceIte, Nat.reduceEqDiff, Nat.reduceAdd, Nat.reduceMul, Nat.reduceSub, Nat.reduceLeDiff, Nat.reduceMod, Nat.reduceDiv, reduceCtorEq, Nat.reduceLT, Nat.reduceGT, Nat.reduceBEq, Option.isSome_some, ne_eq, Int.reduceEq, not_false_eq_true, bin_quo, bin_rem, List.length_cons, List.length_nil, List.map_cons, List.map_nil, List.append_nil, List.cons_append, List.nil_append, List.take_succ_cons, List.take_zero, List.drop_succ_cons, List.drop_zero, Nat.zero_add, Nat.add_zero, Nat.zero_le, Nat.le_refl, decide_true, decide_false, Bool.not_true, Bool.not_false, stepW, opE, intV, parV, boxE, loadE, partE, faddrE, fieldE, checkE, extractE, resultsE, resEs, resE, buildE, fillE, splice, if_true, if_false, Bool.false_eq_true, true_and, and_true, AV.cells, okA, oneA, fzs, fz, opTmp, Option.bind_some, Option.map_some, List.getElem?_cons_zero, List.getElem?_cons_succ, and_self, canonR, canon, canons, shift, shifts, pushAll, pushFrom, tys107, onceA, postU, hv.len']
  rw [codeW_loop]
  refine loop_intro (fun n e m => ∃ i, n + i = l.length ∧ e 0 = v ∧ e 1 = intV z ∧ e 7 = intV (l.length : Nat) ∧ e 8 = intV (i : Nat) ∧ ∀ (j : Nat) (m : Int), j < i → l[j]? = some m → decide (z = m) = false) l.length ⟨0, by omega, ?_⟩ ?_
  · simp [Env.set, entryE, intV]
  · rintro n e m ⟨i, hi, e0, e1, e7, e8, hpre⟩
    replace hpre := Hid.mk hpre
    by_cases hlt : i < l.length
    · have hlt' : (i : Int) < (l.length : Nat) := by omega
      obtain ⟨a, ha⟩ : ∃ a, l[i]? = some a := ⟨_, List.getElem?_eq_getElem hlt⟩
      have a1 := int_at (x := x) ha
      have w1 := wrap_succ (n := i) (by omega)
      replace ha := Hid.mk ha
      by_cases hz : z = a
      · have hx := idxI_some (p := fun n => decide (z = n)) ha.out (decide_eq_true hz) hpre.out
        replace hz := Hid.mk hz
        have hz2 : decide (z = a) = true := decide_eq_true hz.out
        simp only [↓pre, post, ↓reduceIte, Nat.reduceEqDiff, Nat.reduceAdd, Nat.reduceMul, Nat.reduceSub, Nat.reduceLeDiff, Nat.reduceMod, Nat.reduceDiv, reduceCtorEq, Nat.reduceLT, Nat.reduceGT, Nat.reduceBEq, Option.isSome_some, ne_eq, Int.reduceEq, not_false_eq_true, bin_quo, bin_rem, List.length_cons, List.length_nil, List.map_cons, List.map_nil, List.append_nil, List.cons_append, List.nil_append, List.take_succ_cons, List.take_zero, List.drop_succ_cons, List.drop_zero, Nat.zero_add, Nat.add_zero, Nat.zero_le, Nat.le_refl, decide_true, decide_false, Bool.not_true, Bool.not_false, stepW, opE, intV, parV, boxE, loadE, partE, faddrE, fieldE, checkE, extractE, resultsE, resEs, resE, buildE, fillE, splice, if_true, if_false, Bool.false_eq_true, true_and, and_true, AV.cells, okA, oneA, fzs, fz, opTmp, Option.bind_some, Option.map_some, List.getElem?_cons_zero, List.getElem?_cons_succ, and_self, canonR, canon, canons, shift, shifts, pushAll, pushFrom, tys107, onceA, postU, e0, e1, e7, e8, hlt', hv.addr', hlt, Nat.mul_one, a1, w1, hz2, hx]
      · have hz2 : decide (z = a) = false := decide_eq_false hz
        simp only [↓pre, post, ↓reduceIte, Nat.reduceEqDiff, Nat.reduceAdd, Nat.reduceMul, Nat.reduceSub, Nat.reduceLeDiff, Nat.reduceMod, Nat.reduceDiv, reduceCtorEq, Nat.reduceLT, Nat.reduceGT, Nat.reduceBEq, Option.isSome_some, ne_eq, Int.reduceEq, not_false_eq_true, bin_quo, bin_rem, List.length_cons, List.length_nil, List.map_cons, List.map_nil, List.append_nil, List.cons_append, List.nil_append, List.take_succ_cons, List.take_zero, List.drop_succ_cons, List.drop_zero, Nat.zero_add, Nat.add_zero, Nat.zero_le, Nat.le_refl, decide_true, decide_false, Bool.not_true, Bool.not_false, stepW, opE, intV, parV, boxE, loadE, partE, faddrE, fieldE, checkE, extractE, resultsE, resEs, resE, buildE, fillE, splice, if_true, if_false, Bool.false_eq_true, true_and, and_true, AV.cells, okA, oneA, fzs, fz, opTmp, Option.bind_some, Option.map_some, List.getElem?_cons_zero, List.getElem?_cons_succ, and_self, canonR, canon, canons, shift, shifts, pushAll, pushFrom, tys107, onceA, postU, e0, e1, e7, e8, hlt', hv.addr', hlt, Nat.mul_one, a1, w1, hz2, cond_f]
        refine ⟨n - 1, by omega, i + 1, by omega, rfl, fun j m hj hm => ?_⟩
        by_cases hji : j = i
        · subst hji
          rw [ha.out] at hm
          cases hm
          exact hz2
        · exact hpre.out j m (by omega) hm
    · have hlt' : ¬ (i : Int) < (l.length : Nat) := by omega
      have hx := idxI_none (p := fun n => decide (z = n)) (l := l) fun j m hj => hpre.out j m (by have := (List.getElem?_eq_some_iff.1 hj).1; omega) hj
      simp only [↓pre, post, ↓reduceIte, Nat.reduceEqDiff, Nat.reduceAdd, Nat.reduceMul, Nat.reduceSub, Nat.reduceLeDiff, Nat.reduceMod, Nat.reduceDiv, reduceCtorEq, Nat.reduceLT, Nat.reduceGT, Nat.reduceBEq, Option.isSome_some, ne_eq, Int.reduceEq, not_false_eq_true, bin_quo, bin_rem, List.length_cons, List.length_nil, List.map_cons, List.map_nil, List.append_nil, List.cons_append, List.nil_append, List.take_succ_cons, List.take_zero, List.drop_succ_cons, List.drop_zero, Nat.zero_add, Nat.add_zero, Nat.zero_le, Nat.le_refl, decide_true, decide_false, Bool.not_true, Bool.not_false, stepW, opE, intV, parV, boxE, loadE, partE, faddrE, fieldE, checkE, extractE, resultsE, resEs, resE, buildE, fillE, splice, if_true, if_false, Bool.false_eq_true, true_and, and_true, AV.cells, okA, oneA, fzs, fz, opTmp, Option.bind_some, Option.map_some, List.getElem?_cons_zero, List.getElem?_cons_succ, and_self, canonR, canon, canons, shift, shifts, pushAll, pushFrom, tys107, onceA, postU, e0, e1, e7, e8, hlt', decide_false, cond_f, hx]
theorem slices_Contains (v : AV) (l : List Int) (x : List AV) (z : Int) (hv : RdSl v l.length (intsA l ++ x)) (hn : l.length ≤ 1000000000000) : FSpec Try.prog 79 [v, intV z] ⟨boolV (l.any fun n => decide (z = n)), []⟩ := by
  have h1 := slices_Index v l x z hv hn
  have h2 := idxI_any (fun n => decide (z = n)) l
  have hpl := hv.plain
  refine fspec_of_body follows Try.func79 (by unfold Try.f79; rfl) (by unfold Try.f79; simp) onceA (by unfold Try.f79; simp) (by kernel_rfl) ?_; unfold Try.f79
  simp only [↓pre, post, ↓reduceIte, Nat.reduceEqDiff, Nat.reduceAdd, Nat.reduceMul, Nat.reduceSub, Nat.reduceLeDiff, Nat.reduceMod, Nat.reduceDiv, reduceCtorEq, Nat.reduceLT, Nat.reduceGT, Nat.reduceBEq, Option.isSome_some, ne_eq, Int.reduceEq, not_false_eq_true, bin_quo, bin_rem, List.length_cons, List.length_nil, List.map_cons, List.map_nil, List.append_nil, List.cons_append, List.nil_append, List.take_succ_cons, List.take_zero, List.drop_succ_cons, List.drop_zero, Nat.zero_add, Nat.add_zero, Nat.zero_le, Nat.le_refl, decide_true, decide_false, Bool.not_true, Bool.not_false, stepW, opE, intV, parV, boxE, loadE, partE, faddrE, fieldE, checkE, extractE, resultsE, resEs, resE, buildE, fillE, splice, if_true, if_false, Bool.false_eq_true, true_and, and_true, AV.cells, okA, oneA, fzs, fz, opTmp, Option.bind_some, Option.map_some, List.getElem?_cons_zero, List.getElem?_cons_succ, and_self, canonR, canon, canons, shift, shifts, pushAll, pushFrom, tys79, onceA, boolV]
  (first | refine call_plain h1 (by simp only [plains, plain, hpl, intV, Bool.and_true, Bool.and_self]) ?_ | refine call_pure h1 (by simp only [plains, plain, hpl, intV, Bool.and_true, Bool.and_self]) (by intro k; first | rfl | simp only [shift, shifts, intV, boolV, *]) ?_)
  simp only [↓pre, post, ↓reduceIte, Nat.reduceEqDiff, Nat.reduceAdd, Nat.reduceMul, Nat.reduceSub, Nat.reduceLeDiff, Nat.reduceMod, Nat.reduceDiv, reduceCtorEq, Nat.reduceLT, Nat.reduceGT, Nat.reduceBEq, Option.isSome_some, ne_eq, Int.reduceEq, not_false_eq_true, bin_quo, bin_rem, List.length_cons, List.length_nil, List.map_cons, List.map_nil, List.append_nil, List.cons_append, List.nil_append, List.take_succ_cons, List.take_zero, List.drop_succ_cons, List.drop_zero, Nat.zero_add, Nat.add_zero, Nat.zero_le, Nat.le_refl, decide_true, decide_false, Bool.not_true, Bool.not_false, stepW, opE, intV, parV, boxE, loadE, partE, faddrE, fieldE, checkE, extractE, resultsE, resEs, resE, buildE, fillE, splice, if_true, if_false, Bool.false_eq_true, true_and, and_true, AV.cells, okA, oneA, fzs, fz, opTmp, Option.bind_some, Option.map_some, List.getElem?_cons_zero, List.getElem?_cons_succ, and_self, canonR, canon, canons, shift, shifts, pushAll, pushFrom, tys79, onceA, boolV, h2]
theorem cmp_nan (a : Int) : FSpec Try.prog 110 [intV a] ⟨boolV false, []⟩ := by
  refine fspec_of_body follows Try.func110 (by unfold Try.f110; rfl) (by unfold Try.f110; simp) onceA (by unfold Try.f110; simp) (by kernel_rfl) ?_; unfold Try.f110
  simp only [↓pre, post, ↓reduceIte, Nat.reduceEqDiff, Nat.reduceAdd, Nat.reduceMul, Nat.reduceSub, Nat.reduceLeDiff, Nat.reduceMod, Nat.reduceDiv, reduceCtorEq, Nat.reduceLT, Nat.reduceGT, Nat.reduceBEq, Option.isSome_some, ne_eq, Int.reduceEq, not_false_eq_true, bin_quo, bin_rem, List.length_cons, List.length_nil, List.map_cons, List.map_nil, List.append_nil, List.cons_append, List.nil_append, List.take_succ_cons, List.take_zero, List.drop_succ_cons, List.drop_zero, Nat.zero_add, Nat.add_zero, Nat.zero_le, Nat.le_refl, decide_true, decide_false, Bool.not_true, Bool.not_false, stepW, opE, intV, parV, boxE, loadE, partE, faddrE, fieldE, checkE, extractE, resultsE, resEs, resE, buildE, fillE, splice, if_true, if_false, Bool.false_eq_true, true_and, and_true, AV.cells, okA, oneA, fzs, fz, opTmp, Option.bind_some, Option.map_some, List.getElem?_cons_zero, List.getElem?_cons_succ, and_self, canonR, canon, canons, shift, shifts, pushAll, pushFrom, tys110, onceA, boolV, eq_self]
def cmpI (a b : Int) : Int := if a < b then -1 else if b < a then 1 else 0
theorem cmp_Compare (a b : Int) : FSpec Try.prog 82 [intV a, intV b] ⟨intV (cmpI a b), []⟩ := by
  refine fspec_of_body follows Try.func82 (by unfold Try.f82; rfl) (by unfold Try.f82; simp) onceA (by unfold Try.f82; simp) (by kernel_rfl) ?_; unfold Try.f82
  by_cases h1 : a < b
  · simp only [↓pre, post, ↓reduceIte, Nat.reduceEqDiff, Nat.reduceAdd, Nat.reduceMul, Nat.reduceSub, Nat.reduceLeDiff, Nat.reduceMod, Nat.reduceDiv, reduceCtorEq, Nat.reduceLT, Nat.reduceGT, Nat.reduceBEq, Option.isSome_some, ne_eq, Int.reduceEq, not_false_eq_true, bin_quo, bin_rem, List.length_cons, List.length_nil, List.map_cons, List.map_nil, List.append_nil, List.cons_append, List.nil_append, List.take_succ_cons, List.take_zero, List.drop_succ_cons, List.drop_zero, Nat.zero_add, Nat.add_zero, Nat.zero_le, Nat.le_refl, decide_true, decide_false, Bool.not_true, Bool.not_false, stepW, opE, intV, parV, boxE, loadE, partE, faddrE, fieldE, checkE, extractE, resultsE, resEs, resE, buildE, fillE, splice, if_true, if_false, Bool.false_eq_true, true_and, and_true, AV.cells, okA, oneA, fzs, fz, opTmp, Option.bind_some, Option.map_some, List.getElem?_cons_zero, List.getElem?_cons_succ, and_self, canonR, canon, canons, shift, shifts, pushAll, pushFrom, tys82, onceA, cmpI, boolV, h1, cond_f]
    (first | refine call_plain (cmp_nan a) (by first | rfl | simp only [plains, plain, Bool.and_true, Bool.and_self, *]) ?_ | refine call_pure (cmp_nan a) (by first | rfl | simp only [plains, plain, Bool.and_true, Bool.and_self, *]) (by intro k; first | rfl | simp only [shift, shifts, intV, boolV, *]) ?_); simp only [↓pre, post, ↓reduceIte, Nat.reduceEqDiff, Nat.reduceAdd, Nat.reduceMul, Nat.reduceSub, Nat.reduceLeDiff, Nat.reduceMod, Nat.reduceDiv, reduceCtorEq, Nat.reduceLT, Nat.reduceGT, Nat.reduceBEq, Option.isSome_some, ne_eq, Int.reduceEq, not_false_eq_true, bin_quo, bin_rem, List.length_cons, List.length_nil, List.map_cons, List.map_nil, List.append_nil, List.cons_append, List.nil_append, List.take_succ_cons, List.take_zero, List.drop_succ_cons, List.drop_zero, Nat.zero_add, Nat.add_zero, Nat.zero_le, Nat.le_refl, decide_true, decide_false, Bool.not_true, Bool.not_false, stepW, opE, intV, parV, boxE, loadE, partE, faddrE, fieldE, checkE, extractE, resultsE, resEs, resE, buildE, fillE, splice, if_true, if_false, Bool.false_eq_true, true_and, and_true, AV.cells, okA, oneA, fzs, fz, opTmp, Option.bind_some, Option.map_some, List.getElem?_cons_zero, List.getElem?_cons_succ, and_self, canonR, canon, canons, shift, shifts, pushAll, pushFrom, tys82, onceA, cmpI, boolV, h1, cond_f]; (first | refine call_plain (cmp_nan b) (by first | rfl | simp only [plains, plain, Bool.and_true, Bool.and_self, *]) ?_ | refine call_pure (cmp_nan b) (by first | rfl | simp only [plains, plain, Bool.and_true, Bool.and_self, *]) (by intro k; first | rfl | simp only [shift, shifts, intV, boolV, *]) ?_); simp only [↓pre, post, ↓reduceIte, Nat.reduceEqDiff, Nat.reduceAdd, Nat.reduceMul, Nat.reduceSub, Nat.reduceLeDiff, Nat.reduceMod, Nat.reduceDiv, reduceCtorEq, Nat.reduceLT, Nat.reduceGT, Nat.reduceBEq, Option.isSome_some, ne_eq, Int.reduceEq, not_false_eq_true, bin_quo, bin_rem, List.length_cons, List.length_nil, List.map_cons, List.map_nil, List.append_nil, List.cons_append, List.nil_append, List.take_succ_cons, List.take_zero, List.drop_succ_cons, List.drop_zero, Nat.zero_add, Nat.add_zero, Nat.zero_le, Nat.le_refl, decide_true, decide_false, Bool.not_true, Bool.not_false, stepW, opE, intV, parV, boxE, loadE, partE, faddrE, fieldE, checkE, extractE, resultsE, resEs, resE, buildE, fillE, splice, if_true, if_false, Bool.false_eq_true, true_and, and_true, AV.cells, okA, oneA, fzs, fz, opTmp, Option.bind_some, Option.map_some, List.getElem?_cons_zero, List.getElem?_cons_succ, and_self, canonR, canon, canons, shift, shifts, pushAll, pushFrom, tys82, onceA, cmpI, boolV, h1, cond_f]
  · by_cases h2 : b < a
    · simp only [↓pre, post, ↓reduceIte, Nat.reduceEqDiff, Nat.reduceAdd, Nat.reduceMul, Nat.reduceSub, Nat.reduceLeDiff, Nat.reduceMod, Nat.reduceDiv, reduceCtorEq, Nat.reduceLT, Nat.reduceGT, Nat.reduceBEq, Option.isSome_some, ne_eq, Int.reduceEq, not_false_eq_true, bin_quo, bin_rem, List.length_cons, List.length_nil, List.map_cons, List.map_nil, List.append_nil, List.cons_append, List.nil_append, List.take_succ_cons, List.take_zero, List.drop_succ_cons, List.drop_zero, Nat.zero_add, Nat.add_zero, Nat.zero_le, Nat.le_refl, decide_true, decide_false, Bool.not_true, Bool.not_false, stepW, opE, intV, parV, boxE, loadE, partE, faddrE, fieldE, checkE, extractE, resultsE, resEs, resE, buildE, fillE, splice, if_true, if_false, Bool.false_eq_true, true_and, and_true, AV.cells, okA, oneA, fzs, fz, opTmp, Option.bind_some, Option.map_some, List.getElem?_cons_zero, List.getElem?_cons_succ, and_self, canonR, canon, canons, shift, shifts, pushAll, pushFrom, tys82, onceA, cmpI, boolV, h1, h2, cond_f]
      (first | refine call_plain (cmp_nan a) (by first | rfl | simp only [plains, plain, Bool.and_true, Bool.and_self, *]) ?_ | refine call_pure (cmp_nan a) (by first | rfl | simp only [plains, plain, Bool.and_true, Bool.and_self, *]) (by intro k; first | rfl | simp only [shift, shifts, intV, boolV, *]) ?_); simp only [↓pre, post, ↓reduceIte, Nat.reduceEqDiff, Nat.reduceAdd, Nat.reduceMul, Nat.reduceSub, Nat.reduceLeDiff, Nat.reduceMod, Nat.reduceDiv, reduceCtorEq, Nat.reduceLT, Nat.reduceGT, Nat.reduceBEq, Option.isSome_some, ne_eq, Int.reduceEq, not_false_eq_true, bin_quo, bin_rem, List.length_cons, List.length_nil, List.map_cons, List.map_nil, List.append_nil, List.cons_append, List.nil_append, List.take_succ_cons, List.take_zero, List.drop_succ_cons, List.drop_zero, Nat.zero_add, Nat.add_zero, Nat.zero_le, Nat.le_refl, decide_true, decide_false, Bool.not_true, Bool.not_false, stepW, opE, intV, parV, boxE, loadE, partE, faddrE, fieldE, checkE, extractE, resultsE, resEs, resE, buildE, fillE, splice, if_true, if_false, Bool.false_eq_true, true_and, and_true, AV.cells, okA, oneA, fzs, fz, opTmp, Option.bind_some, Option.map_some, List.getElem?_cons_zero, List.getElem?_cons_succ, and_self, canonR, canon, canons, shift, shifts, pushAll, pushFrom, tys82, onceA, cmpI, boolV, h1, h2, cond_f]; (first | refine call_plain (cmp_nan b) (by first | rfl | simp only [plains, plain, Bool.and_true, Bool.and_self, *]) ?_ | refine call_pure (cmp_nan b) (by first | rfl | simp only [plains, plain, Bool.and_true, Bool.and_self, *]) (by intro k; first | rfl | simp only [shift, shifts, intV, boolV, *]) ?_); simp only [↓pre, post, ↓reduceIte, Nat.reduceEqDiff, Nat.reduceAdd, Nat.reduceMul, Nat.reduceSub, Nat.reduceLeDiff, Nat.reduceMod, Nat.reduceDiv, reduceCtorEq, Nat.reduceLT, Nat.reduceGT, Nat.reduceBEq, Option.isSome_some, ne_eq, Int.reduceEq, not_false_eq_true, bin_quo, bin_rem, List.length_cons, List.length_nil, List.map_cons, List.map_nil, List.append_nil, List.cons_append, List.nil_append, List.take_succ_cons, List.take_zero, List.drop_succ_cons, List.drop_zero, Nat.zero_add, Nat.add_zero, Nat.zero_le, Nat.le_refl, decide_true, decide_false, Bool.not_true, Bool.not_false, stepW, opE, intV, parV, boxE, loadE, partE, faddrE, fieldE, checkE, extractE, resultsE, resEs, resE, buildE, fillE, splice, if_true, if_false, Bool.false_eq_true, true_and, and_true, AV.cells, okA, oneA, fzs, fz, opTmp, Option.bind_some, Option.map_some, List.getElem?_cons_zero, List.getElem?_cons_succ, and_self, canonR, canon, canons, shift, shifts, pushAll, pushFrom, tys82, onceA, cmpI, boolV, h1, h2, cond_f]
    · simp only [↓pre, post, ↓reduceIte, Nat.reduceEqDiff, Nat.reduceAdd, Nat.reduceMul, Nat.reduceSub, Nat.reduceLeDiff, Nat.reduceMod, Nat.reduceDiv, reduceCtorEq, Nat.reduceLT, Nat.reduceGT, Nat.reduceBEq, Option.isSome_some, ne_eq, Int.reduceEq, not_false_eq_true, bin_quo, bin_rem, List.length_cons, List.length_nil, List.map_cons, List.map_nil, List.append_nil, List.cons_append, List.nil_append, List.take_succ_cons, List.take_zero, List.drop_succ_cons, List.drop_zero, Nat.zero_add, Nat.add_zero, Nat.zero_le, Nat.le_refl, decide_true, decide_false, Bool.not_true, Bool.not_false, stepW, opE, intV, parV, boxE, loadE, partE, faddrE, fieldE, checkE, extractE, resultsE, resEs, resE, buildE, fillE, splice, if_true, if_false, Bool.false_eq_true, true_and, and_true, AV.cells, okA, oneA, fzs, fz, opTmp, Option.bind_some, Option.map_some, List.getElem?_cons_zero, List.getElem?_cons_succ, and_self, canonR, canon, canons, shift, shifts, pushAll, pushFrom, tys82, onceA, cmpI, boolV, h1, h2, cond_f]
      (first | refine call_plain (cmp_nan a) (by first | rfl | simp only [plains, plain, Bool.and_true, Bool.and_self, *]) ?_ | refine call_pure (cmp_nan a) (by first | rfl | simp only [plains, plain, Bool.and_true, Bool.and_self, *]) (by intro k; first | rfl | simp only [shift, shifts, intV, boolV, *]) ?_); simp only [↓pre, post, ↓reduceIte, Nat.reduceEqDiff, Nat.reduceAdd, Nat.reduceMul, Nat.reduceSub, Nat.reduceLeDiff, Nat.reduceMod, Nat.reduceDiv, reduceCtorEq, Nat.reduceLT, Nat.reduceGT, Nat.reduceBEq, Option.isSome_some, ne_eq, Int.reduceEq, not_false_eq_true, bin_quo, bin_rem, List.length_cons, List.length_nil, List.map_cons, List.map_nil, List.append_nil, List.cons_append, List.nil_append, List.take_succ_cons, List.take_zero, List.drop_succ_cons, List.drop_zero, Nat.zero_add, Nat.add_zero, Nat.zero_le, Nat.le_refl, decide_true, decide_false, Bool.not_true, Bool.not_false, stepW, opE, intV, parV, boxE, loadE, partE, faddrE, fieldE, checkE, extractE, resultsE, resEs, resE, buildE, fillE, splice, if_true, if_false, Bool.false_eq_true, true_and, and_true, AV.cells, okA, oneA, fzs, fz, opTmp, Option.bind_some, Option.map_some, List.getElem?_cons_zero, List.getElem?_cons_succ, and_self, canonR, canon, canons, shift, shifts, pushAll, pushFrom, tys82, onceA, cmpI, boolV, h1, h2, cond_f]; (first | refine call_plain (cmp_nan b) (by first | rfl | simp only [plains, plain, Bool.and_true, Bool.and_self, *]) ?_ | refine call_pure (cmp_nan b) (by first | rfl | simp only [plains, plain, Bool.and_true, Bool.and_self, *]) (by intro k; first | rfl | simp only [shift, shifts, intV, boolV, *]) ?_); simp only [↓pre, post, ↓reduceIte, Nat.reduceEqDiff, Nat.reduceAdd, Nat.reduceMul, Nat.reduceSub, Nat.reduceLeDiff, Nat.reduceMod, Nat.reduceDiv, reduceCtorEq, Nat.reduceLT, Nat.reduceGT, Nat.reduceBEq, Option.isSome_some, ne_eq, Int.reduceEq, not_false_eq_true, bin_quo, bin_rem, List.length_cons, List.length_nil, List.map_cons, List.map_nil, List.append_nil, List.cons_append, List.nil_append, List.take_succ_cons, List.take_zero, List.drop_succ_cons, List.drop_zero, Nat.zero_add, Nat.add_zero, Nat.zero_le, Nat.le_refl, decide_true, decide_false, Bool.not_true, Bool.not_false, stepW, opE, intV, parV, boxE, loadE, partE, faddrE, fieldE, checkE, extractE, resultsE, resEs, resE, buildE, fillE, splice, if_true, if_false, Bool.false_eq_true, true_and, and_true, AV.cells, okA, oneA, fzs, fz, opTmp, Option.bind_some, Option.map_some, List.getElem?_cons_zero, List.getElem?_cons_succ, and_self, canonR, canon, canons, shift, shifts, pushAll, pushFrom, tys82, onceA, cmpI, boolV, h1, h2, cond_f]
end Go.Proofs.Ytenmbfplceeolaa

set_option linter.unusedVariables false
set_option linter.unusedSimpArgs false
set_option maxRecDepth 10000
namespace Go.Proofs.Ytenmbfplceeolaa
open Go Go.Tw Go.Proofs

theorem census_held1 (z kd ix ce st : Int) (vv dv : AV) : FSpec Try.prog 106 [intV z, .tptr 0 [.val (.int .u8 kd), intV ix, intV ce, intV st, vv, dv]] ⟨boolV (!decide (z = ce)), []⟩ := by
  refine fspec_of_body follows Try.func106 (by unfold Try.f106; rfl) (by unfold Try.f106; simp) onceA (by unfold Try.f106; simp) (by kernel_rfl) ?_; unfold Try.f106
  simp only [↓pre, post, ↓reduceIte, Nat.reduceEqDiff, Nat.reduceAdd, Nat.reduceMul, Nat.reduceSub, Nat.reduceLeDiff, Nat.reduceMod, Nat.reduceDiv, reduceCtorEq, Nat.reduceLT, Nat.reduceGT, Nat.reduceBEq, Option.isSome_some, ne_eq, Int.reduceEq, not_false_eq_true, bin_quo, bin_rem, List.length_cons, List.length_nil, List.map_cons, List.map_nil, List.append_nil, List.cons_append, List.nil_append, List.take_succ_cons, List.take_zero, List.drop_succ_cons, List.drop_zero, Nat.zero_add, Nat.add_zero, Nat.zero_le, Nat.le_refl, decide_true, decide_false, Bool.not_true, Bool.not_false, stepW, opE, intV, parV, boxE, loadE, partE, faddrE, fieldE, checkE, extractE, resultsE, resEs, resE, buildE, fillE, splice, if_true, if_false, Bool.false_eq_true, true_and, and_true, AV.cells, okA, oneA, fzs, fz, opTmp, Option.bind_some, Option.map_some, List.getElem?_cons_zero, List.getElem?_cons_succ, and_self, canonR, canon, canons, shift, shifts, pushAll, pushFrom, tys106, onceA, boolV]
theorem census_tallies1 (a b : Int) (c d : AV) (n n' : Nat) (y y' : List AV) (hc : RdSl c n y) (hd : RdSl d n' y') : FSpec Try.prog 81 [.agg [intV a, c], .agg [intV b, d]] ⟨intV (cmpI b a), []⟩ := by
  have f1 := rd_fz hc
  have f2 := rd_fz hd
  have o1 := rd_one hc
  have o2 := rd_one hd
  refine fspec_of_body follows Try.func81 (by unfold Try.f81; rfl) (by unfold Try.f81; simp) onceA (by unfold Try.f81; simp) (by kernel_rfl) ?_; unfold Try.f81
  simp only [↓pre, post, ↓reduceIte, Nat.reduceEqDiff, Nat.reduceAdd, Nat.reduceMul, Nat.reduceSub, Nat.reduceLeDiff, Nat.reduceMod, Nat.reduceDiv, reduceCtorEq, Nat.reduceLT, Nat.reduceGT, Nat.reduceBEq, Option.isSome_some, ne_eq, Int.reduceEq, not_false_eq_true, bin_quo, bin_rem, List.length_cons, List.length_nil, List.map_cons, List.map_nil, List.append_nil, List.cons_append, List.nil_append, List.take_succ_cons, List.take_zero, List.drop_succ_cons, List.drop_zero, Nat.zero_add, Nat.add_zero, Nat.zero_le, Nat.le_refl, decide_true, decide_false, Bool.not_true, Bool.not_false, stepW, opE, intV, parV, boxE, loadE, partE, faddrE, fieldE, checkE, extractE, resultsE, resEs, resE, buildE, fillE, splice, if_true, if_false, Bool.false_eq_true, true_and, and_true, AV.cells, okA, oneA, fzs, fz, opTmp, Option.bind_some, Option.map_some, List.getElem?_cons_zero, List.getElem?_cons_succ, and_self, canonR, canon, canons, shift, shifts, pushAll, pushFrom, tys81, onceA, f1, f2, o1, o2]
  (first | refine call_plain (cmp_Compare b a) (by first | rfl | simp only [plains, plain, Bool.and_true, Bool.and_self, *]) ?_ | refine call_pure (cmp_Compare b a) (by first | rfl | simp only [plains, plain, Bool.and_true, Bool.and_self, *]) (by intro k; first | rfl | simp only [shift, shifts, intV, boolV, *]) ?_); simp only [↓pre, post, ↓reduceIte, Nat.reduceEqDiff, Nat.reduceAdd, Nat.reduceMul, Nat.reduceSub, Nat.reduceLeDiff, Nat.reduceMod, Nat.reduceDiv, reduceCtorEq, Nat.reduceLT, Nat.reduceGT, Nat.reduceBEq, Option.isSome_some, ne_eq, Int.reduceEq, not_false_eq_true, bin_quo, bin_rem, List.length_cons, List.length_nil, List.map_cons, List.map_nil, List.append_nil, List.cons_append, List.nil_append, List.take_succ_cons, List.take_zero, List.drop_succ_cons, List.drop_zero, Nat.zero_add, Nat.add_zero, Nat.zero_le, Nat.le_refl, decide_true, decide_false, Bool.not_true, Bool.not_false, stepW, opE, intV, parV, boxE, loadE, partE, faddrE, fieldE, checkE, extractE, resultsE, resEs, resE, buildE, fillE, splice, if_true, if_false, Bool.false_eq_true, true_and, and_true, AV.cells, okA, oneA, fzs, fz, opTmp, Option.bind_some, Option.map_some, List.getElem?_cons_zero, List.getElem?_cons_succ, and_self, canonR, canon, canons, shift, shifts, pushAll, pushFrom, tys81, onceA, f1, f2, o1, o2]
end Go.Proofs.Ytenmbfplceeolaa

set_option linter.unusedVariables false
set_option linter.unusedSimpArgs false
set_option maxRecDepth 10000
namespace Go.Proofs.Ytenmbfplceeolaa
open Go Go.Tw Go.Proofs

def once4 : Nat → Bool := fun d => d != 4
def slot0 : AV := slotV 0 0 0 0 nilS nilS
/-- what Parse says of bytes that are no slot's, by length alone -/
theorem slot_Parse_not (k r c w : Int) (v : AV) (bs : List UInt8) (x : List AV) (hv : RdSl v bs.length (bytesA bs ++ x)) (hm : mayB k r c w = false) : FSpec Try.prog 104 [parV k r c w, v] ⟨.tup [slot0, boolV false, intV 2], []⟩ := by
  have hp := hv.plain
  refine fspec_of_body follows Try.func104 (by unfold Try.f104; rfl) (by unfold Try.f104; simp) once4 (by unfold Try.f104; simp) (by kernel_rfl) ?_; unfold Try.f104
  simp only [↓pre, post, ↓reduceIte, Nat.reduceEqDiff, Nat.reduceAdd, Nat.reduceMul, Nat.reduceSub, Nat.reduceLeDiff, Nat.reduceMod, Nat.reduceDiv, reduceCtorEq, Nat.reduceLT, Nat.reduceGT, Nat.reduceBEq, Option.isSome_some, ne_eq, Int.reduceEq, not_false_eq_true, bin_quo, bin_rem, List.length_cons, List.length_nil, List.map_cons, List.map_nil, List.append_nil, List.cons_append, List.nil_append, List.take_succ_cons, List.take_zero, List.drop_succ_cons, List.drop_zero, Nat.zero_add, Nat.add_zero, Nat.zero_le, Nat.le_refl, decide_true, decide_false, Bool.not_true, Bool.not_false, stepW, opE, intV, parV, boxE, loadE, partE, faddrE, fieldE, checkE, extractE, resultsE, resEs, resE, buildE, fillE, splice, if_true, if_false, Bool.false_eq_true, true_and, and_true, AV.cells, okA, oneA, fzs, fz, opTmp, Option.bind_some, Option.map_some, List.getElem?_cons_zero, List.getElem?_cons_succ, and_self, canonR, canon, canons, shift, shifts, pushAll, pushFrom, tys104, once4, Option.getD_some, bne, Nat.reduceBNe, postU, postV, allocE, storeE, eq_self, put_at, push_at]
  (first | refine call_plain (slot_Size k r c w) (by first | rfl | simp only [plains, plain, Bool.and_true, Bool.and_self, *]) ?_ | refine call_pure (slot_Size k r c w) (by first | rfl | simp only [plains, plain, Bool.and_true, Bool.and_self, *]) (by intro k; first | rfl | simp only [shift, shifts, intV, boolV, *]) ?_); simp only [↓pre, post, ↓reduceIte, Nat.reduceEqDiff, Nat.reduceAdd, Nat.reduceMul, Nat.reduceSub, Nat.reduceLeDiff, Nat.reduceMod, Nat.reduceDiv, reduceCtorEq, Nat.reduceLT, Nat.reduceGT, Nat.reduceBEq, Option.isSome_some, ne_eq, Int.reduceEq, not_false_eq_true, bin_quo, bin_rem, List.length_cons, List.length_nil, List.map_cons, List.map_nil, List.append_nil, List.cons_append, List.nil_append, List.take_succ_cons, List.take_zero, List.drop_succ_cons, List.drop_zero, Nat.zero_add, Nat.add_zero, Nat.zero_le, Nat.le_refl, decide_true, decide_false, Bool.not_true, Bool.not_false, stepW, opE, intV, parV, boxE, loadE, partE, faddrE, fieldE, checkE, extractE, resultsE, resEs, resE, buildE, fillE, splice, if_true, if_false, Bool.false_eq_true, true_and, and_true, AV.cells, okA, oneA, fzs, fz, opTmp, Option.bind_some, Option.map_some, List.getElem?_cons_zero, List.getElem?_cons_succ, and_self, canonR, canon, canons, shift, shifts, pushAll, pushFrom, tys104, once4, Option.getD_some, bne, Nat.reduceBNe, postU, postV, allocE, storeE, eq_self, put_at, push_at, hm, Bool.false_eq_true]
  rfl
theorem slot_Parse_nil (k r c w : Int) (v : AV) (bs : List UInt8) (x : List AV) (hv : RdSl v bs.length (bytesA bs ++ x)) (hm : mayB k r c w = true) (hb : (bs.length : Int) = 0) : FSpec Try.prog 104 [parV k r c w, v] ⟨.tup [slot0, boolV false, intV 0], []⟩ := by
  have hp := hv.plain
  refine fspec_of_body follows Try.func104 (by unfold Try.f104; rfl) (by unfold Try.f104; simp) once4 (by unfold Try.f104; simp) (by kernel_rfl) ?_; unfold Try.f104
  simp only [↓pre, post, ↓reduceIte, Nat.reduceEqDiff, Nat.reduceAdd, Nat.reduceMul, Nat.reduceSub, Nat.reduceLeDiff, Nat.reduceMod, Nat.reduceDiv, reduceCtorEq, Nat.reduceLT, Nat.reduceGT, Nat.reduceBEq, Option.isSome_some, ne_eq, Int.reduceEq, not_false_eq_true, bin_quo, bin_rem, List.length_cons, List.length_nil, List.map_cons, List.map_nil, List.append_nil, List.cons_append, List.nil_append, List.take_succ_cons, List.take_zero, List.drop_succ_cons, List.drop_zero, Nat.zero_add, Nat.add_zero, Nat.zero_le, Nat.le_refl, decide_true, decide_false, Bool.not_true, Bool.not_false, stepW, opE, intV, parV, boxE, loadE, partE, faddrE, fieldE, checkE, extractE, resultsE, resEs, resE, buildE, fillE, splice, if_true, if_false, Bool.false_eq_true, true_and, and_true, AV.cells, okA, oneA, fzs, fz, opTmp, Option.bind_some, Option.map_some, List.getElem?_cons_zero, List.getElem?_cons_succ, and_self, canonR, canon, canons, shift, shifts, pushAll, pushFrom, tys104, once4, Option.getD_some, bne, Nat.reduceBNe, postU, postV, allocE, storeE, eq_self, put_at, push_at]
  (first | refine call_plain (slot_Size k r c w) (by first | rfl | simp only [plains, plain, Bool.and_true, Bool.and_self, *]) ?_ | refine call_pure (slot_Size k r c w) (by first | rfl | simp only [plains, plain, Bool.and_true, Bool.and_self, *]) (by intro k; first | rfl | simp only [shift, shifts, intV, boolV, *]) ?_); simp only [↓pre, post, ↓reduceIte, Nat.reduceEqDiff, Nat.reduceAdd, Nat.reduceMul, Nat.reduceSub, Nat.reduceLeDiff, Nat.reduceMod, Nat.reduceDiv, reduceCtorEq, Nat.reduceLT, Nat.reduceGT, Nat.reduceBEq, Option.isSome_some, ne_eq, Int.reduceEq, not_false_eq_true, bin_quo, bin_rem, List.length_cons, List.length_nil, List.map_cons, List.map_nil, List.append_nil, List.cons_append, List.nil_append, List.take_succ_cons, List.take_zero, List.drop_succ_cons, List.drop_zero, Nat.zero_add, Nat.add_zero, Nat.zero_le, Nat.le_refl, decide_true, decide_false, Bool.not_true, Bool.not_false, stepW, opE, intV, parV, boxE, loadE, partE, faddrE, fieldE, checkE, extractE, resultsE, resEs, resE, buildE, fillE, splice, if_true, if_false, Bool.false_eq_true, true_and, and_true, AV.cells, okA, oneA, fzs, fz, opTmp, Option.bind_some, Option.map_some, List.getElem?_cons_zero, List.getElem?_cons_succ, and_self, canonR, canon, canons, shift, shifts, pushAll, pushFrom, tys104, once4, Option.getD_some, bne, Nat.reduceBNe, postU, postV, allocE, storeE, eq_self, put_at, push_at, hm, hv.len', hb]
  rfl
theorem slot_Parse_len (k r c w : Int) (v : AV) (bs : List UInt8) (x : List AV) (hv : RdSl v bs.length (bytesA bs ++ x)) (hm : mayB k r c w = true) (hb : ¬ (bs.length : Int) = 0) (hb2 : ¬ (bs.length : Int) = sizeI k r c) : FSpec Try.prog 104 [parV k r c w, v] ⟨.tup [slot0, boolV false, intV 100], []⟩ := by
  have hp := hv.plain
  refine fspec_of_body follows Try.func104 (by unfold Try.f104; rfl) (by unfold Try.f104; simp) once4 (by unfold Try.f104; simp) (by kernel_rfl) ?_; unfold Try.f104
  simp only [↓pre, post, ↓reduceIte, Nat.reduceEqDiff, Nat.reduceAdd, Nat.reduceMul, Nat.reduceSub, Nat.reduceLeDiff, Nat.reduceMod, Nat.reduceDiv, reduceCtorEq, Nat.reduceLT, Nat.reduceGT, Nat.reduceBEq, Option.isSome_some, ne_eq, Int.reduceEq, not_false_eq_true, bin_quo, bin_rem, List.length_cons, List.length_nil, List.map_cons, List.map_nil, List.append_nil, List.cons_append, List.nil_append, List.take_succ_cons, List.take_zero, List.drop_succ_cons, List.drop_zero, Nat.zero_add, Nat.add_zero, Nat.zero_le, Nat.le_refl, decide_true, decide_false, Bool.not_true, Bool.not_false, stepW, opE, intV, parV, boxE, loadE, partE, faddrE, fieldE, checkE, extractE, resultsE, resEs, resE, buildE, fillE, splice, if_true, if_false, Bool.false_eq_true, true_and, and_true, AV.cells, okA, oneA, fzs, fz, opTmp, Option.bind_some, Option.map_some, List.getElem?_cons_zero, List.getElem?_cons_succ, and_self, canonR, canon, canons, shift, shifts, pushAll, pushFrom, tys104, once4, Option.getD_some, bne, Nat.reduceBNe, postU, postV, allocE, storeE, eq_self, put_at, push_at]
  (first | refine call_plain (slot_Size k r c w) (by first | rfl | simp only [plains, plain, Bool.and_true, Bool.and_self, *]) ?_ | refine call_pure (slot_Size k r c w) (by first | rfl | simp only [plains, plain, Bool.and_true, Bool.and_self, *]) (by intro k; first | rfl | simp only [shift, shifts, intV, boolV, *]) ?_); simp only [↓pre, post, ↓reduceIte, Nat.reduceEqDiff, Nat.reduceAdd, Nat.reduceMul, Nat.reduceSub, Nat.reduceLeDiff, Nat.reduceMod, Nat.reduceDiv, reduceCtorEq, Nat.reduceLT, Nat.reduceGT, Nat.reduceBEq, Option.isSome_some, ne_eq, Int.reduceEq, not_false_eq_true, bin_quo, bin_rem, List.length_cons, List.length_nil, List.map_cons, List.map_nil, List.append_nil, List.cons_append, List.nil_append, List.take_succ_cons, List.take_zero, List.drop_succ_cons, List.drop_zero, Nat.zero_add, Nat.add_zero, Nat.zero_le, Nat.le_refl, decide_true, decide_false, Bool.not_true, Bool.not_false, stepW, opE, intV, parV, boxE, loadE, partE, faddrE, fieldE, checkE, extractE, resultsE, resEs, resE, buildE, fillE, splice, if_true, if_false, Bool.false_eq_true, true_and, and_true, AV.cells, okA, oneA, fzs, fz, opTmp, Option.bind_some, Option.map_some, List.getElem?_cons_zero, List.getElem?_cons_succ, and_self, canonR, canon, canons, shift, shifts, pushAll, pushFrom, tys104, once4, Option.getD_some, bne, Nat.reduceBNe, postU, postV, allocE, storeE, eq_self, put_at, push_at, hm, hv.len', hb, hb2]
  rfl
theorem slot_Parse_magic (k r c w : Int) (v : AV) (bs : List UInt8) (x : List AV) (hv : RdSl v bs.length (bytesA bs ++ x)) (hm : mayB k r c w = true) (hb2 : (bs.length : Int) = sizeI k r c) {a b : UInt8} (ha : bs[0]? = some a) (hb : bs[1]? = some b) (hne : ¬ ((a.toNat : Int) = 84 ∧ (b.toNat : Int) = 50)) : FSpec Try.prog 104 [parV k r c w, v] ⟨.tup [slot0, boolV false, intV 0], []⟩ := by
  have hp := hv.plain
  have hmn := may_n hm
  have a0 := byte_at (x := x) ha
  have a1 := byte_at (x := x) hb
  have l0 : 0 < bs.length := by unfold sizeI at hb2; omega
  have l1 : 1 < bs.length := by unfold sizeI at hb2; omega
  have hb1 : ¬ sizeI k r c = 0 := by rw [← hb2]; omega
  replace hmn := Hid.mk hmn
  refine fspec_of_body follows Try.func104 (by unfold Try.f104; rfl) (by unfold Try.f104; simp) once4 (by unfold Try.f104; simp) (by kernel_rfl) ?_; unfold Try.f104
  simp only [↓pre, post, ↓reduceIte, Nat.reduceEqDiff, Nat.reduceAdd, Nat.reduceMul, Nat.reduceSub, Nat.reduceLeDiff, Nat.reduceMod, Nat.reduceDiv, reduceCtorEq, Nat.reduceLT, Nat.reduceGT, Nat.reduceBEq, Option.isSome_some, ne_eq, Int.reduceEq, not_false_eq_true, bin_quo, bin_rem, List.length_cons, List.length_nil, List.map_cons, List.map_nil, List.append_nil, List.cons_append, List.nil_append, List.take_succ_cons, List.take_zero, List.drop_succ_cons, List.drop_zero, Nat.zero_add, Nat.add_zero, Nat.zero_le, Nat.le_refl, decide_true, decide_false, Bool.not_true, Bool.not_false, stepW, opE, intV, parV, boxE, loadE, partE, faddrE, fieldE, checkE, extractE, resultsE, resEs, resE, buildE, fillE, splice, if_true, if_false, Bool.false_eq_true, true_and, and_true, AV.cells, okA, oneA, fzs, fz, opTmp, Option.bind_some, Option.map_some, List.getElem?_cons_zero, List.getElem?_cons_succ, and_self, canonR, canon, canons, shift, shifts, pushAll, pushFrom, tys104, once4, Option.getD_some, bne, Nat.reduceBNe, postU, postV, allocE, storeE, eq_self, put_at, push_at]
  by_cases h1 : (a.toNat : Int) = 84
  · have h2 : ¬ (b.toNat : Int) = 50 := fun h => hne ⟨h1, h⟩
    (first | refine call_plain (slot_Size k r c w) (by first | rfl | simp only [plains, plain, Bool.and_true, Bool.and_self, *]) ?_ | refine call_pure (slot_Size k r c w) (by first | rfl | simp only [plains, plain, Bool.and_true, Bool.and_self, *]) (by intro k; first | rfl | simp only [shift, shifts, intV, boolV, *]) ?_); simp only [↓pre, post, ↓reduceIte, Nat.reduceEqDiff, Nat.reduceAdd, Nat.reduceMul, Nat.reduceSub, Nat.reduceLeDiff, Nat.reduceMod, Nat.reduceDiv, reduceCtorEq, Nat.reduceLT, Nat.reduceGT, Nat.reduceBEq, Option.isSome_some, ne_eq, Int.reduceEq, not_false_eq_true, bin_quo, bin_rem, List.length_cons, List.length_nil, List.map_cons, List.map_nil, List.append_nil, List.cons_append, List.nil_append, List.take_succ_cons, List.take_zero, List.drop_succ_cons, List.drop_zero, Nat.zero_add, Nat.add_zero, Nat.zero_le, Nat.le_refl, decide_true, decide_false, Bool.not_true, Bool.not_false, stepW, opE, intV, parV, boxE, loadE, partE, faddrE, fieldE, checkE, extractE, resultsE, resEs, resE, buildE, fillE, splice, if_true, if_false, Bool.false_eq_true, true_and, and_true, AV.cells, okA, oneA, fzs, fz, opTmp, Option.bind_some, Option.map_some, List.getElem?_cons_zero, List.getElem?_cons_succ, and_self, canonR, canon, canons, shift, shifts, pushAll, pushFrom, tys104, once4, Option.getD_some, bne, Nat.reduceBNe, postU, postV, allocE, storeE, eq_self, put_at, push_at, hm, hv.len', hb2, hb1, hv.addr', l0, l1, Nat.mul_one, a0, a1, h1, h2]
    rfl
  · (first | refine call_plain (slot_Size k r c w) (by first | rfl | simp only [plains, plain, Bool.and_true, Bool.and_self, *]) ?_ | refine call_pure (slot_Size k r c w) (by first | rfl | simp only [plains, plain, Bool.and_true, Bool.and_self, *]) (by intro k; first | rfl | simp only [shift, shifts, intV, boolV, *]) ?_); simp only [↓pre, post, ↓reduceIte, Nat.reduceEqDiff, Nat.reduceAdd, Nat.reduceMul, Nat.reduceSub, Nat.reduceLeDiff, Nat.reduceMod, Nat.reduceDiv, reduceCtorEq, Nat.reduceLT, Nat.reduceGT, Nat.reduceBEq, Option.isSome_some, ne_eq, Int.reduceEq, not_false_eq_true, bin_quo, bin_rem, List.length_cons, List.length_nil, List.map_cons, List.map_nil, List.append_nil, List.cons_append, List.nil_append, List.take_succ_cons, List.take_zero, List.drop_succ_cons, List.drop_zero, Nat.zero_add, Nat.add_zero, Nat.zero_le, Nat.le_refl, decide_true, decide_false, Bool.not_true, Bool.not_false, stepW, opE, intV, parV, boxE, loadE, partE, faddrE, fieldE, checkE, extractE, resultsE, resEs, resE, buildE, fillE, splice, if_true, if_false, Bool.false_eq_true, true_and, and_true, AV.cells, okA, oneA, fzs, fz, opTmp, Option.bind_some, Option.map_some, List.getElem?_cons_zero, List.getElem?_cons_succ, and_self, canonR, canon, canons, shift, shifts, pushAll, pushFrom, tys104, once4, Option.getD_some, bne, Nat.reduceBNe, postU, postV, allocE, storeE, eq_self, put_at, push_at, hm, hv.len', hb2, hb1, hv.addr', l0, l1, Nat.mul_one, a0, a1, h1]
    rfl
end Go.Proofs.Ytenmbfplceeolaa

set_option linter.unusedVariables false
set_option linter.unusedSimpArgs false
set_option maxRecDepth 10000
namespace Go.Proofs.Ytenmbfplceeolaa
open Go Go.Tw Go.Proofs

/-- the number that starts at a byte -/
def numAt (bs : List UInt8) (o : Nat) : Int := ((beN ((bs.drop o).take 4) : Nat) : Int)
def numsI (bs : List UInt8) (n : Nat) : List Int := (List.range n).map fun j => numAt bs (12 + 4 * j)
theorem numsI_succ (bs : List UInt8) (n : Nat) : numsI bs (n + 1) = numsI bs n ++ [numAt bs (12 + 4 * n)] := by simp [numsI, List.range_succ]
theorem numsI_len (bs : List UInt8) (n : Nat) : (numsI bs n).length = n := by simp [numsI]
theorem intsA_append (a b : List Int) : intsA (a ++ b) = intsA a ++ intsA b := by simp [intsA]

def parseR (kd ix : Int) (bs : List UInt8) (N C : Nat) : Bool → Res
  | true => ⟨.tup [slotV kd ix (numAt bs 4) (numAt bs 8) (.sl 0 0 N N false) (.sl 1 0 C C false), boolV true, intV 0], [(3, intsA (numsI bs N)), (5, bytesA (bs.drop (12 + 4 * N)))]⟩
  | false => ⟨.tup [slot0, boolV false, intV 0], []⟩
theorem slot_Parse_main (k r c w : Int) (v : AV) (bs : List UInt8) (x : List AV) (hv : RdSl v bs.length (bytesA bs ++ x)) (hm : mayB k r c w = true) (hb2 : (bs.length : Int) = sizeI k r c) {a2 a3 : UInt8} (h0 : bs[0]? = some 84) (h1 : bs[1]? = some 50) (h2 : bs[2]? = some a2) (h3 : bs[3]? = some a3) : FSpec Try.prog 104 [parV k r c w, v] (parseR a2.toNat a3.toNat bs (k + r).toNat c.toNat (mayS k r c w a2.toNat a3.toNat (numAt bs 4) (numAt bs 8) (numsI bs (k + r).toNat) c.toNat)) := by
  have hp := hv.plain
  have hmn := may_n hm
  have b0 := byte_at (x := x) h0
  have b1 := byte_at (x := x) h1
  have b2 := byte_at (x := x) h2
  have b3 := byte_at (x := x) h3
  have l12 : 12 ≤ bs.length := by unfold sizeI at hb2; omega
  have l0 : 0 < bs.length := by omega
  have l1 : 1 < bs.length := by omega
  have l2 : 2 < bs.length := by omega
  have l3 : 3 < bs.length := by omega
  have hb1 : ¬ sizeI k r c = 0 := by rw [← hb2]; omega
  have c84 : (((84 : UInt8).toNat : Nat) : Int) = 84 := rfl
  have c50 : (((50 : UInt8).toNat : Nat) : Int) = 50 := rfl
  have w5 : IntKind.i64.wrap (a3.toNat : Int) = (a3.toNat : Int) := wrap_nat (by have := a3.toNat_lt; omega)
  have nt4 : natOf (.val (.int .i64 4)) = some 4 := rfl
  replace hmn := Hid.mk hmn
  replace l12 := Hid.mk l12
  obtain ⟨v1, s1, r1⟩ := hv.slice (P := Try.prog) (t := 29) (sz := 1) (lo := some 4) (hi := none) (by kernel_rfl) (by have := l12.out; simp only [Option.getD_some, Option.getD_none]; omega) (by simp)
  simp only [Option.getD_some, Option.getD_none, Nat.mul_one] at r1
  rw [bytesA_drop bs x 4 (by have := l12.out; omega), ← List.length_drop] at r1
  obtain ⟨v2, r2, t1⟩ := slot_take v1 (bs.drop 4) x r1 (by have := l12.out; rw [List.length_drop]; omega)
  obtain ⟨v3, r3, t2⟩ := slot_take v2 ((bs.drop 4).drop 4) x r2 (by have := l12.out; simp only [List.length_drop]; omega)
  have p1 := r1.plain
  have p2 := r2.plain
  have sh1 := rd_shift r1
  have sh2 := rd_shift r2
  have sh3 := rd_shift r3
  rw [List.drop_drop, List.drop_drop] at r3
  obtain ⟨N, hN⟩ : ∃ N : Nat, k + r = (N : Int) := ⟨(k + r).toNat, by have := hmn.out; omega⟩
  obtain ⟨C, hC⟩ : ∃ C : Nat, c = (C : Int) := ⟨c.toNat, by have := hmn.out; omega⟩
  have hNN : (k + r).toNat = N := by omega
  have hCC : c.toNat = C := by omega
  rw [hNN, hCC]
  generalize hres : parseR _ _ _ _ _ _ = res
  have hlen : bs.length = 12 + 4 * N + C := by unfold sizeI at hb2; omega
  have hN16 : N ≤ 16 ∧ 1 ≤ N ∧ 8 ≤ C ∧ C ≤ 64 := by have := hmn.out; omega
  replace hlen := Hid.mk hlen
  replace hN := Hid.mk hN
  replace hN16 := Hid.mk hN16
  have bt0 : ∀ m, buildTreeE Try.prog m 29 0 [] = some ⟨.tree 0 0 [] true, m, none⟩ := fun m => buildT_of (el := 5) (sz := 1) (z := []) (by kernel_rfl) (by kernel_rfl) (by kernel_rfl) rfl rfl (by decide)
  refine fspec_of_body follows Try.func104 (by unfold Try.f104; rfl) (by unfold Try.f104; simp) once4 (by unfold Try.f104; simp) (by kernel_rfl) ?_; unfold Try.f104
  simp only [↓pre, post, ↓reduceIte, Nat.reduceEqDiff, Nat.reduceAdd, Nat.reduceMul, Nat.reduceSub, Nat.reduceLeDiff, Nat.reduceMod, Nat.reduceDiv, reduceCtorEq, Nat.reduceLT, Nat.reduceGT, Nat.reduceBEq, Option.isSome_some, ne_eq, Int.reduceEq, not_false_eq_true, bin_quo, bin_rem, List.length_cons, List.length_nil, List.map_cons, List.map_nil, List.append_nil, List.cons_append, List.nil_append, List.take_succ_cons, List.take_zero, List.drop_succ_cons, List.drop_zero, Nat.zero_add, Nat.add_zero, Nat.zero_le, Nat.le_refl, decide_true, decide_false, Bool.not_true, Bool.not_false, stepW, opE, intV, parV, boxE, loadE, partE, faddrE, fieldE, checkE, extractE, resultsE, resEs, resE, buildE, fillE, splice, if_true, if_false, Bool.false_eq_true, true_and, and_true, AV.cells, okA, oneA, fzs, fz, opTmp, Option.bind_some, Option.map_some, List.getElem?_cons_zero, List.getElem?_cons_succ, and_self, canonR, canon, canons, shift, shifts, pushAll, pushFrom, tys104, once4, Option.getD_some, Option.getD_none, bne, Nat.reduceBNe, postU, postV, allocE, storeE, eq_self, put_at, push_at, Option.map_none, Option.map_some, optNat]
  (first | refine call_plain (slot_Size k r c w) (by first | rfl | simp only [plains, plain, Bool.and_true, Bool.and_self, *]) ?_ | refine call_pure (slot_Size k r c w) (by first | rfl | simp only [plains, plain, Bool.and_true, Bool.and_self, *]) (by intro k; first | rfl | simp only [shift, shifts, intV, boolV, *]) ?_); simp only [↓pre, post, ↓reduceIte, Nat.reduceEqDiff, Nat.reduceAdd, Nat.reduceMul, Nat.reduceSub, Nat.reduceLeDiff, Nat.reduceMod, Nat.reduceDiv, reduceCtorEq, Nat.reduceLT, Nat.reduceGT, Nat.reduceBEq, Option.isSome_some, ne_eq, Int.reduceEq, not_false_eq_true, bin_quo, bin_rem, List.length_cons, List.length_nil, List.map_cons, List.map_nil, List.append_nil, List.cons_append, List.nil_append, List.take_succ_cons, List.take_zero, List.drop_succ_cons, List.drop_zero, Nat.zero_add, Nat.add_zero, Nat.zero_le, Nat.le_refl, decide_true, decide_false, Bool.not_true, Bool.not_false, stepW, opE, intV, parV, boxE, loadE, partE, faddrE, fieldE, checkE, extractE, resultsE, resEs, resE, buildE, fillE, splice, if_true, if_false, Bool.false_eq_true, true_and, and_true, AV.cells, okA, oneA, fzs, fz, opTmp, Option.bind_some, Option.map_some, List.getElem?_cons_zero, List.getElem?_cons_succ, and_self, canonR, canon, canons, shift, shifts, pushAll, pushFrom, tys104, once4, Option.getD_some, Option.getD_none, bne, Nat.reduceBNe, postU, postV, allocE, storeE, eq_self, put_at, push_at, Option.map_none, Option.map_some, optNat, hm, hv.len', hb2, hb1, hv.addr', l0, l1, l2, l3, Nat.mul_one, b0, b1, b2, b3, c84, c50, w5]
  refine contW_fixed (by kernel_rfl) ?_
  simp only [↓pre, post, ↓reduceIte, Nat.reduceEqDiff, Nat.reduceAdd, Nat.reduceMul, Nat.reduceSub, Nat.reduceLeDiff, Nat.reduceMod, Nat.reduceDiv, reduceCtorEq, Nat.reduceLT, Nat.reduceGT, Nat.reduceBEq, Option.isSome_some, ne_eq, Int.reduceEq, not_false_eq_true, bin_quo, bin_rem, List.length_cons, List.length_nil, List.map_cons, List.map_nil, List.append_nil, List.cons_append, List.nil_append, List.take_succ_cons, List.take_zero, List.drop_succ_cons, List.drop_zero, Nat.zero_add, Nat.add_zero, Nat.zero_le, Nat.le_refl, decide_true, decide_false, Bool.not_true, Bool.not_false, stepW, opE, intV, parV, boxE, loadE, partE, faddrE, fieldE, checkE, extractE, resultsE, resEs, resE, buildE, fillE, splice, if_true, if_false, Bool.false_eq_true, true_and, and_true, AV.cells, okA, oneA, fzs, fz, opTmp, Option.bind_some, Option.map_some, List.getElem?_cons_zero, List.getElem?_cons_succ, and_self, canonR, canon, canons, shift, shifts, pushAll, pushFrom, tys104, once4, Option.getD_some, Option.getD_none, bne, Nat.reduceBNe, postU, postV, allocE, storeE, eq_self, put_at, push_at, Option.map_none, Option.map_some, optNat]
  refine contW_fixed (by kernel_rfl) ?_
  simp only [↓pre, post, ↓reduceIte, Nat.reduceEqDiff, Nat.reduceAdd, Nat.reduceMul, Nat.reduceSub, Nat.reduceLeDiff, Nat.reduceMod, Nat.reduceDiv, reduceCtorEq, Nat.reduceLT, Nat.reduceGT, Nat.reduceBEq, Option.isSome_some, ne_eq, Int.reduceEq, not_false_eq_true, bin_quo, bin_rem, List.length_cons, List.length_nil, List.map_cons, List.map_nil, List.append_nil, List.cons_append, List.nil_append, List.take_succ_cons, List.take_zero, List.drop_succ_cons, List.drop_zero, Nat.zero_add, Nat.add_zero, Nat.zero_le, Nat.le_refl, decide_true, decide_false, Bool.not_true, Bool.not_false, stepW, opE, intV, parV, boxE, loadE, partE, faddrE, fieldE, checkE, extractE, resultsE, resEs, resE, buildE, fillE, splice, if_true, if_false, Bool.false_eq_true, true_and, and_true, AV.cells, okA, oneA, fzs, fz, opTmp, Option.bind_some, Option.map_some, List.getElem?_cons_zero, List.getElem?_cons_succ, and_self, canonR, canon, canons, shift, shifts, pushAll, pushFrom, tys104, once4, Option.getD_some, Option.getD_none, bne, Nat.reduceBNe, postU, postV, allocE, storeE, eq_self, put_at, push_at, Option.map_none, Option.map_some, optNat, hv.slOk, s1, nt4]
  (first | refine call_plain (t1) (by first | rfl | simp only [plains, plain, Bool.and_true, Bool.and_self, *]) ?_ | refine call_pure (t1) (by first | rfl | simp only [plains, plain, Bool.and_true, Bool.and_self, *]) (by intro k; first | rfl | simp only [shift, shifts, intV, boolV, *]) ?_); simp only [↓pre, post, ↓reduceIte, Nat.reduceEqDiff, Nat.reduceAdd, Nat.reduceMul, Nat.reduceSub, Nat.reduceLeDiff, Nat.reduceMod, Nat.reduceDiv, reduceCtorEq, Nat.reduceLT, Nat.reduceGT, Nat.reduceBEq, Option.isSome_some, ne_eq, Int.reduceEq, not_false_eq_true, bin_quo, bin_rem, List.length_cons, List.length_nil, List.map_cons, List.map_nil, List.append_nil, List.cons_append, List.nil_append, List.take_succ_cons, List.take_zero, List.drop_succ_cons, List.drop_zero, Nat.zero_add, Nat.add_zero, Nat.zero_le, Nat.le_refl, decide_true, decide_false, Bool.not_true, Bool.not_false, stepW, opE, intV, parV, boxE, loadE, partE, faddrE, fieldE, checkE, extractE, resultsE, resEs, resE, buildE, fillE, splice, if_true, if_false, Bool.false_eq_true, true_and, and_true, AV.cells, okA, oneA, fzs, fz, opTmp, Option.bind_some, Option.map_some, List.getElem?_cons_zero, List.getElem?_cons_succ, and_self, canonR, canon, canons, shift, shifts, pushAll, pushFrom, tys104, once4, Option.getD_some, Option.getD_none, bne, Nat.reduceBNe, postU, postV, allocE, storeE, eq_self, put_at, push_at, Option.map_none, Option.map_some, optNat, sh1, sh2, sh3]; (first | refine call_plain (t2) (by first | rfl | simp only [plains, plain, Bool.and_true, Bool.and_self, *]) ?_ | refine call_pure (t2) (by first | rfl | simp only [plains, plain, Bool.and_true, Bool.and_self, *]) (by intro k; first | rfl | simp only [shift, shifts, intV, boolV, *]) ?_); simp only [↓pre, post, ↓reduceIte, Nat.reduceEqDiff, Nat.reduceAdd, Nat.reduceMul, Nat.reduceSub, Nat.reduceLeDiff, Nat.reduceMod, Nat.reduceDiv, reduceCtorEq, Nat.reduceLT, Nat.reduceGT, Nat.reduceBEq, Option.isSome_some, ne_eq, Int.reduceEq, not_false_eq_true, bin_quo, bin_rem, List.length_cons, List.length_nil, List.map_cons, List.map_nil, List.append_nil, List.cons_append, List.nil_append, List.take_succ_cons, List.take_zero, List.drop_succ_cons, List.drop_zero, Nat.zero_add, Nat.add_zero, Nat.zero_le, Nat.le_refl, decide_true, decide_false, Bool.not_true, Bool.not_false, stepW, opE, intV, parV, boxE, loadE, partE, faddrE, fieldE, checkE, extractE, resultsE, resEs, resE, buildE, fillE, splice, if_true, if_false, Bool.false_eq_true, true_and, and_true, AV.cells, okA, oneA, fzs, fz, opTmp, Option.bind_some, Option.map_some, List.getElem?_cons_zero, List.getElem?_cons_succ, and_self, canonR, canon, canons, shift, shifts, pushAll, pushFrom, tys104, once4, Option.getD_some, Option.getD_none, bne, Nat.reduceBNe, postU, postV, allocE, storeE, eq_self, put_at, push_at, Option.map_none, Option.map_some, optNat, sh1, sh2, sh3]
  rw [codeW_loop]
  refine loop_intro (fun n e m => ∃ i, n + i = N ∧ e 2 = .tptr 0 [intV k, intV r, intV c, intV w] ∧ e 4 = .ptr 0 0 ∧ RdSl (e 8) (bs.drop (12 + 4 * i)).length (bytesA (bs.drop (12 + 4 * i)) ++ x) ∧ 0 < m.next ∧ ∃ vv, m.at_ 0 = some ⟨[.val (.int .u8 a2.toNat), intV a3.toNat, intV (numAt bs 4), intV (numAt bs 8), vv, nilS], 122, .var, true⟩ ∧ Own m 3 1 vv i (intsA (numsI bs i))) N ⟨0, by omega, ?_⟩ ?_
  · refine ⟨rfl, rfl, by simpa [Env.set] using r3, by simp [put_next, push_next], nilS, ?_, own_nil⟩
    have e9 : numAt bs 8 = ((beN (List.take 4 (List.drop 4 (List.drop 4 bs))) : Nat) : Int) := by rw [List.drop_drop]; rfl
    rw [e9]; rfl
  · rintro n e m ⟨i, hi, e2, e4, r8, hnx, vv, hm0, ho⟩
    by_cases hlt : i < N
    · have l4 : 12 + 4 * i + 4 + C ≤ bs.length := by have := hlen.out; omega
      have g1 : ((C : Nat) : Int) < ((bs.drop (12 + 4 * i)).length : Nat) := by rw [List.length_drop]; omega
      obtain ⟨v9, r9, t9⟩ := slot_take (e 8) (bs.drop (12 + 4 * i)) x r8 (by rw [List.length_drop]; omega)
      have p8 := r8.plain
      have sh9 := rd_shift r9
      rw [← hC] at g1
      simp only [↓pre, post, ↓reduceIte, Nat.reduceEqDiff, Nat.reduceAdd, Nat.reduceMul, Nat.reduceSub, Nat.reduceLeDiff, Nat.reduceMod, Nat.reduceDiv, reduceCtorEq, Nat.reduceLT, Nat.reduceGT, Nat.reduceBEq, Option.isSome_some, ne_eq, Int.reduceEq, not_false_eq_true, bin_quo, bin_rem, List.length_cons, List.length_nil, List.map_cons, List.map_nil, List.append_nil, List.cons_append, List.nil_append, List.take_succ_cons, List.take_zero, List.drop_succ_cons, List.drop_zero, Nat.zero_add, Nat.add_zero, Nat.zero_le, Nat.le_refl, decide_true, decide_false, Bool.not_true, Bool.not_false, stepW, opE, intV, parV, boxE, loadE, partE, faddrE, fieldE, checkE, extractE, resultsE, resEs, resE, buildE, fillE, splice, if_true, if_false, Bool.false_eq_true, true_and, and_true, AV.cells, okA, oneA, fzs, fz, opTmp, Option.bind_some, Option.map_some, List.getElem?_cons_zero, List.getElem?_cons_succ, and_self, canonR, canon, canons, shift, shifts, pushAll, pushFrom, tys104, once4, Option.getD_some, Option.getD_none, bne, Nat.reduceBNe, postU, postV, allocE, storeE, eq_self, put_at, push_at, Option.map_none, Option.map_some, optNat, r8.len', e2, e4, g1]
      (first | refine call_plain (t9) (by first | rfl | simp only [plains, plain, Bool.and_true, Bool.and_self, *]) ?_ | refine call_pure (t9) (by first | rfl | simp only [plains, plain, Bool.and_true, Bool.and_self, *]) (by intro k; first | rfl | simp only [shift, shifts, intV, boolV, *]) ?_); simp only [↓pre, post, ↓reduceIte, Nat.reduceEqDiff, Nat.reduceAdd, Nat.reduceMul, Nat.reduceSub, Nat.reduceLeDiff, Nat.reduceMod, Nat.reduceDiv, reduceCtorEq, Nat.reduceLT, Nat.reduceGT, Nat.reduceBEq, Option.isSome_some, ne_eq, Int.reduceEq, not_false_eq_true, bin_quo, bin_rem, List.length_cons, List.length_nil, List.map_cons, List.map_nil, List.append_nil, List.cons_append, List.nil_append, List.take_succ_cons, List.take_zero, List.drop_succ_cons, List.drop_zero, Nat.zero_add, Nat.add_zero, Nat.zero_le, Nat.le_refl, decide_true, decide_false, Bool.not_true, Bool.not_false, stepW, opE, intV, parV, boxE, loadE, partE, faddrE, fieldE, checkE, extractE, resultsE, resEs, resE, buildE, fillE, splice, if_true, if_false, Bool.false_eq_true, true_and, and_true, AV.cells, okA, oneA, fzs, fz, opTmp, Option.bind_some, Option.map_some, List.getElem?_cons_zero, List.getElem?_cons_succ, and_self, canonR, canon, canons, shift, shifts, pushAll, pushFrom, tys104, once4, Option.getD_some, Option.getD_none, bne, Nat.reduceBNe, postU, postV, allocE, storeE, eq_self, put_at, push_at, Option.map_none, Option.map_some, optNat, sh9, e4, hm0]
      refine app_keep (sz := 1) (y := 8) (zl := [.int .i64 0]) (by kernel_rfl) ho (by kernel_rfl) (by kernel_rfl) (by kernel_rfl) rfl srcT1 (by rfl) (by have := hN16.out; omega) (by have := hN16.out; omega) ?_
      intro vv' m' ho' hnx' hkeep hbl
      have hm0' := hkeep 0 _ hm0 hnx (ho.ne_kind hm0 (fun h => by cases h))
      obtain ⟨b', rfl, hb', hlt'⟩ := ho'.sl (by omega)
      simp only [↓pre, post, ↓reduceIte, Nat.reduceEqDiff, Nat.reduceAdd, Nat.reduceMul, Nat.reduceSub, Nat.reduceLeDiff, Nat.reduceMod, Nat.reduceDiv, reduceCtorEq, Nat.reduceLT, Nat.reduceGT, Nat.reduceBEq, Option.isSome_some, ne_eq, Int.reduceEq, not_false_eq_true, bin_quo, bin_rem, List.length_cons, List.length_nil, List.map_cons, List.map_nil, List.append_nil, List.cons_append, List.nil_append, List.take_succ_cons, List.take_zero, List.drop_succ_cons, List.drop_zero, Nat.zero_add, Nat.add_zero, Nat.zero_le, Nat.le_refl, decide_true, decide_false, Bool.not_true, Bool.not_false, stepW, opE, intV, parV, boxE, loadE, partE, faddrE, fieldE, checkE, extractE, resultsE, resEs, resE, buildE, fillE, splice, if_true, if_false, Bool.false_eq_true, true_and, and_true, AV.cells, okA, oneA, fzs, fz, opTmp, Option.bind_some, Option.map_some, List.getElem?_cons_zero, List.getElem?_cons_succ, and_self, canonR, canon, canons, shift, shifts, pushAll, pushFrom, tys104, once4, Option.getD_some, Option.getD_none, bne, Nat.reduceBNe, postU, postV, allocE, storeE, eq_self, put_at, push_at, Option.map_none, Option.map_some, optNat, e2, e4, hm0']
      refine ⟨n - 1, by omega, i + 1, by omega, ?_, by omega, .sl b' 0 (i + 1) (i + 1) false, rfl, ?_⟩
      · rw [List.drop_drop] at r9
        exact r9
      · rw [numsI_succ, intsA_append]
        exact ho'.put_kind hm0' (fun h => by cases h)
    · have hiN : i = N := by omega
      subst hiN
      have hdl : (bs.drop (12 + 4 * i)).length = C := by have := hlen.out; rw [List.length_drop]; omega
      rw [hdl] at r8
      have g1 : ¬ ((C : Nat) : Int) < ((C : Nat) : Int) := by omega
      rw [← hC] at g1
      simp only [↓pre, post, ↓reduceIte, Nat.reduceEqDiff, Nat.reduceAdd, Nat.reduceMul, Nat.reduceSub, Nat.reduceLeDiff, Nat.reduceMod, Nat.reduceDiv, reduceCtorEq, Nat.reduceLT, Nat.reduceGT, Nat.reduceBEq, Option.isSome_some, ne_eq, Int.reduceEq, not_false_eq_true, bin_quo, bin_rem, List.length_cons, List.length_nil, List.map_cons, List.map_nil, List.append_nil, List.cons_append, List.nil_append, List.take_succ_cons, List.take_zero, List.drop_succ_cons, List.drop_zero, Nat.zero_add, Nat.add_zero, Nat.zero_le, Nat.le_refl, decide_true, decide_false, Bool.not_true, Bool.not_false, stepW, opE, intV, parV, boxE, loadE, partE, faddrE, fieldE, checkE, extractE, resultsE, resEs, resE, buildE, fillE, splice, if_true, if_false, Bool.false_eq_true, true_and, and_true, AV.cells, okA, oneA, fzs, fz, opTmp, Option.bind_some, Option.map_some, List.getElem?_cons_zero, List.getElem?_cons_succ, and_self, canonR, canon, canons, shift, shifts, pushAll, pushFrom, tys104, once4, Option.getD_some, Option.getD_none, bne, Nat.reduceBNe, postU, postV, allocE, storeE, eq_self, put_at, push_at, Option.map_none, Option.map_some, optNat, r8.len', e2, e4, hC.symm, g1, cond_f, bt0, Nat.mul_one]
      have hsrc : srcE Try.prog 5 1 m (e 8) = some (bytesA (bs.drop (12 + 4 * i)), C) := by
        have hq := r8.src (P := Try.prog) (m := m) (el := 5) (sz := 1) (by rw [Nat.mul_one, List.length_append]; simp [bytesA]; have := hlen.out; omega)
        rw [hq, Nat.mul_one, List.take_left' (by simp [bytesA]; have := hlen.out; omega)]
      rw [app_none (sz := 1) (y := 1) (zl := [.int .u8 0]) rfl (by kernel_rfl) (by kernel_rfl) (by kernel_rfl) rfl hsrc (by have := hN16.out; omega) (by have := hN16.out; omega) (by have := hN16.out; omega)]
      have h0n : ¬ 0 = m.next := by omega
      have h1n : ¬ m.next = 0 := by omega
      have hbk := ho.ne_kind hm0 (fun h => by cases h)
      obtain ⟨b, rfl, hb, hlt⟩ := ho.sl (by have := hN16.out; omega)
      have hb0 : b ≠ 0 := fun h => hbk (by rw [h]; rfl)
      simp only [↓pre, post, ↓reduceIte, Nat.reduceEqDiff, Nat.reduceAdd, Nat.reduceMul, Nat.reduceSub, Nat.reduceLeDiff, Nat.reduceMod, Nat.reduceDiv, reduceCtorEq, Nat.reduceLT, Nat.reduceGT, Nat.reduceBEq, Option.isSome_some, ne_eq, Int.reduceEq, not_false_eq_true, bin_quo, bin_rem, List.length_cons, List.length_nil, List.map_cons, List.map_nil, List.append_nil, List.cons_append, List.nil_append, List.take_succ_cons, List.take_zero, List.drop_succ_cons, List.drop_zero, Nat.zero_add, Nat.add_zero, Nat.zero_le, Nat.le_refl, decide_true, decide_false, Bool.not_true, Bool.not_false, stepW, opE, intV, parV, boxE, loadE, partE, faddrE, fieldE, checkE, extractE, resultsE, resEs, resE, buildE, fillE, splice, if_true, if_false, Bool.false_eq_true, true_and, and_true, AV.cells, okA, oneA, fzs, fz, opTmp, Option.bind_some, Option.map_some, List.getElem?_cons_zero, List.getElem?_cons_succ, and_self, canonR, canon, canons, shift, shifts, pushAll, pushFrom, tys104, once4, Option.getD_some, Option.getD_none, bne, Nat.reduceBNe, postU, postV, allocE, storeE, eq_self, put_at, push_at, Option.map_none, Option.map_some, optNat, e2, e4, hm0, h0n, h1n]
      generalize hm2 : Mem.put _ _ _ = m2
      have q0 : m2.at_ 0 = some ⟨[.val (.int .u8 a2.toNat), intV a3.toNat, intV (numAt bs 4), intV (numAt bs 8), .sl b 0 i i false, .sl m.next 0 C C false], 122, .var, true⟩ := by rw [← hm2, put_at, if_pos rfl]; rfl
      have q1 : m2.at_ b = some ⟨intsA (numsI bs i), 3, .flat, true⟩ := by rw [← hm2, put_at, if_neg hb0, push_at, if_neg (by omega)]; exact hb
      have q2 : m2.at_ m.next = some ⟨bytesA (bs.drop (12 + 4 * i)), 5, .flat, true⟩ := by rw [← hm2, put_at, if_neg h1n, push_at, if_pos rfl]
      have hbn : ¬ m.next = b := by omega
      generalize m.next = b2 at *
      have hil : (numsI bs i).length = i := numsI_len bs i
      refine call_lent (slot_may k r c w a2.toNat a3.toNat (numAt bs 4) (numAt bs 8) (.tree i i (intsA (numsI bs i)) false) (.tree C C (bytesA (bs.drop (12 + 4 * i))) false) (numsI bs i) [] C (bytesA (bs.drop (12 + 4 * i))) ⟨.inr (.inr ⟨i, false, by rw [hil, List.append_nil], by rw [hil]; exact Nat.le_refl _⟩)⟩ ⟨.inr (.inr ⟨C, false, rfl, Nat.le_refl _⟩)⟩ (by rw [hil]; have := hN16.out; omega)) (by simp [lends, lend, q1, q2, parV, slotV, intV]) rfl rfl ?_
      rw [← hres]
      cases hms : mayS k r c w a2.toNat a3.toNat (numAt bs 4) (numAt bs 8) (numsI bs i) C
      · simp only [↓pre, post, ↓reduceIte, Nat.reduceEqDiff, Nat.reduceAdd, Nat.reduceMul, Nat.reduceSub, Nat.reduceLeDiff, Nat.reduceMod, Nat.reduceDiv, reduceCtorEq, Nat.reduceLT, Nat.reduceGT, Nat.reduceBEq, Option.isSome_some, ne_eq, Int.reduceEq, not_false_eq_true, bin_quo, bin_rem, List.length_cons, List.length_nil, List.map_cons, List.map_nil, List.append_nil, List.cons_append, List.nil_append, List.take_succ_cons, List.take_zero, List.drop_succ_cons, List.drop_zero, Nat.zero_add, Nat.add_zero, Nat.zero_le, Nat.le_refl, decide_true, decide_false, Bool.not_true, Bool.not_false, stepW, opE, intV, parV, boxE, loadE, partE, faddrE, fieldE, checkE, extractE, resultsE, resEs, resE, buildE, fillE, splice, if_true, if_false, Bool.false_eq_true, true_and, and_true, AV.cells, okA, oneA, fzs, fz, opTmp, Option.bind_some, Option.map_some, List.getElem?_cons_zero, List.getElem?_cons_succ, and_self, canonR, canon, canons, shift, shifts, pushAll, pushFrom, tys104, once4, Option.getD_some, Option.getD_none, bne, Nat.reduceBNe, postU, postV, allocE, storeE, eq_self, put_at, push_at, Option.map_none, Option.map_some, optNat, e2, e4, q0, boolV, cond_t, slotV, nilS]
        rfl
      · have k3 : kindT Try.prog 3 = .flat := by kernel_rfl
        have k5 : kindT Try.prog 5 = .flat := by kernel_rfl
        have hbn' : ¬ b = b2 := fun h => hbn h.symm
        simp only [↓pre, post, ↓reduceIte, Nat.reduceEqDiff, Nat.reduceAdd, Nat.reduceMul, Nat.reduceSub, Nat.reduceLeDiff, Nat.reduceMod, Nat.reduceDiv, reduceCtorEq, Nat.reduceLT, Nat.reduceGT, Nat.reduceBEq, Option.isSome_some, ne_eq, Int.reduceEq, not_false_eq_true, bin_quo, bin_rem, List.length_cons, List.length_nil, List.map_cons, List.map_nil, List.append_nil, List.cons_append, List.nil_append, List.take_succ_cons, List.take_zero, List.drop_succ_cons, List.drop_zero, Nat.zero_add, Nat.add_zero, Nat.zero_le, Nat.le_refl, decide_true, decide_false, Bool.not_true, Bool.not_false, stepW, opE, intV, parV, boxE, loadE, partE, faddrE, fieldE, checkE, extractE, resultsE, resEs, resE, buildE, fillE, splice, if_true, if_false, Bool.false_eq_true, true_and, and_true, AV.cells, okA, oneA, fzs, fz, opTmp, Option.bind_some, Option.map_some, List.getElem?_cons_zero, List.getElem?_cons_succ, and_self, canonR, canon, canons, shift, shifts, pushAll, pushFrom, tys104, once4, Option.getD_some, Option.getD_none, bne, Nat.reduceBNe, postU, postV, allocE, storeE, eq_self, put_at, push_at, Option.map_none, Option.map_some, optNat, e2, e4, q0, boolV, cond_f, slotV]
        simp only [hb0, h1n, q1, q2, k3, k5, if_false, if_true, Option.bind_some, Option.map_some, List.any_nil, Bool.false_eq_true, ne_eq, not_true_eq_false, or_self, List.any_cons, beq_iff_eq, hbn', hbn, Bool.or_false, List.nil_append, List.drop_zero, beq_eq_false_iff_ne.2 hbn']
        rfl
end Go.Proofs.Ytenmbfplceeolaa

set_option linter.unusedVariables false
set_option linter.unusedSimpArgs false
set_option maxRecDepth 10000
namespace Go.Proofs.Ytenmbfplceeolaa
open Go Go.Tw Go.Proofs

/-- what stands in a slot -/
structure SlotC where
  kd : Int
  ix : Int
  ce : Int
  st : Int
  vec : List Int
  data : List UInt8
def slotC (k r : Int) (bs : List UInt8) : SlotC := ⟨(bs.getD 2 0).toNat, (bs.getD 3 0).toNat, numAt bs 4, numAt bs 8, numsI bs (k + r).toNat, bs.drop (12 + 4 * (k + r).toNat)⟩
def SlotC.v (s : SlotC) : AV := slotV s.kd s.ix s.ce s.st (.tree s.vec.length s.vec.length (intsA s.vec) false) (.tree s.data.length s.data.length (bytesA s.data) false)
def maySC (k r c w : Int) (s : SlotC) : Bool := mayS k r c w s.kd s.ix s.ce s.st s.vec s.data.length
/-- are bytes a slot? -/
def isSlot (k r c w : Int) (bs : List UInt8) : Bool := decide ((bs.length : Int) = sizeI k r c) && (decide (bs[0]? = some 84) && (decide (bs[1]? = some 50) && maySC k r c w (slotC k r bs)))
def parseV (k r c w : Int) (bs : List UInt8) : AV := if mayB k r c w = true ∧ isSlot k r c w bs = true then .tup [(slotC k r bs).v, boolV true, intV 0] else .tup [slot0, boolV false, intV (if mayB k r c w = false then 2 else if (bs.length : Int) = 0 then 0 else if (bs.length : Int) = sizeI k r c then 0 else 100)]
theorem slot_Parse (k r c w : Int) (v : AV) (bs : List UInt8) (x : List AV) (hv : RdSl v bs.length (bytesA bs ++ x)) : FSpec Try.prog 104 [parV k r c w, v] ⟨parseV k r c w bs, []⟩ := by
  cases hm : mayB k r c w with
  | false =>
    have := slot_Parse_not k r c w v bs x hv hm
    simpa [parseV, hm] using this
  | true =>
    have hmn := may_n hm
    by_cases hl : (bs.length : Int) = 0
    · have h1 : isSlot k r c w bs = false := by
        have : ¬ (bs.length : Int) = sizeI k r c := by rw [hl]; unfold sizeI; omega
        unfold isSlot; rw [decide_eq_false this]; rfl
      have := slot_Parse_nil k r c w v bs x hv hm hl
      simpa [parseV, hm, h1, hl] using this
    · by_cases hs : (bs.length : Int) = sizeI k r c
      · have l12 : 12 ≤ bs.length := by unfold sizeI at hs; omega
        obtain ⟨a0, h0⟩ : ∃ a, bs[0]? = some a := ⟨_, List.getElem?_eq_getElem (by omega)⟩
        obtain ⟨a1, h1⟩ : ∃ a, bs[1]? = some a := ⟨_, List.getElem?_eq_getElem (by omega)⟩
        obtain ⟨a2, h2⟩ : ∃ a, bs[2]? = some a := ⟨_, List.getElem?_eq_getElem (by omega)⟩
        obtain ⟨a3, h3⟩ : ∃ a, bs[3]? = some a := ⟨_, List.getElem?_eq_getElem (by omega)⟩
        by_cases hmg : a0 = 84 ∧ a1 = 50
        · obtain ⟨rfl, rfl⟩ := hmg
          have hq := slot_Parse_main k r c w v bs x hv hm hs h0 h1 h2 h3
          have hvl : (slotC k r bs).vec.length = (k + r).toNat := numsI_len _ _
          have hdl : (slotC k r bs).data.length = c.toNat := by simp only [slotC, List.length_drop]; unfold sizeI at hs; omega
          have e2 : (bs.getD 2 0) = a2 := by rw [List.getD_eq_getElem?_getD, h2]; rfl
          have e3 : (bs.getD 3 0) = a3 := by rw [List.getD_eq_getElem?_getD, h3]; rfl
          have hmay : maySC k r c w (slotC k r bs) = mayS k r c w a2.toNat a3.toNat (numAt bs 4) (numAt bs 8) (numsI bs (k + r).toNat) c.toNat := by
            unfold maySC; rw [hdl]; simp only [slotC, e2, e3]
          have hsl : isSlot k r c w bs = maySC k r c w (slotC k r bs) := by unfold isSlot; rw [decide_eq_true hs, decide_eq_true h0, decide_eq_true h1]; rfl
          rw [← hmay] at hq
          cases hb : maySC k r c w (slotC k r bs) with
          | false =>
            rw [hb] at hq
            simpa [parseV, hm, hsl, hb, hl, hs, parseR] using hq
          | true =>
            rw [hb] at hq
            have k3 : kindT Try.prog 3 = .flat := by kernel_rfl
            have k5 : kindT Try.prog 5 = .flat := by kernel_rfl
            have := fspec_frozen 1 hq (by simp [parseR, fzOk, fzOks, slotV, intV, boolV, k3, k5])
            have hv2 : parseV k r c w bs = fzV Try.prog (parseR a2.toNat a3.toNat bs (k + r).toNat c.toNat true).rows 1 (parseR a2.toNat a3.toNat bs (k + r).toNat c.toNat true).v := by
              unfold parseV
              rw [if_pos ⟨hm, by rw [hsl, hb]⟩]
              simp [parseR, fzV, fzVs, slotV, intV, boolV, k3, k5, SlotC.v, hvl, hdl]
              simp [slotC, h2, h3]
            rw [hv2]
            exact this
        · have hne : ¬ ((a0.toNat : Int) = 84 ∧ (a1.toNat : Int) = 50) := by
            rintro ⟨h3, h4⟩
            exact hmg ⟨UInt8.toNat_inj.1 (by simp; omega), UInt8.toNat_inj.1 (by simp; omega)⟩
          have hsl : isSlot k r c w bs = false := by
            unfold isSlot
            rw [h0, h1]
            by_cases h5 : a0 = 84
            · have h6 : ¬ a1 = 50 := fun h => hmg ⟨h5, h⟩
              simp [h6]
            · simp [h5]
          have := slot_Parse_magic k r c w v bs x hv hm hs h0 h1 hne
          simpa [parseV, hm, hsl, hl, hs] using this
      · have h1 : isSlot k r c w bs = false := by unfold isSlot; rw [decide_eq_false hs]; rfl
        have := slot_Parse_len k r c w v bs x hv hm hl hs
        have hne : bs ≠ [] := by rintro rfl; exact hl rfl
        simpa [parseV, hm, h1, hne, hs] using this
end Go.Proofs.Ytenmbfplceeolaa
