import Derived.Test.YtenmbfplceeolaaCmG12
set_option linter.unusedVariables false
set_option linter.unusedSimpArgs false
set_option maxRecDepth 10000
namespace Go.Proofs.Ytenmbfplceeolaa
open Go Go.Tw Go.Proofs

def onceR : Nat → Bool := fun d => d != 4 && (d != 6 && (d != 47 && d != 57))
def readV (k r c w : Int) (bs : List UInt8) : AV := .tup [if isSlot k r c w bs = true then (slotC k r bs).v else slot0, boolV (isSlot k r c w bs)]
theorem ref10_Read_len (k r c w : Int) (v : AV) (bs : List UInt8) (x : List AV) (hv : RdSl v bs.length (bytesA bs ++ x)) (hm : mayB k r c w = true) (hb2 : ¬ (bs.length : Int) = sizeI k r c) : FSpec Try.prog 147 [parV k r c w, v] ⟨.tup [slot0, boolV false], []⟩ := by
  have hp := hv.plain
  have hmn := may_n hm
  replace hmn := Hid.mk hmn
  refine fspec_of_body follows Try.func147 (by unfold Try.f147; rfl) (by unfold Try.f147; simp) onceR (by unfold Try.f147; simp) (by kernel_rfl) ?_; unfold Try.f147
  simp only [↓pre, post, ↓reduceIte, Nat.reduceEqDiff, Nat.reduceAdd, Nat.reduceMul, Nat.reduceSub, Nat.reduceLeDiff, Nat.reduceMod, Nat.reduceDiv, reduceCtorEq, Nat.reduceLT, Nat.reduceGT, Nat.reduceBEq, Option.isSome_some, ne_eq, Int.reduceEq, not_false_eq_true, bin_quo, bin_rem, List.length_cons, List.length_nil, List.map_cons, List.map_nil, List.append_nil, List.cons_append, List.nil_append, List.take_succ_cons, List.take_zero, List.drop_succ_cons, List.drop_zero, Nat.zero_add, Nat.add_zero, Nat.zero_le, Nat.le_refl, decide_true, decide_false, Bool.not_true, Bool.not_false, stepW, opE, intV, parV, boxE, loadE, partE, faddrE, fieldE, checkE, extractE, resultsE, resEs, resE, buildE, fillE, splice, if_true, if_false, Bool.false_eq_true, true_and, and_true, AV.cells, okA, oneA, fzs, fz, opTmp, Option.bind_some, Option.map_some, List.getElem?_cons_zero, List.getElem?_cons_succ, and_self, canonR, canon, canons, shift, shifts, pushAll, pushFrom, tys147, onceR, Option.getD_some, Option.getD_none, bne, Nat.reduceBNe, Bool.and_true, Bool.and_false, Bool.true_and, Bool.false_and, Bool.and_self, postU, postV, allocE, storeE, eq_self, put_at, push_at, Option.map_none, Option.map_some, optNat, hv.len']
  (first | refine call_plain (ref06_Size k r c w hm) (by first | rfl | simp only [plains, plain, Bool.and_true, Bool.and_self, *]) ?_ | refine call_pure (ref06_Size k r c w hm) (by first | rfl | simp only [plains, plain, Bool.and_true, Bool.and_self, *]) (by intro k; first | rfl | simp only [shift, shifts, intV, boolV, *]) ?_); simp only [↓pre, post, ↓reduceIte, Nat.reduceEqDiff, Nat.reduceAdd, Nat.reduceMul, Nat.reduceSub, Nat.reduceLeDiff, Nat.reduceMod, Nat.reduceDiv, reduceCtorEq, Nat.reduceLT, Nat.reduceGT, Nat.reduceBEq, Option.isSome_some, ne_eq, Int.reduceEq, not_false_eq_true, bin_quo, bin_rem, List.length_cons, List.length_nil, List.map_cons, List.map_nil, List.append_nil, List.cons_append, List.nil_append, List.take_succ_cons, List.take_zero, List.drop_succ_cons, List.drop_zero, Nat.zero_add, Nat.add_zero, Nat.zero_le, Nat.le_refl, decide_true, decide_false, Bool.not_true, Bool.not_false, stepW, opE, intV, parV, boxE, loadE, partE, faddrE, fieldE, checkE, extractE, resultsE, resEs, resE, buildE, fillE, splice, if_true, if_false, Bool.false_eq_true, true_and, and_true, AV.cells, okA, oneA, fzs, fz, opTmp, Option.bind_some, Option.map_some, List.getElem?_cons_zero, List.getElem?_cons_succ, and_self, canonR, canon, canons, shift, shifts, pushAll, pushFrom, tys147, onceR, Option.getD_some, Option.getD_none, bne, Nat.reduceBNe, Bool.and_true, Bool.and_false, Bool.true_and, Bool.false_and, Bool.and_self, postU, postV, allocE, storeE, eq_self, put_at, push_at, Option.map_none, Option.map_some, optNat, hv.len', hb2]
  rfl
theorem ref10_Read_magic (k r c w : Int) (v : AV) (bs : List UInt8) (x : List AV) (hv : RdSl v bs.length (bytesA bs ++ x)) (hm : mayB k r c w = true) (hb2 : (bs.length : Int) = sizeI k r c) {a b : UInt8} (ha : bs[0]? = some a) (hb : bs[1]? = some b) (hne : ¬ ((a.toNat : Int) = 84 ∧ (b.toNat : Int) = 50)) : FSpec Try.prog 147 [parV k r c w, v] ⟨.tup [slot0, boolV false], []⟩ := by
  have hp := hv.plain
  have hmn := may_n hm
  have a0 := byte_at (x := x) ha
  have a1 := byte_at (x := x) hb
  have l0 : 0 < bs.length := by unfold sizeI at hb2; omega
  have l1 : 1 < bs.length := by unfold sizeI at hb2; omega
  replace hmn := Hid.mk hmn
  refine fspec_of_body follows Try.func147 (by unfold Try.f147; rfl) (by unfold Try.f147; simp) onceR (by unfold Try.f147; simp) (by kernel_rfl) ?_; unfold Try.f147
  simp only [↓pre, post, ↓reduceIte, Nat.reduceEqDiff, Nat.reduceAdd, Nat.reduceMul, Nat.reduceSub, Nat.reduceLeDiff, Nat.reduceMod, Nat.reduceDiv, reduceCtorEq, Nat.reduceLT, Nat.reduceGT, Nat.reduceBEq, Option.isSome_some, ne_eq, Int.reduceEq, not_false_eq_true, bin_quo, bin_rem, List.length_cons, List.length_nil, List.map_cons, List.map_nil, List.append_nil, List.cons_append, List.nil_append, List.take_succ_cons, List.take_zero, List.drop_succ_cons, List.drop_zero, Nat.zero_add, Nat.add_zero, Nat.zero_le, Nat.le_refl, decide_true, decide_false, Bool.not_true, Bool.not_false, stepW, opE, intV, parV, boxE, loadE, partE, faddrE, fieldE, checkE, extractE, resultsE, resEs, resE, buildE, fillE, splice, if_true, if_false, Bool.false_eq_true, true_and, and_true, AV.cells, okA, oneA, fzs, fz, opTmp, Option.bind_some, Option.map_some, List.getElem?_cons_zero, List.getElem?_cons_succ, and_self, canonR, canon, canons, shift, shifts, pushAll, pushFrom, tys147, onceR, Option.getD_some, Option.getD_none, bne, Nat.reduceBNe, Bool.and_true, Bool.and_false, Bool.true_and, Bool.false_and, Bool.and_self, postU, postV, allocE, storeE, eq_self, put_at, push_at, Option.map_none, Option.map_some, optNat, hv.len']
  by_cases h1 : (a.toNat : Int) = 84
  · have h2 : ¬ (b.toNat : Int) = 50 := fun h => hne ⟨h1, h⟩
    (first | refine call_plain (ref06_Size k r c w hm) (by first | rfl | simp only [plains, plain, Bool.and_true, Bool.and_self, *]) ?_ | refine call_pure (ref06_Size k r c w hm) (by first | rfl | simp only [plains, plain, Bool.and_true, Bool.and_self, *]) (by intro k; first | rfl | simp only [shift, shifts, intV, boolV, *]) ?_); simp only [↓pre, post, ↓reduceIte, Nat.reduceEqDiff, Nat.reduceAdd, Nat.reduceMul, Nat.reduceSub, Nat.reduceLeDiff, Nat.reduceMod, Nat.reduceDiv, reduceCtorEq, Nat.reduceLT, Nat.reduceGT, Nat.reduceBEq, Option.isSome_some, ne_eq, Int.reduceEq, not_false_eq_true, bin_quo, bin_rem, List.length_cons, List.length_nil, List.map_cons, List.map_nil, List.append_nil, List.cons_append, List.nil_append, List.take_succ_cons, List.take_zero, List.drop_succ_cons, List.drop_zero, Nat.zero_add, Nat.add_zero, Nat.zero_le, Nat.le_refl, decide_true, decide_false, Bool.not_true, Bool.not_false, stepW, opE, intV, parV, boxE, loadE, partE, faddrE, fieldE, checkE, extractE, resultsE, resEs, resE, buildE, fillE, splice, if_true, if_false, Bool.false_eq_true, true_and, and_true, AV.cells, okA, oneA, fzs, fz, opTmp, Option.bind_some, Option.map_some, List.getElem?_cons_zero, List.getElem?_cons_succ, and_self, canonR, canon, canons, shift, shifts, pushAll, pushFrom, tys147, onceR, Option.getD_some, Option.getD_none, bne, Nat.reduceBNe, Bool.and_true, Bool.and_false, Bool.true_and, Bool.false_and, Bool.and_self, postU, postV, allocE, storeE, eq_self, put_at, push_at, Option.map_none, Option.map_some, optNat, hv.len', hb2, hv.addr', l0, l1, Nat.mul_one, a0, a1, h1, h2]
    rfl
  · (first | refine call_plain (ref06_Size k r c w hm) (by first | rfl | simp only [plains, plain, Bool.and_true, Bool.and_self, *]) ?_ | refine call_pure (ref06_Size k r c w hm) (by first | rfl | simp only [plains, plain, Bool.and_true, Bool.and_self, *]) (by intro k; first | rfl | simp only [shift, shifts, intV, boolV, *]) ?_); simp only [↓pre, post, ↓reduceIte, Nat.reduceEqDiff, Nat.reduceAdd, Nat.reduceMul, Nat.reduceSub, Nat.reduceLeDiff, Nat.reduceMod, Nat.reduceDiv, reduceCtorEq, Nat.reduceLT, Nat.reduceGT, Nat.reduceBEq, Option.isSome_some, ne_eq, Int.reduceEq, not_false_eq_true, bin_quo, bin_rem, List.length_cons, List.length_nil, List.map_cons, List.map_nil, List.append_nil, List.cons_append, List.nil_append, List.take_succ_cons, List.take_zero, List.drop_succ_cons, List.drop_zero, Nat.zero_add, Nat.add_zero, Nat.zero_le, Nat.le_refl, decide_true, decide_false, Bool.not_true, Bool.not_false, stepW, opE, intV, parV, boxE, loadE, partE, faddrE, fieldE, checkE, extractE, resultsE, resEs, resE, buildE, fillE, splice, if_true, if_false, Bool.false_eq_true, true_and, and_true, AV.cells, okA, oneA, fzs, fz, opTmp, Option.bind_some, Option.map_some, List.getElem?_cons_zero, List.getElem?_cons_succ, and_self, canonR, canon, canons, shift, shifts, pushAll, pushFrom, tys147, onceR, Option.getD_some, Option.getD_none, bne, Nat.reduceBNe, Bool.and_true, Bool.and_false, Bool.true_and, Bool.false_and, Bool.and_self, postU, postV, allocE, storeE, eq_self, put_at, push_at, Option.map_none, Option.map_some, optNat, hv.len', hb2, hv.addr', l0, l1, Nat.mul_one, a0, a1, h1]
    rfl
def readR (kd ix : Int) (bs : List UInt8) (N C : Nat) : Bool → Res
  | true => ⟨.tup [slotV kd ix (numAt bs 4) (numAt bs 8) (.sl 0 0 N N false) (.sl 1 0 C C false), boolV true], [(3, intsA (numsI bs N)), (5, bytesA (bs.drop (12 + 4 * N)))]⟩
  | false => ⟨.tup [slot0, boolV false], []⟩
theorem ref10_Read_main (k r c w : Int) (v : AV) (bs : List UInt8) (x : List AV) (hv : RdSl v bs.length (bytesA bs ++ x)) (hm : mayB k r c w = true) (hb2 : (bs.length : Int) = sizeI k r c) {a2 a3 : UInt8} (h0 : bs[0]? = some 84) (h1 : bs[1]? = some 50) (h2 : bs[2]? = some a2) (h3 : bs[3]? = some a3) : FSpec Try.prog 147 [parV k r c w, v] (readR a2.toNat a3.toNat bs (k + r).toNat c.toNat (mayS k r c w a2.toNat a3.toNat (numAt bs 4) (numAt bs 8) (numsI bs (k + r).toNat) c.toNat)) := by
  have hp := hv.plain
  have hmn := may_n hm
  have b0 := byte_at (x := x) h0
  have b1 := byte_at (x := x) h1
  have b2 := byte_at (x := x) h2
  have b3 := byte_at (x := x) h3
  have l12 : 12 ≤ bs.length := by unfold sizeI at hb2; omega
  have l0 : 0 < bs.length := by omega
  have l1 : 1 < bs.length := by omega
  have l2 : 2 < bs.length := by omega
  have l3 : 3 < bs.length := by omega
  have c84 : (((84 : UInt8).toNat : Nat) : Int) = 84 := rfl
  have c50 : (((50 : UInt8).toNat : Nat) : Int) = 50 := rfl
  have w5 : IntKind.i64.wrap (a3.toNat : Int) = (a3.toNat : Int) := wrap_nat (by have := a3.toNat_lt; omega)
  obtain ⟨N, hN⟩ : ∃ N : Nat, k + r = (N : Int) := ⟨(k + r).toNat, by omega⟩
  obtain ⟨C, hC⟩ : ∃ C : Nat, c = (C : Int) := ⟨c.toNat, by omega⟩
  have hNN : (k + r).toNat = N := by omega
  have hCC : c.toNat = C := by omega
  rw [hNN, hCC]
  generalize hres : readR _ _ _ _ _ _ = res
  have hlen : bs.length = 12 + 4 * N + C := by unfold sizeI at hb2; omega
  have hN16 : N ≤ 16 ∧ 1 ≤ N ∧ 8 ≤ C ∧ C ≤ 64 := by omega
  have n4 := ref10_number v bs x 4 hv (by omega) (by omega)
  have n8 := ref10_number v bs x 8 hv (by omega) (by omega)
  replace hlen := Hid.mk hlen
  replace hN16 := Hid.mk hN16
  replace hmn := Hid.mk hmn
  replace l12 := Hid.mk l12
  refine fspec_of_body follows Try.func147 (by unfold Try.f147; rfl) (by unfold Try.f147; simp) onceR (by unfold Try.f147; simp) (by kernel_rfl) ?_; unfold Try.f147
  simp only [↓pre, post, ↓reduceIte, Nat.reduceEqDiff, Nat.reduceAdd, Nat.reduceMul, Nat.reduceSub, Nat.reduceLeDiff, Nat.reduceMod, Nat.reduceDiv, reduceCtorEq, Nat.reduceLT, Nat.reduceGT, Nat.reduceBEq, Option.isSome_some, ne_eq, Int.reduceEq, not_false_eq_true, bin_quo, bin_rem, List.length_cons, List.length_nil, List.map_cons, List.map_nil, List.append_nil, List.cons_append, List.nil_append, List.take_succ_cons, List.take_zero, List.drop_succ_cons, List.drop_zero, Nat.zero_add, Nat.add_zero, Nat.zero_le, Nat.le_refl, decide_true, decide_false, Bool.not_true, Bool.not_false, stepW, opE, intV, parV, boxE, loadE, partE, faddrE, fieldE, checkE, extractE, resultsE, resEs, resE, buildE, fillE, splice, if_true, if_false, Bool.false_eq_true, true_and, and_true, AV.cells, okA, oneA, fzs, fz, opTmp, Option.bind_some, Option.map_some, List.getElem?_cons_zero, List.getElem?_cons_succ, and_self, canonR, canon, canons, shift, shifts, pushAll, pushFrom, tys147, onceR, Option.getD_some, Option.getD_none, bne, Nat.reduceBNe, Bool.and_true, Bool.and_false, Bool.true_and, Bool.false_and, Bool.and_self, postU, postV, allocE, storeE, eq_self, put_at, push_at, Option.map_none, Option.map_some, optNat, hv.len']
  (first | refine call_plain (ref06_Size k r c w hm) (by first | rfl | simp only [plains, plain, Bool.and_true, Bool.and_self, *]) ?_ | refine call_pure (ref06_Size k r c w hm) (by first | rfl | simp only [plains, plain, Bool.and_true, Bool.and_self, *]) (by intro k; first | rfl | simp only [shift, shifts, intV, boolV, *]) ?_); simp only [↓pre, post, ↓reduceIte, Nat.reduceEqDiff, Nat.reduceAdd, Nat.reduceMul, Nat.reduceSub, Nat.reduceLeDiff, Nat.reduceMod, Nat.reduceDiv, reduceCtorEq, Nat.reduceLT, Nat.reduceGT, Nat.reduceBEq, Option.isSome_some, ne_eq, Int.reduceEq, not_false_eq_true, bin_quo, bin_rem, List.length_cons, List.length_nil, List.map_cons, List.map_nil, List.append_nil, List.cons_append, List.nil_append, List.take_succ_cons, List.take_zero, List.drop_succ_cons, List.drop_zero, Nat.zero_add, Nat.add_zero, Nat.zero_le, Nat.le_refl, decide_true, decide_false, Bool.not_true, Bool.not_false, stepW, opE, intV, parV, boxE, loadE, partE, faddrE, fieldE, checkE, extractE, resultsE, resEs, resE, buildE, fillE, splice, if_true, if_false, Bool.false_eq_true, true_and, and_true, AV.cells, okA, oneA, fzs, fz, opTmp, Option.bind_some, Option.map_some, List.getElem?_cons_zero, List.getElem?_cons_succ, and_self, canonR, canon, canons, shift, shifts, pushAll, pushFrom, tys147, onceR, Option.getD_some, Option.getD_none, bne, Nat.reduceBNe, Bool.and_true, Bool.and_false, Bool.true_and, Bool.false_and, Bool.and_self, postU, postV, allocE, storeE, eq_self, put_at, push_at, Option.map_none, Option.map_some, optNat, hv.len', hb2, hv.addr', l0, l1, l2, l3, Nat.mul_one, b0, b1, b2, b3, c84, c50, w5]; (first | refine call_plain (n4) (by first | rfl | simp only [plains, plain, Bool.and_true, Bool.and_self, *]) ?_ | refine call_pure (n4) (by first | rfl | simp only [plains, plain, Bool.and_true, Bool.and_self, *]) (by intro k; first | rfl | simp only [shift, shifts, intV, boolV, *]) ?_); simp only [↓pre, post, ↓reduceIte, Nat.reduceEqDiff, Nat.reduceAdd, Nat.reduceMul, Nat.reduceSub, Nat.reduceLeDiff, Nat.reduceMod, Nat.reduceDiv, reduceCtorEq, Nat.reduceLT, Nat.reduceGT, Nat.reduceBEq, Option.isSome_some, ne_eq, Int.reduceEq, not_false_eq_true, bin_quo, bin_rem, List.length_cons, List.length_nil, List.map_cons, List.map_nil, List.append_nil, List.cons_append, List.nil_append, List.take_succ_cons, List.take_zero, List.drop_succ_cons, List.drop_zero, Nat.zero_add, Nat.add_zero, Nat.zero_le, Nat.le_refl, decide_true, decide_false, Bool.not_true, Bool.not_false, stepW, opE, intV, parV, boxE, loadE, partE, faddrE, fieldE, checkE, extractE, resultsE, resEs, resE, buildE, fillE, splice, if_true, if_false, Bool.false_eq_true, true_and, and_true, AV.cells, okA, oneA, fzs, fz, opTmp, Option.bind_some, Option.map_some, List.getElem?_cons_zero, List.getElem?_cons_succ, and_self, canonR, canon, canons, shift, shifts, pushAll, pushFrom, tys147, onceR, Option.getD_some, Option.getD_none, bne, Nat.reduceBNe, Bool.and_true, Bool.and_false, Bool.true_and, Bool.false_and, Bool.and_self, postU, postV, allocE, storeE, eq_self, put_at, push_at, Option.map_none, Option.map_some, optNat, hv.len', hb2, hv.addr', l0, l1, l2, l3, Nat.mul_one, b0, b1, b2, b3, c84, c50, w5]; (first | refine call_plain (n8) (by first | rfl | simp only [plains, plain, Bool.and_true, Bool.and_self, *]) ?_ | refine call_pure (n8) (by first | rfl | simp only [plains, plain, Bool.and_true, Bool.and_self, *]) (by intro k; first | rfl | simp only [shift, shifts, intV, boolV, *]) ?_); simp only [↓pre, post, ↓reduceIte, Nat.reduceEqDiff, Nat.reduceAdd, Nat.reduceMul, Nat.reduceSub, Nat.reduceLeDiff, Nat.reduceMod, Nat.reduceDiv, reduceCtorEq, Nat.reduceLT, Nat.reduceGT, Nat.reduceBEq, Option.isSome_some, ne_eq, Int.reduceEq, not_false_eq_true, bin_quo, bin_rem, List.length_cons, List.length_nil, List.map_cons, List.map_nil, List.append_nil, List.cons_append, List.nil_append, List.take_succ_cons, List.take_zero, List.drop_succ_cons, List.drop_zero, Nat.zero_add, Nat.add_zero, Nat.zero_le, Nat.le_refl, decide_true, decide_false, Bool.not_true, Bool.not_false, stepW, opE, intV, parV, boxE, loadE, partE, faddrE, fieldE, checkE, extractE, resultsE, resEs, resE, buildE, fillE, splice, if_true, if_false, Bool.false_eq_true, true_and, and_true, AV.cells, okA, oneA, fzs, fz, opTmp, Option.bind_some, Option.map_some, List.getElem?_cons_zero, List.getElem?_cons_succ, and_self, canonR, canon, canons, shift, shifts, pushAll, pushFrom, tys147, onceR, Option.getD_some, Option.getD_none, bne, Nat.reduceBNe, Bool.and_true, Bool.and_false, Bool.true_and, Bool.false_and, Bool.and_self, postU, postV, allocE, storeE, eq_self, put_at, push_at, Option.map_none, Option.map_some, optNat, hv.len', hb2, hv.addr', l0, l1, l2, l3, Nat.mul_one, b0, b1, b2, b3, c84, c50, w5]
  refine contW_fixed (by kernel_rfl) ?_
  simp only [↓pre, post, ↓reduceIte, Nat.reduceEqDiff, Nat.reduceAdd, Nat.reduceMul, Nat.reduceSub, Nat.reduceLeDiff, Nat.reduceMod, Nat.reduceDiv, reduceCtorEq, Nat.reduceLT, Nat.reduceGT, Nat.reduceBEq, Option.isSome_some, ne_eq, Int.reduceEq, not_false_eq_true, bin_quo, bin_rem, List.length_cons, List.length_nil, List.map_cons, List.map_nil, List.append_nil, List.cons_append, List.nil_append, List.take_succ_cons, List.take_zero, List.drop_succ_cons, List.drop_zero, Nat.zero_add, Nat.add_zero, Nat.zero_le, Nat.le_refl, decide_true, decide_false, Bool.not_true, Bool.not_false, stepW, opE, intV, parV, boxE, loadE, partE, faddrE, fieldE, checkE, extractE, resultsE, resEs, resE, buildE, fillE, splice, if_true, if_false, Bool.false_eq_true, true_and, and_true, AV.cells, okA, oneA, fzs, fz, opTmp, Option.bind_some, Option.map_some, List.getElem?_cons_zero, List.getElem?_cons_succ, and_self, canonR, canon, canons, shift, shifts, pushAll, pushFrom, tys147, onceR, Option.getD_some, Option.getD_none, bne, Nat.reduceBNe, Bool.and_true, Bool.and_false, Bool.true_and, Bool.false_and, Bool.and_self, postU, postV, allocE, storeE, eq_self, put_at, push_at, Option.map_none, Option.map_some, optNat]
  refine contW_fixed (by kernel_rfl) ?_
  simp only [↓pre, post, ↓reduceIte, Nat.reduceEqDiff, Nat.reduceAdd, Nat.reduceMul, Nat.reduceSub, Nat.reduceLeDiff, Nat.reduceMod, Nat.reduceDiv, reduceCtorEq, Nat.reduceLT, Nat.reduceGT, Nat.reduceBEq, Option.isSome_some, ne_eq, Int.reduceEq, not_false_eq_true, bin_quo, bin_rem, List.length_cons, List.length_nil, List.map_cons, List.map_nil, List.append_nil, List.cons_append, List.nil_append, List.take_succ_cons, List.take_zero, List.drop_succ_cons, List.drop_zero, Nat.zero_add, Nat.add_zero, Nat.zero_le, Nat.le_refl, decide_true, decide_false, Bool.not_true, Bool.not_false, stepW, opE, intV, parV, boxE, loadE, partE, faddrE, fieldE, checkE, extractE, resultsE, resEs, resE, buildE, fillE, splice, if_true, if_false, Bool.false_eq_true, true_and, and_true, AV.cells, okA, oneA, fzs, fz, opTmp, Option.bind_some, Option.map_some, List.getElem?_cons_zero, List.getElem?_cons_succ, and_self, canonR, canon, canons, shift, shifts, pushAll, pushFrom, tys147, onceR, Option.getD_some, Option.getD_none, bne, Nat.reduceBNe, Bool.and_true, Bool.and_false, Bool.true_and, Bool.false_and, Bool.and_self, postU, postV, allocE, storeE, eq_self, put_at, push_at, Option.map_none, Option.map_some, optNat, hv.len']
  (first | refine call_plain (ref06_N k r c w hm) (by first | rfl | simp only [plains, plain, Bool.and_true, Bool.and_self, *]) ?_ | refine call_pure (ref06_N k r c w hm) (by first | rfl | simp only [plains, plain, Bool.and_true, Bool.and_self, *]) (by intro k; first | rfl | simp only [shift, shifts, intV, boolV, *]) ?_); simp only [↓pre, post, ↓reduceIte, Nat.reduceEqDiff, Nat.reduceAdd, Nat.reduceMul, Nat.reduceSub, Nat.reduceLeDiff, Nat.reduceMod, Nat.reduceDiv, reduceCtorEq, Nat.reduceLT, Nat.reduceGT, Nat.reduceBEq, Option.isSome_some, ne_eq, Int.reduceEq, not_false_eq_true, bin_quo, bin_rem, List.length_cons, List.length_nil, List.map_cons, List.map_nil, List.append_nil, List.cons_append, List.nil_append, List.take_succ_cons, List.take_zero, List.drop_succ_cons, List.drop_zero, Nat.zero_add, Nat.add_zero, Nat.zero_le, Nat.le_refl, decide_true, decide_false, Bool.not_true, Bool.not_false, stepW, opE, intV, parV, boxE, loadE, partE, faddrE, fieldE, checkE, extractE, resultsE, resEs, resE, buildE, fillE, splice, if_true, if_false, Bool.false_eq_true, true_and, and_true, AV.cells, okA, oneA, fzs, fz, opTmp, Option.bind_some, Option.map_some, List.getElem?_cons_zero, List.getElem?_cons_succ, and_self, canonR, canon, canons, shift, shifts, pushAll, pushFrom, tys147, onceR, Option.getD_some, Option.getD_none, bne, Nat.reduceBNe, Bool.and_true, Bool.and_false, Bool.true_and, Bool.false_and, Bool.and_self, postU, postV, allocE, storeE, eq_self, put_at, push_at, Option.map_none, Option.map_some, optNat, hN]
  rw [codeW_loop]
  refine loop_intro (fun n e m => ∃ i, n + i = N ∧ e 1 = v ∧ e 2 = .tptr 0 [intV k, intV r, intV c, intV w] ∧ e 4 = .ptr 0 0 ∧ e 6 = .ptr 1 0 ∧ e 7 = intV (N : Nat) ∧ e 8 = intV (i : Nat) ∧ 1 < m.next ∧ m.at_ 0 = some ⟨[.val (.int .u8 0), intV 0, intV 0, intV 0, nilS, nilS], 122, .var, true⟩ ∧ ∃ vv, m.at_ 1 = some ⟨[.val (.int .u8 a2.toNat), intV a3.toNat, intV (numAt bs 4), intV (numAt bs 8), vv, nilS], 122, .var, true⟩ ∧ Own m 3 1 vv i (intsA (numsI bs i))) N ⟨0, by omega, ?_⟩ ?_
  · refine ⟨rfl, rfl, rfl, rfl, ?_, rfl, by simp [put_next, push_next, Mem.empty], rfl, nilS, ?_, own_nil⟩
    · simp [Env.set, hN, intV]
    · rfl
  · rintro n e m ⟨i, hi, e1, e2, e4, e6, e7, e8, hnx, hm0, vv, hm1, ho⟩
    by_cases hlt : i < N
    · have l4 : 12 + 4 * i + 4 + C ≤ bs.length := by have := hlen.out; omega
      have g1 : ((i : Nat) : Int) < ((N : Nat) : Int) := by omega
      have hn16 := hN16.out
      have wa : IntKind.i64.wrap (4 * (i : Int)) = ((4 * i : Nat) : Int) := by rw [show (4 * (i : Int)) = ((4 * i : Nat) : Int) by simp]; exact wrap_nat (by omega)
      have wb : IntKind.i64.wrap (12 + ((4 * i : Nat) : Int)) = ((12 + 4 * i : Nat) : Int) := by rw [show (12 + ((4 * i : Nat) : Int)) = ((12 + 4 * i : Nat) : Int) by simp]; exact wrap_nat (by omega)
      have w1 := wrap_succ (n := i) (by omega)
      have ni := ref10_number v bs x (12 + 4 * i) hv (by omega) (by have := hlen.out; omega)
      replace hn16 := Hid.mk hn16
      simp only [↓pre, post, ↓reduceIte, Nat.reduceEqDiff, Nat.reduceAdd, Nat.reduceMul, Nat.reduceSub, Nat.reduceLeDiff, Nat.reduceMod, Nat.reduceDiv, reduceCtorEq, Nat.reduceLT, Nat.reduceGT, Nat.reduceBEq, Option.isSome_some, ne_eq, Int.reduceEq, not_false_eq_true, bin_quo, bin_rem, List.length_cons, List.length_nil, List.map_cons, List.map_nil, List.append_nil, List.cons_append, List.nil_append, List.take_succ_cons, List.take_zero, List.drop_succ_cons, List.drop_zero, Nat.zero_add, Nat.add_zero, Nat.zero_le, Nat.le_refl, decide_true, decide_false, Bool.not_true, Bool.not_false, stepW, opE, intV, parV, boxE, loadE, partE, faddrE, fieldE, checkE, extractE, resultsE, resEs, resE, buildE, fillE, splice, if_true, if_false, Bool.false_eq_true, true_and, and_true, AV.cells, okA, oneA, fzs, fz, opTmp, Option.bind_some, Option.map_some, List.getElem?_cons_zero, List.getElem?_cons_succ, and_self, canonR, canon, canons, shift, shifts, pushAll, pushFrom, tys147, onceR, Option.getD_some, Option.getD_none, bne, Nat.reduceBNe, Bool.and_true, Bool.and_false, Bool.true_and, Bool.false_and, Bool.and_self, postU, postV, allocE, storeE, eq_self, put_at, push_at, Option.map_none, Option.map_some, optNat, e1, e2, e4, e6, e7, e8, g1, hm1, wa, wb]
      (first | refine call_plain (ni) (by first | rfl | simp only [plains, plain, Bool.and_true, Bool.and_self, *]) ?_ | refine call_pure (ni) (by first | rfl | simp only [plains, plain, Bool.and_true, Bool.and_self, *]) (by intro k; first | rfl | simp only [shift, shifts, intV, boolV, *]) ?_); simp only [↓pre, post, ↓reduceIte, Nat.reduceEqDiff, Nat.reduceAdd, Nat.reduceMul, Nat.reduceSub, Nat.reduceLeDiff, Nat.reduceMod, Nat.reduceDiv, reduceCtorEq, Nat.reduceLT, Nat.reduceGT, Nat.reduceBEq, Option.isSome_some, ne_eq, Int.reduceEq, not_false_eq_true, bin_quo, bin_rem, List.length_cons, List.length_nil, List.map_cons, List.map_nil, List.append_nil, List.cons_append, List.nil_append, List.take_succ_cons, List.take_zero, List.drop_succ_cons, List.drop_zero, Nat.zero_add, Nat.add_zero, Nat.zero_le, Nat.le_refl, decide_true, decide_false, Bool.not_true, Bool.not_false, stepW, opE, intV, parV, boxE, loadE, partE, faddrE, fieldE, checkE, extractE, resultsE, resEs, resE, buildE, fillE, splice, if_true, if_false, Bool.false_eq_true, true_and, and_true, AV.cells, okA, oneA, fzs, fz, opTmp, Option.bind_some, Option.map_some, List.getElem?_cons_zero, List.getElem?_cons_succ, and_self, canonR, canon, canons, shift, shifts, pushAll, pushFrom, tys147, onceR, Option.getD_some, Option.getD_none, bne, Nat.reduceBNe, Bool.and_true, Bool.and_false, Bool.true_and, Bool.false_and, Bool.and_self, postU, postV, allocE, storeE, eq_self, put_at, push_at, Option.map_none, Option.map_some, optNat, e1, e2, e4, e6, e7, e8, g1, hm1]
      refine app_keep (sz := 1) (y := 8) (zl := [.int .i64 0]) (by kernel_rfl) ho (by kernel_rfl) (by kernel_rfl) (by kernel_rfl) rfl srcT1 (by rfl) (by have := hN16.out; omega) (by have := hN16.out; omega) ?_
      intro vv' m' ho' hnx' hkeep hbl
      have hm1' := hkeep 1 _ hm1 hnx (ho.ne_kind hm1 (fun h => by cases h))
      have hm0' := hkeep 0 _ hm0 (by omega) (ho.ne_kind hm0 (fun h => by cases h))
      obtain ⟨b', rfl, hb', hlt'⟩ := ho'.sl (by omega)
      refine contW_fixed (by kernel_rfl) ?_
      simp only [↓pre, post, ↓reduceIte, Nat.reduceEqDiff, Nat.reduceAdd, Nat.reduceMul, Nat.reduceSub, Nat.reduceLeDiff, Nat.reduceMod, Nat.reduceDiv, reduceCtorEq, Nat.reduceLT, Nat.reduceGT, Nat.reduceBEq, Option.isSome_some, ne_eq, Int.reduceEq, not_false_eq_true, bin_quo, bin_rem, List.length_cons, List.length_nil, List.map_cons, List.map_nil, List.append_nil, List.cons_append, List.nil_append, List.take_succ_cons, List.take_zero, List.drop_succ_cons, List.drop_zero, Nat.zero_add, Nat.add_zero, Nat.zero_le, Nat.le_refl, decide_true, decide_false, Bool.not_true, Bool.not_false, stepW, opE, intV, parV, boxE, loadE, partE, faddrE, fieldE, checkE, extractE, resultsE, resEs, resE, buildE, fillE, splice, if_true, if_false, Bool.false_eq_true, true_and, and_true, AV.cells, okA, oneA, fzs, fz, opTmp, Option.bind_some, Option.map_some, List.getElem?_cons_zero, List.getElem?_cons_succ, and_self, canonR, canon, canons, shift, shifts, pushAll, pushFrom, tys147, onceR, Option.getD_some, Option.getD_none, bne, Nat.reduceBNe, Bool.and_true, Bool.and_false, Bool.true_and, Bool.false_and, Bool.and_self, postU, postV, allocE, storeE, eq_self, put_at, push_at, Option.map_none, Option.map_some, optNat, e1, e2, e4, e6, e7, e8, hm1']
      refine contW_fixed (by kernel_rfl) ?_
      simp only [↓pre, post, ↓reduceIte, Nat.reduceEqDiff, Nat.reduceAdd, Nat.reduceMul, Nat.reduceSub, Nat.reduceLeDiff, Nat.reduceMod, Nat.reduceDiv, reduceCtorEq, Nat.reduceLT, Nat.reduceGT, Nat.reduceBEq, Option.isSome_some, ne_eq, Int.reduceEq, not_false_eq_true, bin_quo, bin_rem, List.length_cons, List.length_nil, List.map_cons, List.map_nil, List.append_nil, List.cons_append, List.nil_append, List.take_succ_cons, List.take_zero, List.drop_succ_cons, List.drop_zero, Nat.zero_add, Nat.add_zero, Nat.zero_le, Nat.le_refl, decide_true, decide_false, Bool.not_true, Bool.not_false, stepW, opE, intV, parV, boxE, loadE, partE, faddrE, fieldE, checkE, extractE, resultsE, resEs, resE, buildE, fillE, splice, if_true, if_false, Bool.false_eq_true, true_and, and_true, AV.cells, okA, oneA, fzs, fz, opTmp, Option.bind_some, Option.map_some, List.getElem?_cons_zero, List.getElem?_cons_succ, and_self, canonR, canon, canons, shift, shifts, pushAll, pushFrom, tys147, onceR, Option.getD_some, Option.getD_none, bne, Nat.reduceBNe, Bool.and_true, Bool.and_false, Bool.true_and, Bool.false_and, Bool.and_self, postU, postV, allocE, storeE, eq_self, put_at, push_at, Option.map_none, Option.map_some, optNat, e1, e2, e4, e6, e7, e8, hm1', hm0', w1]
      refine ⟨n - 1, by omega, i + 1, by omega, rfl, by omega, .sl b' 0 (i + 1) (i + 1) false, rfl, ?_⟩
      rw [numsI_succ, intsA_append]
      exact ho'.put_kind hm1' (fun h => by cases h)
    · have hiN : i = N := by omega
      subst hiN
      have hdl : (bs.drop (12 + 4 * i)).length = C := by have := hlen.out; rw [List.length_drop]; omega
      have g1 : ¬ ((i : Nat) : Int) < ((i : Nat) : Int) := by omega
      have hn16 := hN16.out
      have wa : IntKind.i64.wrap (4 * (i : Int)) = ((4 * i : Nat) : Int) := by rw [show (4 * (i : Int)) = ((4 * i : Nat) : Int) by simp]; exact wrap_nat (by omega)
      have wb : IntKind.i64.wrap (12 + ((4 * i : Nat) : Int)) = ((12 + 4 * i : Nat) : Int) := by rw [show (12 + ((4 * i : Nat) : Int)) = ((12 + 4 * i : Nat) : Int) by simp]; exact wrap_nat (by omega)
      obtain ⟨v5, s5, r5⟩ := hv.slice (P := Try.prog) (t := 29) (sz := 1) (lo := some (12 + 4 * i)) (hi := none) (by kernel_rfl) (by have := hlen.out; simp only [Option.getD_some, Option.getD_none]; omega) (by simp)
      simp only [Option.getD_some, Option.getD_none, Nat.mul_one] at r5
      rw [bytesA_drop bs x _ (by have := hlen.out; omega), ← List.length_drop, hdl] at r5
      replace hn16 := Hid.mk hn16
      simp only [↓pre, post, ↓reduceIte, Nat.reduceEqDiff, Nat.reduceAdd, Nat.reduceMul, Nat.reduceSub, Nat.reduceLeDiff, Nat.reduceMod, Nat.reduceDiv, reduceCtorEq, Nat.reduceLT, Nat.reduceGT, Nat.reduceBEq, Option.isSome_some, ne_eq, Int.reduceEq, not_false_eq_true, bin_quo, bin_rem, List.length_cons, List.length_nil, List.map_cons, List.map_nil, List.append_nil, List.cons_append, List.nil_append, List.take_succ_cons, List.take_zero, List.drop_succ_cons, List.drop_zero, Nat.zero_add, Nat.add_zero, Nat.zero_le, Nat.le_refl, decide_true, decide_false, Bool.not_true, Bool.not_false, stepW, opE, intV, parV, boxE, loadE, partE, faddrE, fieldE, checkE, extractE, resultsE, resEs, resE, buildE, fillE, splice, if_true, if_false, Bool.false_eq_true, true_and, and_true, AV.cells, okA, oneA, fzs, fz, opTmp, Option.bind_some, Option.map_some, List.getElem?_cons_zero, List.getElem?_cons_succ, and_self, canonR, canon, canons, shift, shifts, pushAll, pushFrom, tys147, onceR, Option.getD_some, Option.getD_none, bne, Nat.reduceBNe, Bool.and_true, Bool.and_false, Bool.true_and, Bool.false_and, Bool.and_self, postU, postV, allocE, storeE, eq_self, put_at, push_at, Option.map_none, Option.map_some, optNat, e1, e2, e4, e6, e7, e8, g1, decide_false, cond_f, hm1, wa, wb, hv.slOk, s5]
      have hsrc : srcE Try.prog 5 1 m v5 = some (bytesA (bs.drop (12 + 4 * i)), C) := by
        have hq := r5.src (P := Try.prog) (m := m) (el := 5) (sz := 1) (by rw [Nat.mul_one, List.length_append]; simp [bytesA]; have := hlen.out; omega)
        rw [hq, Nat.mul_one, List.take_left' (by simp [bytesA]; have := hlen.out; omega)]
      have hm0b := ho.ne_kind hm0 (fun h => by cases h)
      have hm1b := ho.ne_kind hm1 (fun h => by cases h)
      refine app_keep (kd := .flat) (sz := 1) (y := 1) (zl := [.int .u8 0]) (by kernel_rfl) own_nil (by kernel_rfl) (by kernel_rfl) (by kernel_rfl) rfl hsrc (by simp [bytesA]; have := hlen.out; omega) (by have := hN16.out; omega) (by have := hN16.out; omega) ?_
      intro dv m' hd hnx' hkeep hbl
      obtain ⟨b2, rfl, hb2', hlt2⟩ := hd.sl (by have := hN16.out; omega)
      obtain ⟨b, rfl, hb, hlt1⟩ := ho.sl (by have := hN16.out; omega)
      have hm1' := hkeep 1 _ hm1 hnx (fun h => by cases h)
      have hm0' := hkeep 0 _ hm0 (by omega) (fun h => by cases h)
      have hb' := hkeep b _ hb hlt1 (fun h => by cases h)
      have hb0 : ¬ b = 0 := fun h => hm0b (by rw [h]; rfl)
      have hb1 : ¬ b = 1 := fun h => hm1b (by rw [h]; rfl)
      have hb2n : b2 = m.next := by
        rcases hbl b2 rfl with h | h
        · exact h
        · cases h
      have h20 : ¬ b2 = 0 := by omega
      have h21 : ¬ b2 = 1 := by omega
      have hbb : ¬ b = b2 := by omega
      refine contW_fixed (by kernel_rfl) ?_
      rw [List.nil_append] at hb2'
      rw [Nat.zero_add]
      simp only [↓pre, post, ↓reduceIte, Nat.reduceEqDiff, Nat.reduceAdd, Nat.reduceMul, Nat.reduceSub, Nat.reduceLeDiff, Nat.reduceMod, Nat.reduceDiv, reduceCtorEq, Nat.reduceLT, Nat.reduceGT, Nat.reduceBEq, Option.isSome_some, ne_eq, Int.reduceEq, not_false_eq_true, bin_quo, bin_rem, List.length_cons, List.length_nil, List.map_cons, List.map_nil, List.append_nil, List.cons_append, List.nil_append, List.take_succ_cons, List.take_zero, List.drop_succ_cons, List.drop_zero, Nat.zero_add, Nat.add_zero, Nat.zero_le, Nat.le_refl, decide_true, decide_false, Bool.not_true, Bool.not_false, stepW, opE, intV, parV, boxE, loadE, partE, faddrE, fieldE, checkE, extractE, resultsE, resEs, resE, buildE, fillE, splice, if_true, if_false, Bool.false_eq_true, true_and, and_true, AV.cells, okA, oneA, fzs, fz, opTmp, Option.bind_some, Option.map_some, List.getElem?_cons_zero, List.getElem?_cons_succ, and_self, canonR, canon, canons, shift, shifts, pushAll, pushFrom, tys147, onceR, Option.getD_some, Option.getD_none, bne, Nat.reduceBNe, Bool.and_true, Bool.and_false, Bool.true_and, Bool.false_and, Bool.and_self, postU, postV, allocE, storeE, eq_self, put_at, push_at, Option.map_none, Option.map_some, optNat, e1, e2, e4, e6, e7, e8, hm1']
      refine contW_fixed (by kernel_rfl) ?_
      generalize hm2 : Mem.put _ _ _ = m2
      have q0 : m2.at_ 0 = some ⟨[.val (.int .u8 0), intV 0, intV 0, intV 0, nilS, nilS], 122, .var, true⟩ := by rw [← hm2, put_at, if_neg (by omega)]; exact hm0'
      have q1 : m2.at_ 1 = some ⟨[.val (.int .u8 a2.toNat), intV a3.toNat, intV (numAt bs 4), intV (numAt bs 8), .sl b 0 i i false, .sl b2 0 C C false], 122, .var, true⟩ := by rw [← hm2, put_at, if_pos rfl]; rfl
      have q2 : m2.at_ b = some ⟨intsA (numsI bs i), 3, .flat, true⟩ := by rw [← hm2, put_at, if_neg hb1]; exact hb'
      have q3 : m2.at_ b2 = some ⟨bytesA (bs.drop (12 + 4 * i)), 5, .flat, true⟩ := by rw [← hm2, put_at, if_neg h21]; exact hb2'
      simp only [↓pre, post, ↓reduceIte, Nat.reduceEqDiff, Nat.reduceAdd, Nat.reduceMul, Nat.reduceSub, Nat.reduceLeDiff, Nat.reduceMod, Nat.reduceDiv, reduceCtorEq, Nat.reduceLT, Nat.reduceGT, Nat.reduceBEq, Option.isSome_some, ne_eq, Int.reduceEq, not_false_eq_true, bin_quo, bin_rem, List.length_cons, List.length_nil, List.map_cons, List.map_nil, List.append_nil, List.cons_append, List.nil_append, List.take_succ_cons, List.take_zero, List.drop_succ_cons, List.drop_zero, Nat.zero_add, Nat.add_zero, Nat.zero_le, Nat.le_refl, decide_true, decide_false, Bool.not_true, Bool.not_false, stepW, opE, intV, parV, boxE, loadE, partE, faddrE, fieldE, checkE, extractE, resultsE, resEs, resE, buildE, fillE, splice, if_true, if_false, Bool.false_eq_true, true_and, and_true, AV.cells, okA, oneA, fzs, fz, opTmp, Option.bind_some, Option.map_some, List.getElem?_cons_zero, List.getElem?_cons_succ, and_self, canonR, canon, canons, shift, shifts, pushAll, pushFrom, tys147, onceR, Option.getD_some, Option.getD_none, bne, Nat.reduceBNe, Bool.and_true, Bool.and_false, Bool.true_and, Bool.false_and, Bool.and_self, postU, postV, allocE, storeE, eq_self, put_at, push_at, Option.map_none, Option.map_some, optNat, e1, e2, e4, e6, e7, e8, q1]
      have hil : (numsI bs i).length = i := numsI_len bs i
      refine call_lent (ref10_May k r c w a2.toNat a3.toNat (numAt bs 4) (numAt bs 8) hm (.tree i i (intsA (numsI bs i)) false) (.tree C C (bytesA (bs.drop (12 + 4 * i))) false) (numsI bs i) [] C (bytesA (bs.drop (12 + 4 * i))) ⟨.inr (.inr ⟨i, false, by rw [hil, List.append_nil], by rw [hil]; exact Nat.le_refl _⟩)⟩ ⟨.inr (.inr ⟨C, false, rfl, Nat.le_refl _⟩)⟩ (by rw [hil]; have := hN16.out; omega)) (by simp [lends, lend, q2, q3, parV, slotV, intV]) rfl rfl ?_
      rw [← hres]
      cases hms : mayS k r c w a2.toNat a3.toNat (numAt bs 4) (numAt bs 8) (numsI bs i) C
      · simp only [↓pre, post, ↓reduceIte, Nat.reduceEqDiff, Nat.reduceAdd, Nat.reduceMul, Nat.reduceSub, Nat.reduceLeDiff, Nat.reduceMod, Nat.reduceDiv, reduceCtorEq, Nat.reduceLT, Nat.reduceGT, Nat.reduceBEq, Option.isSome_some, ne_eq, Int.reduceEq, not_false_eq_true, bin_quo, bin_rem, List.length_cons, List.length_nil, List.map_cons, List.map_nil, List.append_nil, List.cons_append, List.nil_append, List.take_succ_cons, List.take_zero, List.drop_succ_cons, List.drop_zero, Nat.zero_add, Nat.add_zero, Nat.zero_le, Nat.le_refl, decide_true, decide_false, Bool.not_true, Bool.not_false, stepW, opE, intV, parV, boxE, loadE, partE, faddrE, fieldE, checkE, extractE, resultsE, resEs, resE, buildE, fillE, splice, if_true, if_false, Bool.false_eq_true, true_and, and_true, AV.cells, okA, oneA, fzs, fz, opTmp, Option.bind_some, Option.map_some, List.getElem?_cons_zero, List.getElem?_cons_succ, and_self, canonR, canon, canons, shift, shifts, pushAll, pushFrom, tys147, onceR, Option.getD_some, Option.getD_none, bne, Nat.reduceBNe, Bool.and_true, Bool.and_false, Bool.true_and, Bool.false_and, Bool.and_self, postU, postV, allocE, storeE, eq_self, put_at, push_at, Option.map_none, Option.map_some, optNat, e2, e4, e6, q0, q1, boolV, cond_t, slotV, nilS]
        rfl
      · have k3 : kindT Try.prog 3 = .flat := by kernel_rfl
        have k5 : kindT Try.prog 5 = .flat := by kernel_rfl
        have hbn' : ¬ b2 = b := fun h => hbb h.symm
        simp only [↓pre, post, ↓reduceIte, Nat.reduceEqDiff, Nat.reduceAdd, Nat.reduceMul, Nat.reduceSub, Nat.reduceLeDiff, Nat.reduceMod, Nat.reduceDiv, reduceCtorEq, Nat.reduceLT, Nat.reduceGT, Nat.reduceBEq, Option.isSome_some, ne_eq, Int.reduceEq, not_false_eq_true, bin_quo, bin_rem, List.length_cons, List.length_nil, List.map_cons, List.map_nil, List.append_nil, List.cons_append, List.nil_append, List.take_succ_cons, List.take_zero, List.drop_succ_cons, List.drop_zero, Nat.zero_add, Nat.add_zero, Nat.zero_le, Nat.le_refl, decide_true, decide_false, Bool.not_true, Bool.not_false, stepW, opE, intV, parV, boxE, loadE, partE, faddrE, fieldE, checkE, extractE, resultsE, resEs, resE, buildE, fillE, splice, if_true, if_false, Bool.false_eq_true, true_and, and_true, AV.cells, okA, oneA, fzs, fz, opTmp, Option.bind_some, Option.map_some, List.getElem?_cons_zero, List.getElem?_cons_succ, and_self, canonR, canon, canons, shift, shifts, pushAll, pushFrom, tys147, onceR, Option.getD_some, Option.getD_none, bne, Nat.reduceBNe, Bool.and_true, Bool.and_false, Bool.true_and, Bool.false_and, Bool.and_self, postU, postV, allocE, storeE, eq_self, put_at, push_at, Option.map_none, Option.map_some, optNat, e2, e4, e6, q0, q1, boolV, cond_f, slotV]
        simp only [hb0, hb1, h20, h21, q2, q3, k3, k5, if_false, if_true, Option.bind_some, Option.map_some, List.any_nil, Bool.false_eq_true, ne_eq, not_true_eq_false, or_self, List.any_cons, beq_iff_eq, hbn', hbb, Bool.or_false, List.nil_append, List.drop_zero, beq_eq_false_iff_ne.2 hbb]
        rfl
theorem ref10_Read (k r c w : Int) (v : AV) (bs : List UInt8) (x : List AV) (hv : RdSl v bs.length (bytesA bs ++ x)) (hm : mayB k r c w = true) : FSpec Try.prog 147 [parV k r c w, v] ⟨readV k r c w bs, []⟩ := by
  have hmn := may_n hm
  by_cases hs : (bs.length : Int) = sizeI k r c
  · have l12 : 12 ≤ bs.length := by unfold sizeI at hs; omega
    obtain ⟨a0, h0⟩ : ∃ a, bs[0]? = some a := ⟨_, List.getElem?_eq_getElem (by omega)⟩
    obtain ⟨a1, h1⟩ : ∃ a, bs[1]? = some a := ⟨_, List.getElem?_eq_getElem (by omega)⟩
    obtain ⟨a2, h2⟩ : ∃ a, bs[2]? = some a := ⟨_, List.getElem?_eq_getElem (by omega)⟩
    obtain ⟨a3, h3⟩ : ∃ a, bs[3]? = some a := ⟨_, List.getElem?_eq_getElem (by omega)⟩
    by_cases hmg : a0 = 84 ∧ a1 = 50
    · obtain ⟨rfl, rfl⟩ := hmg
      have hq := ref10_Read_main k r c w v bs x hv hm hs h0 h1 h2 h3
      have hvl : (slotC k r bs).vec.length = (k + r).toNat := numsI_len _ _
      have hdl : (slotC k r bs).data.length = c.toNat := by simp only [slotC, List.length_drop]; unfold sizeI at hs; omega
      have e2 : (bs.getD 2 0) = a2 := by rw [List.getD_eq_getElem?_getD, h2]; rfl
      have e3 : (bs.getD 3 0) = a3 := by rw [List.getD_eq_getElem?_getD, h3]; rfl
      have hmay : maySC k r c w (slotC k r bs) = mayS k r c w a2.toNat a3.toNat (numAt bs 4) (numAt bs 8) (numsI bs (k + r).toNat) c.toNat := by
        unfold maySC; rw [hdl]; simp only [slotC, e2, e3]
      have hsl : isSlot k r c w bs = maySC k r c w (slotC k r bs) := by unfold isSlot; rw [decide_eq_true hs, decide_eq_true h0, decide_eq_true h1]; rfl
      rw [← hmay] at hq
      cases hb : maySC k r c w (slotC k r bs) with
      | false =>
        rw [hb] at hq
        simpa [readV, hsl, hb, readR] using hq
      | true =>
        rw [hb] at hq
        have k3 : kindT Try.prog 3 = .flat := by kernel_rfl
        have k5 : kindT Try.prog 5 = .flat := by kernel_rfl
        have := fspec_frozen 1 hq (by simp [readR, fzOk, fzOks, slotV, intV, boolV, k3, k5])
        have hv2 : readV k r c w bs = fzV Try.prog (readR a2.toNat a3.toNat bs (k + r).toNat c.toNat true).rows 1 (readR a2.toNat a3.toNat bs (k + r).toNat c.toNat true).v := by
          unfold readV
          rw [if_pos (by rw [hsl, hb]), hsl, hb]
          simp [readR, fzV, fzVs, slotV, intV, boolV, k3, k5, SlotC.v, hvl, hdl]
          simp [slotC, h2, h3]
        rw [hv2]
        exact this
    · have hne : ¬ ((a0.toNat : Int) = 84 ∧ (a1.toNat : Int) = 50) := by
        rintro ⟨h3, h4⟩
        exact hmg ⟨UInt8.toNat_inj.1 (by simp; omega), UInt8.toNat_inj.1 (by simp; omega)⟩
      have hsl : isSlot k r c w bs = false := by
        unfold isSlot
        rw [h0, h1]
        by_cases h5 : a0 = 84
        · have h6 : ¬ a1 = 50 := fun h => hmg ⟨h5, h⟩
          simp [h6]
        · simp [h5]
      have := ref10_Read_magic k r c w v bs x hv hm hs h0 h1 hne
      simpa [readV, hsl] using this
  · have h1 : isSlot k r c w bs = false := by unfold isSlot; rw [decide_eq_false hs]; rfl
    have := ref10_Read_len k r c w v bs x hv hm hs
    simpa [readV, h1] using this
end Go.Proofs.Ytenmbfplceeolaa

set_option linter.unusedVariables false
set_option linter.unusedSimpArgs false
set_option maxRecDepth 10000
namespace Go.Proofs.Ytenmbfplceeolaa
open Go Go.Tw Go.Proofs

theorem me0 : Mem.empty.next = 0 := rfl
def onceO : Nat → Bool := fun d => d != 6 && d != 8
def isOf (k r c w : Int) (bs : List UInt8) (ix : Int) : Bool := isSlot k r c w bs && decide ((slotC k r bs).ix = ix)
theorem slotC_plain (s : SlotC) : plain s.v = true := rfl
theorem slotC_canon {P : Program} {m : Mem} (s : SlotC) (d : Nat) (ids : List (Nat × Nat)) (rows : List (TypeId × List AV)) : canon P m d ids rows s.v = some (s.v, ids, rows) := by
  unfold SlotC.v slotV
  cases d <;> simp [canon, canons, intV]
theorem slotC_shift (s : SlotC) (k : Nat) : shift k s.v = s.v := by
  unfold SlotC.v slotV
  simp [shift, shifts, intV]
theorem ref11_Of (k r c w ix : Int) (v : AV) (bs : List UInt8) (x : List AV) (hv : RdSl v bs.length (bytesA bs ++ x)) (hm : mayB k r c w = true) : FSpec Try.prog 137 [parV k r c w, v, intV ix] ⟨.tup [if isOf k r c w bs ix = true then (slotC k r bs).v else slot0, boolV (isOf k r c w bs ix)], []⟩ := by
  have hp := hv.plain
  have hr := ref10_Read k r c w v bs x hv hm
  unfold readV at hr
  cases hs : isSlot k r c w bs with
  | false =>
    rw [hs] at hr
    have h1 : isOf k r c w bs ix = false := by unfold isOf; rw [hs]; rfl
    rw [h1]
    rw [if_neg (by decide)] at hr
    rw [if_neg (by decide)]
    unfold slot0 slotV at hr ⊢
    refine fspec_of_body follows Try.func137 (by unfold Try.f137; rfl) (by unfold Try.f137; simp) onceO (by unfold Try.f137; simp) (by kernel_rfl) ?_; unfold Try.f137
    simp only [↓pre, post, ↓reduceIte, Nat.reduceEqDiff, Nat.reduceAdd, Nat.reduceMul, Nat.reduceSub, Nat.reduceLeDiff, Nat.reduceMod, Nat.reduceDiv, reduceCtorEq, Nat.reduceLT, Nat.reduceGT, Nat.reduceBEq, Option.isSome_some, ne_eq, Int.reduceEq, not_false_eq_true, bin_quo, bin_rem, List.length_cons, List.length_nil, List.map_cons, List.map_nil, List.append_nil, List.cons_append, List.nil_append, List.take_succ_cons, List.take_zero, List.drop_succ_cons, List.drop_zero, Nat.zero_add, Nat.add_zero, Nat.zero_le, Nat.le_refl, decide_true, decide_false, Bool.not_true, Bool.not_false, stepW, opE, intV, parV, boxE, loadE, partE, faddrE, fieldE, checkE, extractE, resultsE, resEs, resE, buildE, fillE, splice, if_true, if_false, Bool.false_eq_true, true_and, and_true, AV.cells, okA, oneA, fzs, fz, opTmp, Option.bind_some, Option.map_some, List.getElem?_cons_zero, List.getElem?_cons_succ, and_self, canonR, canon, canons, shift, shifts, pushAll, pushFrom, tys137, onceO, Option.getD_some, Option.getD_none, bne, Nat.reduceBNe, Bool.and_true, Bool.and_false, Bool.true_and, Bool.false_and, Bool.and_self, postU, postV, allocE, storeE, eq_self, put_at, push_at, Option.map_none, Option.map_some, optNat, me0, Nat.one_ne_zero, Nat.zero_ne_one]
    (first | refine call_plain (hr) (by first | rfl | simp only [plains, plain, Bool.and_true, Bool.and_self, *]) ?_ | refine call_pure (hr) (by first | rfl | simp only [plains, plain, Bool.and_true, Bool.and_self, *]) (by intro k; first | rfl | simp only [shift, shifts, intV, boolV, *]) ?_); simp only [↓pre, post, ↓reduceIte, Nat.reduceEqDiff, Nat.reduceAdd, Nat.reduceMul, Nat.reduceSub, Nat.reduceLeDiff, Nat.reduceMod, Nat.reduceDiv, reduceCtorEq, Nat.reduceLT, Nat.reduceGT, Nat.reduceBEq, Option.isSome_some, ne_eq, Int.reduceEq, not_false_eq_true, bin_quo, bin_rem, List.length_cons, List.length_nil, List.map_cons, List.map_nil, List.append_nil, List.cons_append, List.nil_append, List.take_succ_cons, List.take_zero, List.drop_succ_cons, List.drop_zero, Nat.zero_add, Nat.add_zero, Nat.zero_le, Nat.le_refl, decide_true, decide_false, Bool.not_true, Bool.not_false, stepW, opE, intV, parV, boxE, loadE, partE, faddrE, fieldE, checkE, extractE, resultsE, resEs, resE, buildE, fillE, splice, if_true, if_false, Bool.false_eq_true, true_and, and_true, AV.cells, okA, oneA, fzs, fz, opTmp, Option.bind_some, Option.map_some, List.getElem?_cons_zero, List.getElem?_cons_succ, and_self, canonR, canon, canons, shift, shifts, pushAll, pushFrom, tys137, onceO, Option.getD_some, Option.getD_none, bne, Nat.reduceBNe, Bool.and_true, Bool.and_false, Bool.true_and, Bool.false_and, Bool.and_self, postU, postV, allocE, storeE, eq_self, put_at, push_at, Option.map_none, Option.map_some, optNat, me0, Nat.one_ne_zero, Nat.zero_ne_one, boolV, nilS]
  | true =>
    rw [hs] at hr
    rw [if_pos rfl] at hr
    have h1 : isOf k r c w bs ix = decide ((slotC k r bs).ix = ix) := by unfold isOf; rw [hs]; rfl
    rw [h1]
    generalize hsc : slotC k r bs = s at *
    by_cases he : s.ix = ix
    · rw [if_pos (by simpa using he), decide_eq_true he]
      unfold SlotC.v slotV at hr ⊢
      refine fspec_of_body follows Try.func137 (by unfold Try.f137; rfl) (by unfold Try.f137; simp) onceO (by unfold Try.f137; simp) (by kernel_rfl) ?_; unfold Try.f137
      simp only [↓pre, post, ↓reduceIte, Nat.reduceEqDiff, Nat.reduceAdd, Nat.reduceMul, Nat.reduceSub, Nat.reduceLeDiff, Nat.reduceMod, Nat.reduceDiv, reduceCtorEq, Nat.reduceLT, Nat.reduceGT, Nat.reduceBEq, Option.isSome_some, ne_eq, Int.reduceEq, not_false_eq_true, bin_quo, bin_rem, List.length_cons, List.length_nil, List.map_cons, List.map_nil, List.append_nil, List.cons_append, List.nil_append, List.take_succ_cons, List.take_zero, List.drop_succ_cons, List.drop_zero, Nat.zero_add, Nat.add_zero, Nat.zero_le, Nat.le_refl, decide_true, decide_false, Bool.not_true, Bool.not_false, stepW, opE, intV, parV, boxE, loadE, partE, faddrE, fieldE, checkE, extractE, resultsE, resEs, resE, buildE, fillE, splice, if_true, if_false, Bool.false_eq_true, true_and, and_true, AV.cells, okA, oneA, fzs, fz, opTmp, Option.bind_some, Option.map_some, List.getElem?_cons_zero, List.getElem?_cons_succ, and_self, canonR, canon, canons, shift, shifts, pushAll, pushFrom, tys137, onceO, Option.getD_some, Option.getD_none, bne, Nat.reduceBNe, Bool.and_true, Bool.and_false, Bool.true_and, Bool.false_and, Bool.and_self, postU, postV, allocE, storeE, eq_self, put_at, push_at, Option.map_none, Option.map_some, optNat, me0, Nat.one_ne_zero, Nat.zero_ne_one]
      (first | refine call_plain (hr) (by first | rfl | simp only [plains, plain, Bool.and_true, Bool.and_self, *]) ?_ | refine call_pure (hr) (by first | rfl | simp only [plains, plain, Bool.and_true, Bool.and_self, *]) (by intro k; first | rfl | simp only [shift, shifts, intV, boolV, *]) ?_); simp only [↓pre, post, ↓reduceIte, Nat.reduceEqDiff, Nat.reduceAdd, Nat.reduceMul, Nat.reduceSub, Nat.reduceLeDiff, Nat.reduceMod, Nat.reduceDiv, reduceCtorEq, Nat.reduceLT, Nat.reduceGT, Nat.reduceBEq, Option.isSome_some, ne_eq, Int.reduceEq, not_false_eq_true, bin_quo, bin_rem, List.length_cons, List.length_nil, List.map_cons, List.map_nil, List.append_nil, List.cons_append, List.nil_append, List.take_succ_cons, List.take_zero, List.drop_succ_cons, List.drop_zero, Nat.zero_add, Nat.add_zero, Nat.zero_le, Nat.le_refl, decide_true, decide_false, Bool.not_true, Bool.not_false, stepW, opE, intV, parV, boxE, loadE, partE, faddrE, fieldE, checkE, extractE, resultsE, resEs, resE, buildE, fillE, splice, if_true, if_false, Bool.false_eq_true, true_and, and_true, AV.cells, okA, oneA, fzs, fz, opTmp, Option.bind_some, Option.map_some, List.getElem?_cons_zero, List.getElem?_cons_succ, and_self, canonR, canon, canons, shift, shifts, pushAll, pushFrom, tys137, onceO, Option.getD_some, Option.getD_none, bne, Nat.reduceBNe, Bool.and_true, Bool.and_false, Bool.true_and, Bool.false_and, Bool.and_self, postU, postV, allocE, storeE, eq_self, put_at, push_at, Option.map_none, Option.map_some, optNat, me0, Nat.one_ne_zero, Nat.zero_ne_one, boolV, nilS, he]
    · rw [if_neg (by simpa using he), decide_eq_false he]
      unfold SlotC.v slotV at hr
      unfold slot0 slotV
      refine fspec_of_body follows Try.func137 (by unfold Try.f137; rfl) (by unfold Try.f137; simp) onceO (by unfold Try.f137; simp) (by kernel_rfl) ?_; unfold Try.f137
      simp only [↓pre, post, ↓reduceIte, Nat.reduceEqDiff, Nat.reduceAdd, Nat.reduceMul, Nat.reduceSub, Nat.reduceLeDiff, Nat.reduceMod, Nat.reduceDiv, reduceCtorEq, Nat.reduceLT, Nat.reduceGT, Nat.reduceBEq, Option.isSome_some, ne_eq, Int.reduceEq, not_false_eq_true, bin_quo, bin_rem, List.length_cons, List.length_nil, List.map_cons, List.map_nil, List.append_nil, List.cons_append, List.nil_append, List.take_succ_cons, List.take_zero, List.drop_succ_cons, List.drop_zero, Nat.zero_add, Nat.add_zero, Nat.zero_le, Nat.le_refl, decide_true, decide_false, Bool.not_true, Bool.not_false, stepW, opE, intV, parV, boxE, loadE, partE, faddrE, fieldE, checkE, extractE, resultsE, resEs, resE, buildE, fillE, splice, if_true, if_false, Bool.false_eq_true, true_and, and_true, AV.cells, okA, oneA, fzs, fz, opTmp, Option.bind_some, Option.map_some, List.getElem?_cons_zero, List.getElem?_cons_succ, and_self, canonR, canon, canons, shift, shifts, pushAll, pushFrom, tys137, onceO, Option.getD_some, Option.getD_none, bne, Nat.reduceBNe, Bool.and_true, Bool.and_false, Bool.true_and, Bool.false_and, Bool.and_self, postU, postV, allocE, storeE, eq_self, put_at, push_at, Option.map_none, Option.map_some, optNat, me0, Nat.one_ne_zero, Nat.zero_ne_one]
      (first | refine call_plain (hr) (by first | rfl | simp only [plains, plain, Bool.and_true, Bool.and_self, *]) ?_ | refine call_pure (hr) (by first | rfl | simp only [plains, plain, Bool.and_true, Bool.and_self, *]) (by intro k; first | rfl | simp only [shift, shifts, intV, boolV, *]) ?_); simp only [↓pre, post, ↓reduceIte, Nat.reduceEqDiff, Nat.reduceAdd, Nat.reduceMul, Nat.reduceSub, Nat.reduceLeDiff, Nat.reduceMod, Nat.reduceDiv, reduceCtorEq, Nat.reduceLT, Nat.reduceGT, Nat.reduceBEq, Option.isSome_some, ne_eq, Int.reduceEq, not_false_eq_true, bin_quo, bin_rem, List.length_cons, List.length_nil, List.map_cons, List.map_nil, List.append_nil, List.cons_append, List.nil_append, List.take_succ_cons, List.take_zero, List.drop_succ_cons, List.drop_zero, Nat.zero_add, Nat.add_zero, Nat.zero_le, Nat.le_refl, decide_true, decide_false, Bool.not_true, Bool.not_false, stepW, opE, intV, parV, boxE, loadE, partE, faddrE, fieldE, checkE, extractE, resultsE, resEs, resE, buildE, fillE, splice, if_true, if_false, Bool.false_eq_true, true_and, and_true, AV.cells, okA, oneA, fzs, fz, opTmp, Option.bind_some, Option.map_some, List.getElem?_cons_zero, List.getElem?_cons_succ, and_self, canonR, canon, canons, shift, shifts, pushAll, pushFrom, tys137, onceO, Option.getD_some, Option.getD_none, bne, Nat.reduceBNe, Bool.and_true, Bool.and_false, Bool.true_and, Bool.false_and, Bool.and_self, postU, postV, allocE, storeE, eq_self, put_at, push_at, Option.map_none, Option.map_some, optNat, me0, Nat.one_ne_zero, Nat.zero_ne_one, boolV, nilS, he]
/-- may a pair's slots be, by their lengths? -/
def lenB (k r c : Int) (n : Nat) : Bool := decide ((n : Int) = 0) || decide ((n : Int) = sizeI k r c)
def pairB (k r c : Int) (n n' : Nat) : Bool := lenB k r c n && lenB k r c n'
theorem ref11_Pair (k r c w : Int) (v v' : AV) (n n' : Nat) (x x' : List AV) (hv : RdSl v n x) (hv' : RdSl v' n' x') (hm : mayB k r c w = true) : FSpec Try.prog 136 [parV k r c w, .agg [v, v']] ⟨boolV (pairB k r c n n'), []⟩ := by
  have hp := hv.plain
  have hp' := hv'.plain
  have f1 := rd_fz hv
  have f2 := rd_fz hv'
  have o1 := rd_one hv
  have o2 := rd_one hv'
  have hsz := ref06_Size k r c w hm
  refine fspec_of_body follows Try.func136 (by unfold Try.f136; rfl) (by unfold Try.f136; simp) onceA (by unfold Try.f136; simp) (by kernel_rfl) ?_; unfold Try.f136
  simp only [↓pre, post, ↓reduceIte, Nat.reduceEqDiff, Nat.reduceAdd, Nat.reduceMul, Nat.reduceSub, Nat.reduceLeDiff, Nat.reduceMod, Nat.reduceDiv, reduceCtorEq, Nat.reduceLT, Nat.reduceGT, Nat.reduceBEq, Option.isSome_some, ne_eq, Int.reduceEq, not_false_eq_true, bin_quo, bin_rem, List.length_cons, List.length_nil, List.map_cons, List.map_nil, List.append_nil, List.cons_append, List.nil_append, List.take_succ_cons, List.take_zero, List.drop_succ_cons, List.drop_zero, Nat.zero_add, Nat.add_zero, Nat.zero_le, Nat.le_refl, decide_true, decide_false, Bool.not_true, Bool.not_false, stepW, opE, intV, parV, boxE, loadE, partE, faddrE, fieldE, checkE, extractE, resultsE, resEs, resE, buildE, fillE, splice, if_true, if_false, Bool.false_eq_true, true_and, and_true, AV.cells, okA, oneA, fzs, fz, opTmp, Option.bind_some, Option.map_some, List.getElem?_cons_zero, List.getElem?_cons_succ, and_self, canonR, canon, canons, shift, shifts, pushAll, pushFrom, tys136, onceA, postU, f1, f2, o1, o2]
  rw [codeW_loop]
  refine loop_intro (fun q e m => ∃ i, q + i = 2 ∧ e 2 = .tptr 0 [intV k, intV r, intV c, intV w] ∧ e 3 = .tptr 0 [v, v'] ∧ e 5 = intV (i : Nat) ∧ (1 ≤ i → lenB k r c n = true) ∧ (2 ≤ i → lenB k r c n' = true)) 2 ⟨0, by omega, rfl, rfl, rfl, by omega, by omega⟩ ?_
  rintro q e m ⟨i, hi, e2, e3, e5, g1, g2⟩
  by_cases hlt : i < 2
  · obtain ⟨u, ul, ux, hu, hru, hul⟩ : ∃ u ul ux, [v, v'][i]? = some u ∧ RdSl u ul ux ∧ ul = (if i = 0 then n else n') := by
      match i, hlt with
      | 0, _ => exact ⟨v, n, x, rfl, hv, rfl⟩
      | 1, _ => exact ⟨v', n', x', rfl, hv', rfl⟩
    have ou := rd_one hru
    have hlt' : (i : Int) < 2 := by omega
    have w1 := wrap_succ (n := i) (by omega)
    by_cases h0 : (ul : Int) = 0
    · simp only [↓pre, post, ↓reduceIte, Nat.reduceEqDiff, Nat.reduceAdd, Nat.reduceMul, Nat.reduceSub, Nat.reduceLeDiff, Nat.reduceMod, Nat.reduceDiv, reduceCtorEq, Nat.reduceLT, Nat.reduceGT, Nat.reduceBEq, Option.isSome_some, ne_eq, Int.reduceEq, not_false_eq_true, bin_quo, bin_rem, List.length_cons, List.length_nil, List.map_cons, List.map_nil, List.append_nil, List.cons_append, List.nil_append, List.take_succ_cons, List.take_zero, List.drop_succ_cons, List.drop_zero, Nat.zero_add, Nat.add_zero, Nat.zero_le, Nat.le_refl, decide_true, decide_false, Bool.not_true, Bool.not_false, stepW, opE, intV, parV, boxE, loadE, partE, faddrE, fieldE, checkE, extractE, resultsE, resEs, resE, buildE, fillE, splice, if_true, if_false, Bool.false_eq_true, true_and, and_true, AV.cells, okA, oneA, fzs, fz, opTmp, Option.bind_some, Option.map_some, List.getElem?_cons_zero, List.getElem?_cons_succ, and_self, canonR, canon, canons, shift, shifts, pushAll, pushFrom, tys136, onceA, postU, postA, e2, e3, e5, hlt, hlt', hu, ou, hru.len', h0, w1, Nat.mul_one]
      have hlb : lenB k r c ul = true := by unfold lenB; rw [decide_eq_true h0]; rfl
      refine ⟨q - 1, by omega, i + 1, by omega, rfl, fun hi1 => ?_, fun hi2 => ?_⟩
      · by_cases h9 : i = 0
        · rw [if_pos h9] at hul; subst hul; exact hlb
        · exact g1 (by omega)
      · rw [if_neg (by omega)] at hul; subst hul; exact hlb
    · by_cases h1 : (ul : Int) = sizeI k r c
      · simp only [↓pre, post, ↓reduceIte, Nat.reduceEqDiff, Nat.reduceAdd, Nat.reduceMul, Nat.reduceSub, Nat.reduceLeDiff, Nat.reduceMod, Nat.reduceDiv, reduceCtorEq, Nat.reduceLT, Nat.reduceGT, Nat.reduceBEq, Option.isSome_some, ne_eq, Int.reduceEq, not_false_eq_true, bin_quo, bin_rem, List.length_cons, List.length_nil, List.map_cons, List.map_nil, List.append_nil, List.cons_append, List.nil_append, List.take_succ_cons, List.take_zero, List.drop_succ_cons, List.drop_zero, Nat.zero_add, Nat.add_zero, Nat.zero_le, Nat.le_refl, decide_true, decide_false, Bool.not_true, Bool.not_false, stepW, opE, intV, parV, boxE, loadE, partE, faddrE, fieldE, checkE, extractE, resultsE, resEs, resE, buildE, fillE, splice, if_true, if_false, Bool.false_eq_true, true_and, and_true, AV.cells, okA, oneA, fzs, fz, opTmp, Option.bind_some, Option.map_some, List.getElem?_cons_zero, List.getElem?_cons_succ, and_self, canonR, canon, canons, shift, shifts, pushAll, pushFrom, tys136, onceA, postU, postA, e2, e3, e5, hlt, hlt', hu, ou, hru.len', h0, w1, Nat.mul_one]
        (first | refine call_plain (hsz) (by first | rfl | simp only [plains, plain, Bool.and_true, Bool.and_self, *]) ?_ | refine call_pure (hsz) (by first | rfl | simp only [plains, plain, Bool.and_true, Bool.and_self, *]) (by intro k; first | rfl | simp only [shift, shifts, intV, boolV, *]) ?_); simp only [↓pre, post, ↓reduceIte, Nat.reduceEqDiff, Nat.reduceAdd, Nat.reduceMul, Nat.reduceSub, Nat.reduceLeDiff, Nat.reduceMod, Nat.reduceDiv, reduceCtorEq, Nat.reduceLT, Nat.reduceGT, Nat.reduceBEq, Option.isSome_some, ne_eq, Int.reduceEq, not_false_eq_true, bin_quo, bin_rem, List.length_cons, List.length_nil, List.map_cons, List.map_nil, List.append_nil, List.cons_append, List.nil_append, List.take_succ_cons, List.take_zero, List.drop_succ_cons, List.drop_zero, Nat.zero_add, Nat.add_zero, Nat.zero_le, Nat.le_refl, decide_true, decide_false, Bool.not_true, Bool.not_false, stepW, opE, intV, parV, boxE, loadE, partE, faddrE, fieldE, checkE, extractE, resultsE, resEs, resE, buildE, fillE, splice, if_true, if_false, Bool.false_eq_true, true_and, and_true, AV.cells, okA, oneA, fzs, fz, opTmp, Option.bind_some, Option.map_some, List.getElem?_cons_zero, List.getElem?_cons_succ, and_self, canonR, canon, canons, shift, shifts, pushAll, pushFrom, tys136, onceA, postU, e2, e3, e5, h1, w1]
        have hlb : lenB k r c ul = true := by unfold lenB; rw [decide_eq_true h1, Bool.or_true]
        refine ⟨q - 1, by omega, i + 1, by omega, rfl, fun hi1 => ?_, fun hi2 => ?_⟩
        · by_cases h9 : i = 0
          · rw [if_pos h9] at hul; subst hul; exact hlb
          · exact g1 (by omega)
        · rw [if_neg (by omega)] at hul; subst hul; exact hlb
      · simp only [↓pre, post, ↓reduceIte, Nat.reduceEqDiff, Nat.reduceAdd, Nat.reduceMul, Nat.reduceSub, Nat.reduceLeDiff, Nat.reduceMod, Nat.reduceDiv, reduceCtorEq, Nat.reduceLT, Nat.reduceGT, Nat.reduceBEq, Option.isSome_some, ne_eq, Int.reduceEq, not_false_eq_true, bin_quo, bin_rem, List.length_cons, List.length_nil, List.map_cons, List.map_nil, List.append_nil, List.cons_append, List.nil_append, List.take_succ_cons, List.take_zero, List.drop_succ_cons, List.drop_zero, Nat.zero_add, Nat.add_zero, Nat.zero_le, Nat.le_refl, decide_true, decide_false, Bool.not_true, Bool.not_false, stepW, opE, intV, parV, boxE, loadE, partE, faddrE, fieldE, checkE, extractE, resultsE, resEs, resE, buildE, fillE, splice, if_true, if_false, Bool.false_eq_true, true_and, and_true, AV.cells, okA, oneA, fzs, fz, opTmp, Option.bind_some, Option.map_some, List.getElem?_cons_zero, List.getElem?_cons_succ, and_self, canonR, canon, canons, shift, shifts, pushAll, pushFrom, tys136, onceA, postU, postA, e2, e3, e5, hlt, hlt', hu, ou, hru.len', h0, w1, Nat.mul_one]
        (first | refine call_plain (hsz) (by first | rfl | simp only [plains, plain, Bool.and_true, Bool.and_self, *]) ?_ | refine call_pure (hsz) (by first | rfl | simp only [plains, plain, Bool.and_true, Bool.and_self, *]) (by intro k; first | rfl | simp only [shift, shifts, intV, boolV, *]) ?_); simp only [↓pre, post, ↓reduceIte, Nat.reduceEqDiff, Nat.reduceAdd, Nat.reduceMul, Nat.reduceSub, Nat.reduceLeDiff, Nat.reduceMod, Nat.reduceDiv, reduceCtorEq, Nat.reduceLT, Nat.reduceGT, Nat.reduceBEq, Option.isSome_some, ne_eq, Int.reduceEq, not_false_eq_true, bin_quo, bin_rem, List.length_cons, List.length_nil, List.map_cons, List.map_nil, List.append_nil, List.cons_append, List.nil_append, List.take_succ_cons, List.take_zero, List.drop_succ_cons, List.drop_zero, Nat.zero_add, Nat.add_zero, Nat.zero_le, Nat.le_refl, decide_true, decide_false, Bool.not_true, Bool.not_false, stepW, opE, intV, parV, boxE, loadE, partE, faddrE, fieldE, checkE, extractE, resultsE, resEs, resE, buildE, fillE, splice, if_true, if_false, Bool.false_eq_true, true_and, and_true, AV.cells, okA, oneA, fzs, fz, opTmp, Option.bind_some, Option.map_some, List.getElem?_cons_zero, List.getElem?_cons_succ, and_self, canonR, canon, canons, shift, shifts, pushAll, pushFrom, tys136, onceA, postU, e2, e3, e5, h1, w1]
        have hlb : lenB k r c ul = false := by unfold lenB; rw [decide_eq_false h0, decide_eq_false h1]; rfl
        have hpf : pairB k r c n n' = false := by
          unfold pairB
          split at hul
          · subst hul; rw [hlb]; rfl
          · subst hul; rw [hlb, Bool.and_false]
        rw [hpf]; rfl
  · have hlt' : ¬ (i : Int) < 2 := by omega
    have hp : pairB k r c n n' = true := by
      unfold pairB
      rw [g1 (by omega), g2 (by omega)]
      rfl
    simp only [↓pre, post, ↓reduceIte, Nat.reduceEqDiff, Nat.reduceAdd, Nat.reduceMul, Nat.reduceSub, Nat.reduceLeDiff, Nat.reduceMod, Nat.reduceDiv, reduceCtorEq, Nat.reduceLT, Nat.reduceGT, Nat.reduceBEq, Option.isSome_some, ne_eq, Int.reduceEq, not_false_eq_true, bin_quo, bin_rem, List.length_cons, List.length_nil, List.map_cons, List.map_nil, List.append_nil, List.cons_append, List.nil_append, List.take_succ_cons, List.take_zero, List.drop_succ_cons, List.drop_zero, Nat.zero_add, Nat.add_zero, Nat.zero_le, Nat.le_refl, decide_true, decide_false, Bool.not_true, Bool.not_false, stepW, opE, intV, parV, boxE, loadE, partE, faddrE, fieldE, checkE, extractE, resultsE, resEs, resE, buildE, fillE, splice, if_true, if_false, Bool.false_eq_true, true_and, and_true, AV.cells, okA, oneA, fzs, fz, opTmp, Option.bind_some, Option.map_some, List.getElem?_cons_zero, List.getElem?_cons_succ, and_self, canonR, canon, canons, shift, shifts, pushAll, pushFrom, tys136, onceA, postU, postA, e2, e3, e5, hlt', decide_false, cond_f, hp, boolV]
end Go.Proofs.Ytenmbfplceeolaa

set_option linter.unusedVariables false
set_option linter.unusedSimpArgs false
set_option maxRecDepth 10000
namespace Go.Proofs.Ytenmbfplceeolaa
open Go Go.Tw Go.Proofs

abbrev PairB := List UInt8 × List UInt8
/-- a row of pairs of bytes, to be read -/
structure RowV (v : AV) (ps : List PairB) (cells : List AV) : Prop where
  rd : RdSl v ps.length cells
  at_ : ∀ i p, ps[i]? = some p → ∃ a b xa xb, cells[i * 2]? = some a ∧ cells[i * 2 + 1]? = some b ∧ RdSl a p.1.length (bytesA p.1 ++ xa) ∧ RdSl b p.2.length (bytesA p.2 ++ xb)
theorem take2 {cells : List AV} {i : Nat} {a b : AV} (h : cells[i]? = some a) (h' : cells[i + 1]? = some b) : (cells.drop i).take 2 = [a, b] ∧ i + 2 ≤ cells.length := by
  have h1 := (List.getElem?_eq_some_iff.1 h')
  obtain ⟨h1, h2⟩ := h1
  obtain ⟨h3, h4⟩ := List.getElem?_eq_some_iff.1 h
  refine ⟨?_, by omega⟩
  rw [List.drop_eq_getElem_cons h3, List.drop_eq_getElem_cons h1, h4, h2]
  rfl
def rowB (k r c : Int) (ps : List PairB) : Bool := decide ((ps.length : Int) = k + r) && ps.all (fun p => pairB k r c p.1.length p.2.length)
theorem ref12_Row (k r c w : Int) (v : AV) (ps : List PairB) (cells : List AV) (hv : RowV v ps cells) (hm : mayB k r c w = true) : FSpec Try.prog 111 [parV k r c w, v] ⟨boolV (rowB k r c ps), []⟩ := by
  have hp := hv.rd.plain
  have hmn := may_n hm
  have hN := ref06_N k r c w hm
  by_cases hl : (ps.length : Int) = k + r
  · have hl32 : ps.length ≤ 16 := by omega
    have hrb : rowB k r c ps = ps.all (fun p => pairB k r c p.1.length p.2.length) := by unfold rowB; rw [decide_eq_true hl]; rfl
    rw [hrb]
    replace hmn := Hid.mk hmn
    replace hl32 := Hid.mk hl32
    replace hrb := Hid.mk hrb
    refine fspec_of_body follows Try.func111 (by unfold Try.f111; rfl) (by unfold Try.f111; simp) onceA (by unfold Try.f111; simp) (by kernel_rfl) ?_; unfold Try.f111
    simp only [↓pre, post, ↓reduceIte, Nat.reduceEqDiff, Nat.reduceAdd, Nat.reduceMul, Nat.reduceSub, Nat.reduceLeDiff, Nat.reduceMod, Nat.reduceDiv, reduceCtorEq, Nat.reduceLT, Nat.reduceGT, Nat.reduceBEq, Option.isSome_some, ne_eq, Int.reduceEq, not_false_eq_true, bin_quo, bin_rem, List.length_cons, List.length_nil, List.map_cons, List.map_nil, List.append_nil, List.cons_append, List.nil_append, List.take_succ_cons, List.take_zero, List.drop_succ_cons, List.drop_zero, Nat.zero_add, Nat.add_zero, Nat.zero_le, Nat.le_refl, decide_true, decide_false, Bool.not_true, Bool.not_false, stepW, opE, intV, parV, boxE, loadE, partE, faddrE, fieldE, checkE, extractE, resultsE, resEs, resE, buildE, fillE, splice, if_true, if_false, Bool.false_eq_true, true_and, and_true, AV.cells, okA, oneA, fzs, fz, opTmp, Option.bind_some, Option.map_some, List.getElem?_cons_zero, List.getElem?_cons_succ, and_self, canonR, canon, canons, shift, shifts, pushAll, pushFrom, tys111, onceA, postU, hv.rd.len']
    (first | refine call_plain (hN) (by first | rfl | simp only [plains, plain, Bool.and_true, Bool.and_self, *]) ?_ | refine call_pure (hN) (by first | rfl | simp only [plains, plain, Bool.and_true, Bool.and_self, *]) (by intro k; first | rfl | simp only [shift, shifts, intV, boolV, *]) ?_); simp only [↓pre, post, ↓reduceIte, Nat.reduceEqDiff, Nat.reduceAdd, Nat.reduceMul, Nat.reduceSub, Nat.reduceLeDiff, Nat.reduceMod, Nat.reduceDiv, reduceCtorEq, Nat.reduceLT, Nat.reduceGT, Nat.reduceBEq, Option.isSome_some, ne_eq, Int.reduceEq, not_false_eq_true, bin_quo, bin_rem, List.length_cons, List.length_nil, List.map_cons, List.map_nil, List.append_nil, List.cons_append, List.nil_append, List.take_succ_cons, List.take_zero, List.drop_succ_cons, List.drop_zero, Nat.zero_add, Nat.add_zero, Nat.zero_le, Nat.le_refl, decide_true, decide_false, Bool.not_true, Bool.not_false, stepW, opE, intV, parV, boxE, loadE, partE, faddrE, fieldE, checkE, extractE, resultsE, resEs, resE, buildE, fillE, splice, if_true, if_false, Bool.false_eq_true, true_and, and_true, AV.cells, okA, oneA, fzs, fz, opTmp, Option.bind_some, Option.map_some, List.getElem?_cons_zero, List.getElem?_cons_succ, and_self, canonR, canon, canons, shift, shifts, pushAll, pushFrom, tys111, onceA, postU, hl]
    rw [codeW_loop]
    refine loop_intro (fun q e m => ∃ i, q + i = ps.length ∧ e 1 = v ∧ e 2 = .tptr 0 [intV k, intV r, intV c, intV w] ∧ e 5 = intV (i : Nat) ∧ ∀ j p, j < i → ps[j]? = some p → pairB k r c p.1.length p.2.length = true) ps.length ⟨0, by omega, rfl, rfl, rfl, fun j p h => by omega⟩ ?_
    rintro q e m ⟨i, hi, e1, e2, e5, hpre⟩
    replace hpre := Hid.mk hpre
    by_cases hlt : i < ps.length
    · have hlt' : ((i : Nat) : Int) < ((ps.length : Nat) : Int) := by omega
      obtain ⟨p, hpi⟩ : ∃ p, ps[i]? = some p := ⟨_, List.getElem?_eq_getElem hlt⟩
      obtain ⟨a, b, xa, xb, ha, hb, hra, hrb'⟩ := hv.at_ i p hpi
      obtain ⟨ht, htl⟩ := take2 ha hb
      have pa := hra.plain
      have pb := hrb'.plain
      have hpr := ref11_Pair k r c w a b p.1.length p.2.length _ _ hra hrb' hm
      have w1 := wrap_succ (n := i) (by have := hl32.out; omega)
      replace hpi := Hid.mk hpi
      simp only [↓pre, post, ↓reduceIte, Nat.reduceEqDiff, Nat.reduceAdd, Nat.reduceMul, Nat.reduceSub, Nat.reduceLeDiff, Nat.reduceMod, Nat.reduceDiv, reduceCtorEq, Nat.reduceLT, Nat.reduceGT, Nat.reduceBEq, Option.isSome_some, ne_eq, Int.reduceEq, not_false_eq_true, bin_quo, bin_rem, List.length_cons, List.length_nil, List.map_cons, List.map_nil, List.append_nil, List.cons_append, List.nil_append, List.take_succ_cons, List.take_zero, List.drop_succ_cons, List.drop_zero, Nat.zero_add, Nat.add_zero, Nat.zero_le, Nat.le_refl, decide_true, decide_false, Bool.not_true, Bool.not_false, stepW, opE, intV, parV, boxE, loadE, partE, faddrE, fieldE, checkE, extractE, resultsE, resEs, resE, buildE, fillE, splice, if_true, if_false, Bool.false_eq_true, true_and, and_true, AV.cells, okA, oneA, fzs, fz, opTmp, Option.bind_some, Option.map_some, List.getElem?_cons_zero, List.getElem?_cons_succ, and_self, canonR, canon, canons, shift, shifts, pushAll, pushFrom, tys111, onceA, postU, postA, e1, e2, e5, hv.rd.len', hlt', hv.rd.addr', hlt, ht, htl]
      cases hpb : pairB k r c p.1.length p.2.length with
      | true =>
        (first | refine call_plain (hpr) (by first | rfl | simp only [plains, plain, Bool.and_true, Bool.and_self, *]) ?_ | refine call_pure (hpr) (by first | rfl | simp only [plains, plain, Bool.and_true, Bool.and_self, *]) (by intro k; first | rfl | simp only [shift, shifts, intV, boolV, *]) ?_); simp only [↓pre, post, ↓reduceIte, Nat.reduceEqDiff, Nat.reduceAdd, Nat.reduceMul, Nat.reduceSub, Nat.reduceLeDiff, Nat.reduceMod, Nat.reduceDiv, reduceCtorEq, Nat.reduceLT, Nat.reduceGT, Nat.reduceBEq, Option.isSome_some, ne_eq, Int.reduceEq, not_false_eq_true, bin_quo, bin_rem, List.length_cons, List.length_nil, List.map_cons, List.map_nil, List.append_nil, List.cons_append, List.nil_append, List.take_succ_cons, List.take_zero, List.drop_succ_cons, List.drop_zero, Nat.zero_add, Nat.add_zero, Nat.zero_le, Nat.le_refl, decide_true, decide_false, Bool.not_true, Bool.not_false, stepW, opE, intV, parV, boxE, loadE, partE, faddrE, fieldE, checkE, extractE, resultsE, resEs, resE, buildE, fillE, splice, if_true, if_false, Bool.false_eq_true, true_and, and_true, AV.cells, okA, oneA, fzs, fz, opTmp, Option.bind_some, Option.map_some, List.getElem?_cons_zero, List.getElem?_cons_succ, and_self, canonR, canon, canons, shift, shifts, pushAll, pushFrom, tys111, onceA, postU, e1, e2, e5, hpb, boolV, cond_f, cond_t, w1]
        refine ⟨q - 1, by omega, i + 1, by omega, rfl, fun j p' hj hp' => ?_⟩
        by_cases hji : j = i
        · subst hji
          rw [hpi.out] at hp'
          cases hp'
          exact hpb
        · exact hpre.out j p' (by omega) hp'
      | false =>
        have hall : ps.all (fun p => pairB k r c p.1.length p.2.length) = false := by
          rw [List.all_eq_false]
          exact ⟨p, List.mem_of_getElem? hpi.out, by rw [hpb]; decide⟩
        (first | refine call_plain (hpr) (by first | rfl | simp only [plains, plain, Bool.and_true, Bool.and_self, *]) ?_ | refine call_pure (hpr) (by first | rfl | simp only [plains, plain, Bool.and_true, Bool.and_self, *]) (by intro k; first | rfl | simp only [shift, shifts, intV, boolV, *]) ?_); simp only [↓pre, post, ↓reduceIte, Nat.reduceEqDiff, Nat.reduceAdd, Nat.reduceMul, Nat.reduceSub, Nat.reduceLeDiff, Nat.reduceMod, Nat.reduceDiv, reduceCtorEq, Nat.reduceLT, Nat.reduceGT, Nat.reduceBEq, Option.isSome_some, ne_eq, Int.reduceEq, not_false_eq_true, bin_quo, bin_rem, List.length_cons, List.length_nil, List.map_cons, List.map_nil, List.append_nil, List.cons_append, List.nil_append, List.take_succ_cons, List.take_zero, List.drop_succ_cons, List.drop_zero, Nat.zero_add, Nat.add_zero, Nat.zero_le, Nat.le_refl, decide_true, decide_false, Bool.not_true, Bool.not_false, stepW, opE, intV, parV, boxE, loadE, partE, faddrE, fieldE, checkE, extractE, resultsE, resEs, resE, buildE, fillE, splice, if_true, if_false, Bool.false_eq_true, true_and, and_true, AV.cells, okA, oneA, fzs, fz, opTmp, Option.bind_some, Option.map_some, List.getElem?_cons_zero, List.getElem?_cons_succ, and_self, canonR, canon, canons, shift, shifts, pushAll, pushFrom, tys111, onceA, postU, e1, e2, e5, hpb, boolV, cond_f, cond_t, w1, hall]
    · have hlt' : ¬ ((i : Nat) : Int) < ((ps.length : Nat) : Int) := by omega
      have hall : ps.all (fun p => pairB k r c p.1.length p.2.length) = true := by
        rw [List.all_eq_true]
        intro p hp
        obtain ⟨j, hj⟩ := List.getElem?_of_mem hp
        have := (List.getElem?_eq_some_iff.1 hj).1
        exact hpre.out j p (by omega) hj
      simp only [↓pre, post, ↓reduceIte, Nat.reduceEqDiff, Nat.reduceAdd, Nat.reduceMul, Nat.reduceSub, Nat.reduceLeDiff, Nat.reduceMod, Nat.reduceDiv, reduceCtorEq, Nat.reduceLT, Nat.reduceGT, Nat.reduceBEq, Option.isSome_some, ne_eq, Int.reduceEq, not_false_eq_true, bin_quo, bin_rem, List.length_cons, List.length_nil, List.map_cons, List.map_nil, List.append_nil, List.cons_append, List.nil_append, List.take_succ_cons, List.take_zero, List.drop_succ_cons, List.drop_zero, Nat.zero_add, Nat.add_zero, Nat.zero_le, Nat.le_refl, decide_true, decide_false, Bool.not_true, Bool.not_false, stepW, opE, intV, parV, boxE, loadE, partE, faddrE, fieldE, checkE, extractE, resultsE, resEs, resE, buildE, fillE, splice, if_true, if_false, Bool.false_eq_true, true_and, and_true, AV.cells, okA, oneA, fzs, fz, opTmp, Option.bind_some, Option.map_some, List.getElem?_cons_zero, List.getElem?_cons_succ, and_self, canonR, canon, canons, shift, shifts, pushAll, pushFrom, tys111, onceA, postU, e1, e2, e5, hv.rd.len', hlt', decide_false, cond_f, hall, boolV]
  · have hrb : rowB k r c ps = false := by unfold rowB; rw [decide_eq_false hl]; rfl
    rw [hrb]
    refine fspec_of_body follows Try.func111 (by unfold Try.f111; rfl) (by unfold Try.f111; simp) onceA (by unfold Try.f111; simp) (by kernel_rfl) ?_; unfold Try.f111
    simp only [↓pre, post, ↓reduceIte, Nat.reduceEqDiff, Nat.reduceAdd, Nat.reduceMul, Nat.reduceSub, Nat.reduceLeDiff, Nat.reduceMod, Nat.reduceDiv, reduceCtorEq, Nat.reduceLT, Nat.reduceGT, Nat.reduceBEq, Option.isSome_some, ne_eq, Int.reduceEq, not_false_eq_true, bin_quo, bin_rem, List.length_cons, List.length_nil, List.map_cons, List.map_nil, List.append_nil, List.cons_append, List.nil_append, List.take_succ_cons, List.take_zero, List.drop_succ_cons, List.drop_zero, Nat.zero_add, Nat.add_zero, Nat.zero_le, Nat.le_refl, decide_true, decide_false, Bool.not_true, Bool.not_false, stepW, opE, intV, parV, boxE, loadE, partE, faddrE, fieldE, checkE, extractE, resultsE, resEs, resE, buildE, fillE, splice, if_true, if_false, Bool.false_eq_true, true_and, and_true, AV.cells, okA, oneA, fzs, fz, opTmp, Option.bind_some, Option.map_some, List.getElem?_cons_zero, List.getElem?_cons_succ, and_self, canonR, canon, canons, shift, shifts, pushAll, pushFrom, tys111, onceA, postU, hv.rd.len']
    (first | refine call_plain (hN) (by first | rfl | simp only [plains, plain, Bool.and_true, Bool.and_self, *]) ?_ | refine call_pure (hN) (by first | rfl | simp only [plains, plain, Bool.and_true, Bool.and_self, *]) (by intro k; first | rfl | simp only [shift, shifts, intV, boolV, *]) ?_); simp only [↓pre, post, ↓reduceIte, Nat.reduceEqDiff, Nat.reduceAdd, Nat.reduceMul, Nat.reduceSub, Nat.reduceLeDiff, Nat.reduceMod, Nat.reduceDiv, reduceCtorEq, Nat.reduceLT, Nat.reduceGT, Nat.reduceBEq, Option.isSome_some, ne_eq, Int.reduceEq, not_false_eq_true, bin_quo, bin_rem, List.length_cons, List.length_nil, List.map_cons, List.map_nil, List.append_nil, List.cons_append, List.nil_append, List.take_succ_cons, List.take_zero, List.drop_succ_cons, List.drop_zero, Nat.zero_add, Nat.add_zero, Nat.zero_le, Nat.le_refl, decide_true, decide_false, Bool.not_true, Bool.not_false, stepW, opE, intV, parV, boxE, loadE, partE, faddrE, fieldE, checkE, extractE, resultsE, resEs, resE, buildE, fillE, splice, if_true, if_false, Bool.false_eq_true, true_and, and_true, AV.cells, okA, oneA, fzs, fz, opTmp, Option.bind_some, Option.map_some, List.getElem?_cons_zero, List.getElem?_cons_succ, and_self, canonR, canon, canons, shift, shifts, pushAll, pushFrom, tys111, onceA, postU, hl, boolV]
def chkI (k r c w : Int) (ps : List PairB) : Int := if mayB k r c w = true then (if rowB k r c ps = true then 0 else 120) else 2
theorem ref14_Check (k r c w : Int) (v : AV) (ps : List PairB) (cells : List AV) (hv : RowV v ps cells) : FSpec Try.prog 83 [parV k r c w, v] ⟨intV (chkI k r c w ps), []⟩ := by
  have hp := hv.rd.plain
  have h1 := ref06_may k r c w
  unfold chkI
  cases hm : mayB k r c w with
  | false =>
    rw [hm] at h1
    rw [if_neg (by decide)]
    refine fspec_of_body follows Try.func83 (by unfold Try.f83; rfl) (by unfold Try.f83; simp) onceA (by unfold Try.f83; simp) (by kernel_rfl) ?_; unfold Try.f83
    simp only [↓pre, post, ↓reduceIte, Nat.reduceEqDiff, Nat.reduceAdd, Nat.reduceMul, Nat.reduceSub, Nat.reduceLeDiff, Nat.reduceMod, Nat.reduceDiv, reduceCtorEq, Nat.reduceLT, Nat.reduceGT, Nat.reduceBEq, Option.isSome_some, ne_eq, Int.reduceEq, not_false_eq_true, bin_quo, bin_rem, List.length_cons, List.length_nil, List.map_cons, List.map_nil, List.append_nil, List.cons_append, List.nil_append, List.take_succ_cons, List.take_zero, List.drop_succ_cons, List.drop_zero, Nat.zero_add, Nat.add_zero, Nat.zero_le, Nat.le_refl, decide_true, decide_false, Bool.not_true, Bool.not_false, stepW, opE, intV, parV, boxE, loadE, partE, faddrE, fieldE, checkE, extractE, resultsE, resEs, resE, buildE, fillE, splice, if_true, if_false, Bool.false_eq_true, true_and, and_true, AV.cells, okA, oneA, fzs, fz, opTmp, Option.bind_some, Option.map_some, List.getElem?_cons_zero, List.getElem?_cons_succ, and_self, canonR, canon, canons, shift, shifts, pushAll, pushFrom, tys83, onceA, postU]
    (first | refine call_plain (h1) (by first | rfl | simp only [plains, plain, Bool.and_true, Bool.and_self, *]) ?_ | refine call_pure (h1) (by first | rfl | simp only [plains, plain, Bool.and_true, Bool.and_self, *]) (by intro k; first | rfl | simp only [shift, shifts, intV, boolV, *]) ?_); simp only [↓pre, post, ↓reduceIte, Nat.reduceEqDiff, Nat.reduceAdd, Nat.reduceMul, Nat.reduceSub, Nat.reduceLeDiff, Nat.reduceMod, Nat.reduceDiv, reduceCtorEq, Nat.reduceLT, Nat.reduceGT, Nat.reduceBEq, Option.isSome_some, ne_eq, Int.reduceEq, not_false_eq_true, bin_quo, bin_rem, List.length_cons, List.length_nil, List.map_cons, List.map_nil, List.append_nil, List.cons_append, List.nil_append, List.take_succ_cons, List.take_zero, List.drop_succ_cons, List.drop_zero, Nat.zero_add, Nat.add_zero, Nat.zero_le, Nat.le_refl, decide_true, decide_false, Bool.not_true, Bool.not_false, stepW, opE, intV, parV, boxE, loadE, partE, faddrE, fieldE, checkE, extractE, resultsE, resEs, resE, buildE, fillE, splice, if_true, if_false, Bool.false_eq_true, true_and, and_true, AV.cells, okA, oneA, fzs, fz, opTmp, Option.bind_some, Option.map_some, List.getElem?_cons_zero, List.getElem?_cons_succ, and_self, canonR, canon, canons, shift, shifts, pushAll, pushFrom, tys83, onceA, postU, boolV, cond_t, cond_f]
  | true =>
    rw [hm] at h1
    have h2 := ref12_Row k r c w v ps cells hv hm
    rw [if_pos rfl]
    cases hr : rowB k r c ps with
    | false =>
      rw [hr] at h2
      rw [if_neg (by decide)]
      refine fspec_of_body follows Try.func83 (by unfold Try.f83; rfl) (by unfold Try.f83; simp) onceA (by unfold Try.f83; simp) (by kernel_rfl) ?_; unfold Try.f83
      simp only [↓pre, post, ↓reduceIte, Nat.reduceEqDiff, Nat.reduceAdd, Nat.reduceMul, Nat.reduceSub, Nat.reduceLeDiff, Nat.reduceMod, Nat.reduceDiv, reduceCtorEq, Nat.reduceLT, Nat.reduceGT, Nat.reduceBEq, Option.isSome_some, ne_eq, Int.reduceEq, not_false_eq_true, bin_quo, bin_rem, List.length_cons, List.length_nil, List.map_cons, List.map_nil, List.append_nil, List.cons_append, List.nil_append, List.take_succ_cons, List.take_zero, List.drop_succ_cons, List.drop_zero, Nat.zero_add, Nat.add_zero, Nat.zero_le, Nat.le_refl, decide_true, decide_false, Bool.not_true, Bool.not_false, stepW, opE, intV, parV, boxE, loadE, partE, faddrE, fieldE, checkE, extractE, resultsE, resEs, resE, buildE, fillE, splice, if_true, if_false, Bool.false_eq_true, true_and, and_true, AV.cells, okA, oneA, fzs, fz, opTmp, Option.bind_some, Option.map_some, List.getElem?_cons_zero, List.getElem?_cons_succ, and_self, canonR, canon, canons, shift, shifts, pushAll, pushFrom, tys83, onceA, postU]
      (first | refine call_plain (h1) (by first | rfl | simp only [plains, plain, Bool.and_true, Bool.and_self, *]) ?_ | refine call_pure (h1) (by first | rfl | simp only [plains, plain, Bool.and_true, Bool.and_self, *]) (by intro k; first | rfl | simp only [shift, shifts, intV, boolV, *]) ?_); simp only [↓pre, post, ↓reduceIte, Nat.reduceEqDiff, Nat.reduceAdd, Nat.reduceMul, Nat.reduceSub, Nat.reduceLeDiff, Nat.reduceMod, Nat.reduceDiv, reduceCtorEq, Nat.reduceLT, Nat.reduceGT, Nat.reduceBEq, Option.isSome_some, ne_eq, Int.reduceEq, not_false_eq_true, bin_quo, bin_rem, List.length_cons, List.length_nil, List.map_cons, List.map_nil, List.append_nil, List.cons_append, List.nil_append, List.take_succ_cons, List.take_zero, List.drop_succ_cons, List.drop_zero, Nat.zero_add, Nat.add_zero, Nat.zero_le, Nat.le_refl, decide_true, decide_false, Bool.not_true, Bool.not_false, stepW, opE, intV, parV, boxE, loadE, partE, faddrE, fieldE, checkE, extractE, resultsE, resEs, resE, buildE, fillE, splice, if_true, if_false, Bool.false_eq_true, true_and, and_true, AV.cells, okA, oneA, fzs, fz, opTmp, Option.bind_some, Option.map_some, List.getElem?_cons_zero, List.getElem?_cons_succ, and_self, canonR, canon, canons, shift, shifts, pushAll, pushFrom, tys83, onceA, postU, boolV, cond_t, cond_f]; (first | refine call_plain (h2) (by first | rfl | simp only [plains, plain, Bool.and_true, Bool.and_self, *]) ?_ | refine call_pure (h2) (by first | rfl | simp only [plains, plain, Bool.and_true, Bool.and_self, *]) (by intro k; first | rfl | simp only [shift, shifts, intV, boolV, *]) ?_); simp only [↓pre, post, ↓reduceIte, Nat.reduceEqDiff, Nat.reduceAdd, Nat.reduceMul, Nat.reduceSub, Nat.reduceLeDiff, Nat.reduceMod, Nat.reduceDiv, reduceCtorEq, Nat.reduceLT, Nat.reduceGT, Nat.reduceBEq, Option.isSome_some, ne_eq, Int.reduceEq, not_false_eq_true, bin_quo, bin_rem, List.length_cons, List.length_nil, List.map_cons, List.map_nil, List.append_nil, List.cons_append, List.nil_append, List.take_succ_cons, List.take_zero, List.drop_succ_cons, List.drop_zero, Nat.zero_add, Nat.add_zero, Nat.zero_le, Nat.le_refl, decide_true, decide_false, Bool.not_true, Bool.not_false, stepW, opE, intV, parV, boxE, loadE, partE, faddrE, fieldE, checkE, extractE, resultsE, resEs, resE, buildE, fillE, splice, if_true, if_false, Bool.false_eq_true, true_and, and_true, AV.cells, okA, oneA, fzs, fz, opTmp, Option.bind_some, Option.map_some, List.getElem?_cons_zero, List.getElem?_cons_succ, and_self, canonR, canon, canons, shift, shifts, pushAll, pushFrom, tys83, onceA, postU, boolV, cond_t, cond_f]
    | true =>
      rw [hr] at h2
      rw [if_pos rfl]
      refine fspec_of_body follows Try.func83 (by unfold Try.f83; rfl) (by unfold Try.f83; simp) onceA (by unfold Try.f83; simp) (by kernel_rfl) ?_; unfold Try.f83
      simp only [↓pre, post, ↓reduceIte, Nat.reduceEqDiff, Nat.reduceAdd, Nat.reduceMul, Nat.reduceSub, Nat.reduceLeDiff, Nat.reduceMod, Nat.reduceDiv, reduceCtorEq, Nat.reduceLT, Nat.reduceGT, Nat.reduceBEq, Option.isSome_some, ne_eq, Int.reduceEq, not_false_eq_true, bin_quo, bin_rem, List.length_cons, List.length_nil, List.map_cons, List.map_nil, List.append_nil, List.cons_append, List.nil_append, List.take_succ_cons, List.take_zero, List.drop_succ_cons, List.drop_zero, Nat.zero_add, Nat.add_zero, Nat.zero_le, Nat.le_refl, decide_true, decide_false, Bool.not_true, Bool.not_false, stepW, opE, intV, parV, boxE, loadE, partE, faddrE, fieldE, checkE, extractE, resultsE, resEs, resE, buildE, fillE, splice, if_true, if_false, Bool.false_eq_true, true_and, and_true, AV.cells, okA, oneA, fzs, fz, opTmp, Option.bind_some, Option.map_some, List.getElem?_cons_zero, List.getElem?_cons_succ, and_self, canonR, canon, canons, shift, shifts, pushAll, pushFrom, tys83, onceA, postU]
      (first | refine call_plain (h1) (by first | rfl | simp only [plains, plain, Bool.and_true, Bool.and_self, *]) ?_ | refine call_pure (h1) (by first | rfl | simp only [plains, plain, Bool.and_true, Bool.and_self, *]) (by intro k; first | rfl | simp only [shift, shifts, intV, boolV, *]) ?_); simp only [↓pre, post, ↓reduceIte, Nat.reduceEqDiff, Nat.reduceAdd, Nat.reduceMul, Nat.reduceSub, Nat.reduceLeDiff, Nat.reduceMod, Nat.reduceDiv, reduceCtorEq, Nat.reduceLT, Nat.reduceGT, Nat.reduceBEq, Option.isSome_some, ne_eq, Int.reduceEq, not_false_eq_true, bin_quo, bin_rem, List.length_cons, List.length_nil, List.map_cons, List.map_nil, List.append_nil, List.cons_append, List.nil_append, List.take_succ_cons, List.take_zero, List.drop_succ_cons, List.drop_zero, Nat.zero_add, Nat.add_zero, Nat.zero_le, Nat.le_refl, decide_true, decide_false, Bool.not_true, Bool.not_false, stepW, opE, intV, parV, boxE, loadE, partE, faddrE, fieldE, checkE, extractE, resultsE, resEs, resE, buildE, fillE, splice, if_true, if_false, Bool.false_eq_true, true_and, and_true, AV.cells, okA, oneA, fzs, fz, opTmp, Option.bind_some, Option.map_some, List.getElem?_cons_zero, List.getElem?_cons_succ, and_self, canonR, canon, canons, shift, shifts, pushAll, pushFrom, tys83, onceA, postU, boolV, cond_t, cond_f]; (first | refine call_plain (h2) (by first | rfl | simp only [plains, plain, Bool.and_true, Bool.and_self, *]) ?_ | refine call_pure (h2) (by first | rfl | simp only [plains, plain, Bool.and_true, Bool.and_self, *]) (by intro k; first | rfl | simp only [shift, shifts, intV, boolV, *]) ?_); simp only [↓pre, post, ↓reduceIte, Nat.reduceEqDiff, Nat.reduceAdd, Nat.reduceMul, Nat.reduceSub, Nat.reduceLeDiff, Nat.reduceMod, Nat.reduceDiv, reduceCtorEq, Nat.reduceLT, Nat.reduceGT, Nat.reduceBEq, Option.isSome_some, ne_eq, Int.reduceEq, not_false_eq_true, bin_quo, bin_rem, List.length_cons, List.length_nil, List.map_cons, List.map_nil, List.append_nil, List.cons_append, List.nil_append, List.take_succ_cons, List.take_zero, List.drop_succ_cons, List.drop_zero, Nat.zero_add, Nat.add_zero, Nat.zero_le, Nat.le_refl, decide_true, decide_false, Bool.not_true, Bool.not_false, stepW, opE, intV, parV, boxE, loadE, partE, faddrE, fieldE, checkE, extractE, resultsE, resEs, resE, buildE, fillE, splice, if_true, if_false, Bool.false_eq_true, true_and, and_true, AV.cells, okA, oneA, fzs, fz, opTmp, Option.bind_some, Option.map_some, List.getElem?_cons_zero, List.getElem?_cons_succ, and_self, canonR, canon, canons, shift, shifts, pushAll, pushFrom, tys83, onceA, postU, boolV, cond_t, cond_f]
/-- the version of a descriptor that bytes hold of a drive; 0: none -/
def heldB (k r c w : Int) (bs : List UInt8) (ix : Int) : Bool := isOf k r c w bs ix && (decide ((slotC k r bs).kd = 2) && (slotC k r bs).vec.all (fun n => decide (n = (slotC k r bs).ce)))
def heldI (k r c w : Int) (bs : List UInt8) (ix : Int) : Int := if heldB k r c w bs ix = true then (slotC k r bs).ce else 0
def onceH : Nat → Bool := fun d => d != 7
theorem ref14_held (k r c w ix : Int) (v : AV) (bs : List UInt8) (x : List AV) (hv : RdSl v bs.length (bytesA bs ++ x)) (hm : mayB k r c w = true) : FSpec Try.prog 112 [parV k r c w, v, intV ix] ⟨intV (heldI k r c w bs ix), []⟩ := by
  have hp := hv.plain
  have hmn := may_n hm
  have hr := ref11_Of k r c w ix v bs x hv hm
  have hvl : (slotC k r bs).vec.length ≤ 16 := by have := numsI_len bs (k + r).toNat; simp only [slotC]; omega
  replace hmn := Hid.mk hmn
  unfold heldI heldB
  cases hs : isOf k r c w bs ix with
  | false =>
    rw [hs] at hr
    rw [if_neg (by decide)] at hr
    rw [Bool.false_and, if_neg (by decide)]
    unfold slot0 slotV at hr
    refine fspec_of_body follows Try.func112 (by unfold Try.f112; rfl) (by unfold Try.f112; simp) onceA (by unfold Try.f112; simp) (by kernel_rfl) ?_; unfold Try.f112
    simp only [↓pre, post, ↓reduceIte, Nat.reduceEqDiff, Nat.reduceAdd, Nat.reduceMul, Nat.reduceSub, Nat.reduceLeDiff, Nat.reduceMod, Nat.reduceDiv, reduceCtorEq, Nat.reduceLT, Nat.reduceGT, Nat.reduceBEq, Option.isSome_some, ne_eq, Int.reduceEq, not_false_eq_true, bin_quo, bin_rem, List.length_cons, List.length_nil, List.map_cons, List.map_nil, List.append_nil, List.cons_append, List.nil_append, List.take_succ_cons, List.take_zero, List.drop_succ_cons, List.drop_zero, Nat.zero_add, Nat.add_zero, Nat.zero_le, Nat.le_refl, decide_true, decide_false, Bool.not_true, Bool.not_false, stepW, opE, intV, parV, boxE, loadE, partE, faddrE, fieldE, checkE, extractE, resultsE, resEs, resE, buildE, fillE, splice, if_true, if_false, Bool.false_eq_true, true_and, and_true, AV.cells, okA, oneA, fzs, fz, opTmp, Option.bind_some, Option.map_some, List.getElem?_cons_zero, List.getElem?_cons_succ, and_self, canonR, canon, canons, shift, shifts, pushAll, pushFrom, tys112, onceA, postU, allocE, storeE, eq_self, put_at, push_at]
    (first | refine call_plain (hr) (by first | rfl | simp only [plains, plain, Bool.and_true, Bool.and_self, *]) ?_ | refine call_pure (hr) (by first | rfl | simp only [plains, plain, Bool.and_true, Bool.and_self, *]) (by intro k; first | rfl | simp only [shift, shifts, intV, boolV, *]) ?_); simp only [↓pre, post, ↓reduceIte, Nat.reduceEqDiff, Nat.reduceAdd, Nat.reduceMul, Nat.reduceSub, Nat.reduceLeDiff, Nat.reduceMod, Nat.reduceDiv, reduceCtorEq, Nat.reduceLT, Nat.reduceGT, Nat.reduceBEq, Option.isSome_some, ne_eq, Int.reduceEq, not_false_eq_true, bin_quo, bin_rem, List.length_cons, List.length_nil, List.map_cons, List.map_nil, List.append_nil, List.cons_append, List.nil_append, List.take_succ_cons, List.take_zero, List.drop_succ_cons, List.drop_zero, Nat.zero_add, Nat.add_zero, Nat.zero_le, Nat.le_refl, decide_true, decide_false, Bool.not_true, Bool.not_false, stepW, opE, intV, parV, boxE, loadE, partE, faddrE, fieldE, checkE, extractE, resultsE, resEs, resE, buildE, fillE, splice, if_true, if_false, Bool.false_eq_true, true_and, and_true, AV.cells, okA, oneA, fzs, fz, opTmp, Option.bind_some, Option.map_some, List.getElem?_cons_zero, List.getElem?_cons_succ, and_self, canonR, canon, canons, shift, shifts, pushAll, pushFrom, tys112, onceA, postU, boolV, nilS, allocE, storeE, eq_self, put_at, push_at]
  | true =>
    rw [hs] at hr
    rw [if_pos rfl] at hr
    rw [Bool.true_and]
    generalize slotC k r bs = s at *
    unfold SlotC.v slotV at hr
    by_cases hk : s.kd = 2
    · rw [decide_eq_true hk, Bool.true_and]
      have hvv : RdSl (.tree s.vec.length s.vec.length (intsA s.vec) false) s.vec.length (intsA s.vec ++ []) := ⟨.inr (.inr ⟨_, false, by rw [List.append_nil], Nat.le_refl _⟩)⟩
      replace hvl := Hid.mk hvl
      refine fspec_of_body follows Try.func112 (by unfold Try.f112; rfl) (by unfold Try.f112; simp) onceA (by unfold Try.f112; simp) (by kernel_rfl) ?_; unfold Try.f112
      simp only [↓pre, post, ↓reduceIte, Nat.reduceEqDiff, Nat.reduceAdd, Nat.reduceMul, Nat.reduceSub, Nat.reduceLeDiff, Nat.reduceMod, Nat.reduceDiv, reduceCtorEq, Nat.reduceLT, Nat.reduceGT, Nat.reduceBEq, Option.isSome_some, ne_eq, Int.reduceEq, not_false_eq_true, bin_quo, bin_rem, List.length_cons, List.length_nil, List.map_cons, List.map_nil, List.append_nil, List.cons_append, List.nil_append, List.take_succ_cons, List.take_zero, List.drop_succ_cons, List.drop_zero, Nat.zero_add, Nat.add_zero, Nat.zero_le, Nat.le_refl, decide_true, decide_false, Bool.not_true, Bool.not_false, stepW, opE, intV, parV, boxE, loadE, partE, faddrE, fieldE, checkE, extractE, resultsE, resEs, resE, buildE, fillE, splice, if_true, if_false, Bool.false_eq_true, true_and, and_true, AV.cells, okA, oneA, fzs, fz, opTmp, Option.bind_some, Option.map_some, List.getElem?_cons_zero, List.getElem?_cons_succ, and_self, canonR, canon, canons, shift, shifts, pushAll, pushFrom, tys112, onceA, postU, allocE, storeE, eq_self, put_at, push_at]
      (first | refine call_plain (hr) (by first | rfl | simp only [plains, plain, Bool.and_true, Bool.and_self, *]) ?_ | refine call_pure (hr) (by first | rfl | simp only [plains, plain, Bool.and_true, Bool.and_self, *]) (by intro k; first | rfl | simp only [shift, shifts, intV, boolV, *]) ?_); simp only [↓pre, post, ↓reduceIte, Nat.reduceEqDiff, Nat.reduceAdd, Nat.reduceMul, Nat.reduceSub, Nat.reduceLeDiff, Nat.reduceMod, Nat.reduceDiv, reduceCtorEq, Nat.reduceLT, Nat.reduceGT, Nat.reduceBEq, Option.isSome_some, ne_eq, Int.reduceEq, not_false_eq_true, bin_quo, bin_rem, List.length_cons, List.length_nil, List.map_cons, List.map_nil, List.append_nil, List.cons_append, List.nil_append, List.take_succ_cons, List.take_zero, List.drop_succ_cons, List.drop_zero, Nat.zero_add, Nat.add_zero, Nat.zero_le, Nat.le_refl, decide_true, decide_false, Bool.not_true, Bool.not_false, stepW, opE, intV, parV, boxE, loadE, partE, faddrE, fieldE, checkE, extractE, resultsE, resEs, resE, buildE, fillE, splice, if_true, if_false, Bool.false_eq_true, true_and, and_true, AV.cells, okA, oneA, fzs, fz, opTmp, Option.bind_some, Option.map_some, List.getElem?_cons_zero, List.getElem?_cons_succ, and_self, canonR, canon, canons, shift, shifts, pushAll, pushFrom, tys112, onceA, postU, boolV, nilS, allocE, storeE, eq_self, put_at, push_at, hk]
      rw [codeW_loop]
      refine loop_intro (fun q e m => ∃ i, q + i = s.vec.length ∧ e 7 = .tptr 0 [.val (.int .u8 2), intV s.ix, intV s.ce, intV s.st, .tree s.vec.length s.vec.length (intsA s.vec) false, .tree s.data.length s.data.length (bytesA s.data) false] ∧ e 9 = intV (i : Nat) ∧ ∀ j n, j < i → s.vec[j]? = some n → n = s.ce) s.vec.length ⟨0, by omega, by rw [← hk]; rfl, rfl, fun j n h => by omega⟩ ?_
      rintro q e m ⟨i, hi, e7, e9, hpre⟩
      replace hpre := Hid.mk hpre
      by_cases hlt : i < s.vec.length
      · have hlt' : ((i : Nat) : Int) < ((s.vec.length : Nat) : Int) := by omega
        obtain ⟨n, hn⟩ : ∃ n, s.vec[i]? = some n := ⟨_, List.getElem?_eq_getElem hlt⟩
        have a1 := int_at (x := []) hn
        rw [List.append_nil] at a1 hvv
        have w1 := wrap_succ (n := i) (by have := hvl.out; omega)
        by_cases he : n = s.ce
        · replace hn := Hid.mk hn
          subst he
          simp only [↓pre, post, ↓reduceIte, Nat.reduceEqDiff, Nat.reduceAdd, Nat.reduceMul, Nat.reduceSub, Nat.reduceLeDiff, Nat.reduceMod, Nat.reduceDiv, reduceCtorEq, Nat.reduceLT, Nat.reduceGT, Nat.reduceBEq, Option.isSome_some, ne_eq, Int.reduceEq, not_false_eq_true, bin_quo, bin_rem, List.length_cons, List.length_nil, List.map_cons, List.map_nil, List.append_nil, List.cons_append, List.nil_append, List.take_succ_cons, List.take_zero, List.drop_succ_cons, List.drop_zero, Nat.zero_add, Nat.add_zero, Nat.zero_le, Nat.le_refl, decide_true, decide_false, Bool.not_true, Bool.not_false, stepW, opE, intV, parV, boxE, loadE, partE, faddrE, fieldE, checkE, extractE, resultsE, resEs, resE, buildE, fillE, splice, if_true, if_false, Bool.false_eq_true, true_and, and_true, AV.cells, okA, oneA, fzs, fz, opTmp, Option.bind_some, Option.map_some, List.getElem?_cons_zero, List.getElem?_cons_succ, and_self, canonR, canon, canons, shift, shifts, pushAll, pushFrom, tys112, onceA, postU, postA, e7, e9, hvv.len', hvv.addr', hlt, hlt', Nat.mul_one, a1, cond_f, decide_false, w1, eq_self]
          refine ⟨q - 1, by omega, i + 1, by omega, rfl, fun j n' hj hn' => ?_⟩
          by_cases hji : j = i
          · subst hji
            rw [hn.out] at hn'
            cases hn'
            rfl
          · exact hpre.out j n' (by omega) hn'
        · have hall : (s.vec.all (fun n => decide (n = s.ce))) = false := by
            rw [List.all_eq_false]
            exact ⟨n, List.mem_of_getElem? hn, by simpa using he⟩
          rw [hall, if_neg (by decide)]
          replace hn := Hid.mk hn
          simp only [↓pre, post, ↓reduceIte, Nat.reduceEqDiff, Nat.reduceAdd, Nat.reduceMul, Nat.reduceSub, Nat.reduceLeDiff, Nat.reduceMod, Nat.reduceDiv, reduceCtorEq, Nat.reduceLT, Nat.reduceGT, Nat.reduceBEq, Option.isSome_some, ne_eq, Int.reduceEq, not_false_eq_true, bin_quo, bin_rem, List.length_cons, List.length_nil, List.map_cons, List.map_nil, List.append_nil, List.cons_append, List.nil_append, List.take_succ_cons, List.take_zero, List.drop_succ_cons, List.drop_zero, Nat.zero_add, Nat.add_zero, Nat.zero_le, Nat.le_refl, decide_true, decide_false, Bool.not_true, Bool.not_false, stepW, opE, intV, parV, boxE, loadE, partE, faddrE, fieldE, checkE, extractE, resultsE, resEs, resE, buildE, fillE, splice, if_true, if_false, Bool.false_eq_true, true_and, and_true, AV.cells, okA, oneA, fzs, fz, opTmp, Option.bind_some, Option.map_some, List.getElem?_cons_zero, List.getElem?_cons_succ, and_self, canonR, canon, canons, shift, shifts, pushAll, pushFrom, tys112, onceA, postU, postA, e7, e9, hvv.len', hvv.addr', hlt, hlt', Nat.mul_one, a1, cond_t, decide_false, w1, he]
      · have hlt' : ¬ ((i : Nat) : Int) < ((s.vec.length : Nat) : Int) := by omega
        have hall : (s.vec.all (fun n => decide (n = s.ce))) = true := by
          rw [List.all_eq_true]
          intro n hn
          obtain ⟨j, hj⟩ := List.getElem?_of_mem hn
          have := (List.getElem?_eq_some_iff.1 hj).1
          rw [decide_eq_true_eq]
          exact hpre.out j n (by omega) hj
        rw [hall, if_pos rfl]
        simp only [↓pre, post, ↓reduceIte, Nat.reduceEqDiff, Nat.reduceAdd, Nat.reduceMul, Nat.reduceSub, Nat.reduceLeDiff, Nat.reduceMod, Nat.reduceDiv, reduceCtorEq, Nat.reduceLT, Nat.reduceGT, Nat.reduceBEq, Option.isSome_some, ne_eq, Int.reduceEq, not_false_eq_true, bin_quo, bin_rem, List.length_cons, List.length_nil, List.map_cons, List.map_nil, List.append_nil, List.cons_append, List.nil_append, List.take_succ_cons, List.take_zero, List.drop_succ_cons, List.drop_zero, Nat.zero_add, Nat.add_zero, Nat.zero_le, Nat.le_refl, decide_true, decide_false, Bool.not_true, Bool.not_false, stepW, opE, intV, parV, boxE, loadE, partE, faddrE, fieldE, checkE, extractE, resultsE, resEs, resE, buildE, fillE, splice, if_true, if_false, Bool.false_eq_true, true_and, and_true, AV.cells, okA, oneA, fzs, fz, opTmp, Option.bind_some, Option.map_some, List.getElem?_cons_zero, List.getElem?_cons_succ, and_self, canonR, canon, canons, shift, shifts, pushAll, pushFrom, tys112, onceA, postU, e7, e9, hvv.len', hlt', decide_false, cond_f]
    · rw [decide_eq_false hk, Bool.false_and, if_neg (by decide)]
      refine fspec_of_body follows Try.func112 (by unfold Try.f112; rfl) (by unfold Try.f112; simp) onceA (by unfold Try.f112; simp) (by kernel_rfl) ?_; unfold Try.f112
      simp only [↓pre, post, ↓reduceIte, Nat.reduceEqDiff, Nat.reduceAdd, Nat.reduceMul, Nat.reduceSub, Nat.reduceLeDiff, Nat.reduceMod, Nat.reduceDiv, reduceCtorEq, Nat.reduceLT, Nat.reduceGT, Nat.reduceBEq, Option.isSome_some, ne_eq, Int.reduceEq, not_false_eq_true, bin_quo, bin_rem, List.length_cons, List.length_nil, List.map_cons, List.map_nil, List.append_nil, List.cons_append, List.nil_append, List.take_succ_cons, List.take_zero, List.drop_succ_cons, List.drop_zero, Nat.zero_add, Nat.add_zero, Nat.zero_le, Nat.le_refl, decide_true, decide_false, Bool.not_true, Bool.not_false, stepW, opE, intV, parV, boxE, loadE, partE, faddrE, fieldE, checkE, extractE, resultsE, resEs, resE, buildE, fillE, splice, if_true, if_false, Bool.false_eq_true, true_and, and_true, AV.cells, okA, oneA, fzs, fz, opTmp, Option.bind_some, Option.map_some, List.getElem?_cons_zero, List.getElem?_cons_succ, and_self, canonR, canon, canons, shift, shifts, pushAll, pushFrom, tys112, onceA, postU, allocE, storeE, eq_self, put_at, push_at]
      (first | refine call_plain (hr) (by first | rfl | simp only [plains, plain, Bool.and_true, Bool.and_self, *]) ?_ | refine call_pure (hr) (by first | rfl | simp only [plains, plain, Bool.and_true, Bool.and_self, *]) (by intro k; first | rfl | simp only [shift, shifts, intV, boolV, *]) ?_); simp only [↓pre, post, ↓reduceIte, Nat.reduceEqDiff, Nat.reduceAdd, Nat.reduceMul, Nat.reduceSub, Nat.reduceLeDiff, Nat.reduceMod, Nat.reduceDiv, reduceCtorEq, Nat.reduceLT, Nat.reduceGT, Nat.reduceBEq, Option.isSome_some, ne_eq, Int.reduceEq, not_false_eq_true, bin_quo, bin_rem, List.length_cons, List.length_nil, List.map_cons, List.map_nil, List.append_nil, List.cons_append, List.nil_append, List.take_succ_cons, List.take_zero, List.drop_succ_cons, List.drop_zero, Nat.zero_add, Nat.add_zero, Nat.zero_le, Nat.le_refl, decide_true, decide_false, Bool.not_true, Bool.not_false, stepW, opE, intV, parV, boxE, loadE, partE, faddrE, fieldE, checkE, extractE, resultsE, resEs, resE, buildE, fillE, splice, if_true, if_false, Bool.false_eq_true, true_and, and_true, AV.cells, okA, oneA, fzs, fz, opTmp, Option.bind_some, Option.map_some, List.getElem?_cons_zero, List.getElem?_cons_succ, and_self, canonR, canon, canons, shift, shifts, pushAll, pushFrom, tys112, onceA, postU, boolV, nilS, allocE, storeE, eq_self, put_at, push_at, hk]
end Go.Proofs.Ytenmbfplceeolaa

/- Who holds what: plain laws of tallies. -/
set_option linter.unusedVariables false
set_option linter.unusedSimpArgs false
set_option maxRecDepth 10000
namespace Go.Proofs.Ytenmbfplceeolaa
open Go Go.Tw Go.Proofs

/-- what each drive of a row holds -/
def heldsP (k r c w : Int) (ps : List PairB) : List (Int × Int) := ps.mapIdx fun i p => (heldI k r c w p.1 i, heldI k r c w p.2 i)
def inH (hs : List (Int × Int)) (v : Int) : Prop := ∃ (i : Nat) (x : Int × Int), hs[i]? = some x ∧ (x.1 = v ∨ x.2 = v)
def holdsAt (hs : List (Int × Int)) (i : Nat) (v : Int) : Bool := match hs[i]? with
  | some x => decide (x.1 = v) || decide (x.2 = v)
  | none => false
def cellsN (hs : List (Int × Int)) (v : Int) (n : Nat) : List Int := (List.range n).filterMap fun i => if holdsAt hs i v = true then some (i : Int) else none
theorem cellsN_succ (hs : List (Int × Int)) (v : Int) (n : Nat) : cellsN hs v (n + 1) = cellsN hs v n ++ (if holdsAt hs n v = true then [(n : Int)] else []) := by
  unfold cellsN
  rw [List.range_succ, List.filterMap_append]
  cases h : holdsAt hs n v <;> simp [h]
theorem cellsN_le (hs : List (Int × Int)) (v : Int) (n : Nat) : (cellsN hs v n).length ≤ n := by
  have := List.length_filterMap_le (fun i : Nat => if holdsAt hs i v = true then some (i : Int) else none) (List.range n)
  rw [List.length_range] at this
  exact this
def bestInv (hs : List (Int × Int)) (top : Int) (i kk : Nat) (b : Int) : Prop := (b = 0 ∨ (0 < b ∧ b < top ∧ inH hs b)) ∧
  ∀ j x, hs[j]? = some x → (j < i ∨ (j = i ∧ 1 ≤ kk) → x.1 < top → x.1 ≤ b) ∧ (j < i ∨ (j = i ∧ 2 ≤ kk) → x.2 < top → x.2 ≤ b)
theorem best_start (hs : List (Int × Int)) (top : Int) : bestInv hs top 0 0 0 := ⟨.inl rfl, fun j x _ => ⟨fun h => by omega, fun h => by omega⟩⟩
theorem best_next {hs : List (Int × Int)} {top b : Int} {i : Nat} (h : bestInv hs top i 2 b) : bestInv hs top (i + 1) 0 b :=
  ⟨h.1, fun j x hx => ⟨fun h1 => (h.2 j x hx).1 (by omega), fun h1 => (h.2 j x hx).2 (by omega)⟩⟩
theorem best_step {hs : List (Int × Int)} {top b z : Int} {i kk : Nat} {x : Int × Int} (h : bestInv hs top i kk b) (hk : kk < 2) (hx : hs[i]? = some x) (hz : z = if kk = 0 then x.1 else x.2) : bestInv hs top i (kk + 1) (if z < top ∧ b < z then z else b) := by
  obtain ⟨h1, h2⟩ := h
  have hin : inH hs z := by
    refine ⟨i, x, hx, ?_⟩
    split at hz
    · exact .inl hz.symm
    · exact .inr hz.symm
  have hb0 : 0 ≤ b := by rcases h1 with h1 | h1 <;> omega
  split
  · rename_i hc
    refine ⟨.inr ⟨by omega, hc.1, hin⟩, fun j y hy => ?_⟩
    have := h2 j y hy
    constructor
    · intro h3 h4
      by_cases h5 : j < i ∨ j = i ∧ 1 ≤ kk
      · have := this.1 h5 h4; omega
      · have h6 : j = i ∧ kk = 0 := by omega
        obtain ⟨rfl, rfl⟩ := h6
        rw [hx] at hy; cases hy
        simp only [if_true] at hz
        omega
    · intro h3 h4
      by_cases h5 : j < i ∨ j = i ∧ 2 ≤ kk
      · have := this.2 h5 h4; omega
      · have h6 : j = i ∧ kk = 1 := by omega
        obtain ⟨rfl, rfl⟩ := h6
        rw [hx] at hy; cases hy
        simp only [Nat.one_ne_zero, if_false] at hz
        omega
  · rename_i hc
    refine ⟨h1, fun j y hy => ?_⟩
    have := h2 j y hy
    constructor
    · intro h3 h4
      by_cases h5 : j < i ∨ j = i ∧ 1 ≤ kk
      · exact this.1 h5 h4
      · have h6 : j = i ∧ kk = 0 := by omega
        obtain ⟨rfl, rfl⟩ := h6
        rw [hx] at hy; cases hy
        simp only [if_true] at hz
        omega
    · intro h3 h4
      by_cases h5 : j < i ∨ j = i ∧ 2 ≤ kk
      · exact this.2 h5 h4
      · have h6 : j = i ∧ kk = 1 := by omega
        obtain ⟨rfl, rfl⟩ := h6
        rw [hx] at hy; cases hy
        simp only [Nat.one_ne_zero, if_false] at hz
        omega
theorem best_end {hs : List (Int × Int)} {top b : Int} (h : bestInv hs top hs.length 0 b) {v : Int} (hv : inH hs v) (h2 : v < top) : v ≤ b := by
  obtain ⟨i, x, hx, hh⟩ := hv
  have hl := (List.getElem?_eq_some_iff.1 hx).1
  have := h.2 i x hx
  rcases hh with rfl | rfl
  · exact this.1 (by omega) h2
  · exact this.2 (by omega) h2
/-- versions that are held, the greatest first, down to a number -/
structure Falls (hs : List (Int × Int)) (top : Int) (T : List Int) : Prop where
  pw : T.Pairwise (· > ·)
  mem : ∀ v, v ∈ T ↔ 0 < v ∧ top ≤ v ∧ inH hs v
theorem falls_start {hs : List (Int × Int)} {top : Int} (h : ∀ v, inH hs v → v < top) : Falls hs top [] := ⟨.nil, fun v => ⟨fun h => (by cases h), fun ⟨h1, h2, h3⟩ => by have := h v h3; omega⟩⟩
theorem falls_step {hs : List (Int × Int)} {top b : Int} {T : List Int} (h : Falls hs top T) (hb : bestInv hs top hs.length 0 b) (hb0 : ¬ b = 0) : Falls hs b (T ++ [b]) ∧ b < top ∧ 0 < b := by
  rcases hb.1 with h0 | ⟨h0, h1, h2⟩
  · omega
  refine ⟨⟨?_, fun v => ?_⟩, h1, h0⟩
  · rw [List.pairwise_append]
    refine ⟨h.pw, List.pairwise_singleton _ _, fun a ha c hc => ?_⟩
    have := (h.mem a).1 ha
    rw [List.mem_singleton] at hc
    omega
  · rw [List.mem_append, List.mem_singleton, h.mem]
    constructor
    · rintro (h3 | rfl)
      · exact ⟨h3.1, by omega, h3.2.2⟩
      · exact ⟨h0, by omega, h2⟩
    · rintro ⟨h3, h4, h5⟩
      by_cases h6 : top ≤ v
      · exact .inl ⟨h3, h6, h5⟩
      · have := best_end hb h5 (by omega)
        exact .inr (by omega)
theorem falls_end {hs : List (Int × Int)} {top : Int} {T : List Int} (h : Falls hs top T) (hb : bestInv hs top hs.length 0 0) : Falls hs 1 T := ⟨h.pw, fun v => by
  rw [h.mem]
  constructor
  · rintro ⟨h1, h2, h3⟩; exact ⟨h1, by omega, h3⟩
  · rintro ⟨h1, h2, h3⟩
    refine ⟨h1, ?_, h3⟩
    by_cases h4 : top ≤ v
    · exact h4
    · have := best_end hb h3 (by omega); omega⟩
/-- one list has it -/
theorem falls_one {hs : List (Int × Int)} {top : Int} : ∀ {T T' : List Int}, T.Pairwise (· > ·) → T'.Pairwise (· > ·) → (∀ v, v ∈ T ↔ v ∈ T') → T = T'
  | [], [], _, _, _ => rfl
  | [], b :: T', _, _, h => by have := (h b).2 (by simp); cases this
  | a :: T, [], _, _, h => by have := (h a).1 (by simp); cases this
  | a :: T, b :: T', h1, h2, h => by
    rw [List.pairwise_cons] at h1 h2
    have hab : a = b := by
      have ha := (h a).1 (by simp)
      have hb := (h b).2 (by simp)
      rw [List.mem_cons] at ha hb
      rcases ha with ha | ha
      · exact ha
      · rcases hb with hb | hb
        · exact hb.symm
        · have := h1.1 b hb
          have := h2.1 a ha
          omega
    subst hab
    rw [falls_one (hs := hs) (top := top) h1.2 h2.2 fun v => ?_]
    have := h v
    rw [List.mem_cons, List.mem_cons] at this
    constructor
    · intro hv
      rcases this.1 (.inr hv) with h3 | h3
      · have := h1.1 v hv; omega
      · exact h3
    · intro hv
      rcases this.2 (.inr hv) with h3 | h3
      · have := h2.1 v hv; omega
      · exact h3
def insF (v : Int) : List Int → List Int
  | [] => [v]
  | a :: l => if a < v then v :: a :: l else if v < a then a :: insF v l else a :: l
theorem insF_mem (v : Int) : ∀ (l : List Int) (x : Int), x ∈ insF v l ↔ x = v ∨ x ∈ l
  | [], x => by simp [insF]
  | a :: l, x => by
    unfold insF
    split
    · simp
    · split
      · simp only [List.mem_cons, insF_mem v l x]
        constructor
        · rintro (h | h | h) <;> simp [h]
        · rintro (h | h | h) <;> simp [h]
      · rename_i h1 h2
        have : v = a := by omega
        subst this
        simp
theorem insF_pw (v : Int) : ∀ (l : List Int), l.Pairwise (· > ·) → (insF v l).Pairwise (· > ·)
  | [], _ => List.pairwise_singleton _ _
  | a :: l, h => by
    unfold insF
    split
    · rename_i h1
      rw [List.pairwise_cons]
      refine ⟨fun x hx => ?_, h⟩
      rw [List.mem_cons] at hx
      rcases hx with rfl | hx
      · exact h1
      · have := (List.pairwise_cons.1 h).1 x hx; omega
    · split
      · rename_i h1 h2
        rw [List.pairwise_cons] at h ⊢
        refine ⟨fun x hx => ?_, insF_pw v l h.2⟩
        rw [insF_mem] at hx
        rcases hx with rfl | hx
        · exact h2
        · exact h.1 x hx
      · exact h
/-- the versions that are held, the greatest first -/
def versF (hs : List (Int × Int)) : List Int := hs.foldr (fun x l => (if 0 < x.1 then insF x.1 else id) ((if 0 < x.2 then insF x.2 else id) l)) []
theorem versF_falls : ∀ (hs : List (Int × Int)), Falls hs 1 (versF hs)
  | [] => ⟨.nil, fun v => ⟨fun h => (by cases h), fun ⟨_, _, i, x, h, _⟩ => by simp at h⟩⟩
  | x :: hs => by
    have ih := versF_falls hs
    have e : versF (x :: hs) = (if 0 < x.1 then insF x.1 else id) ((if 0 < x.2 then insF x.2 else id) (versF hs)) := rfl
    have hin : ∀ v, inH (x :: hs) v ↔ (x.1 = v ∨ x.2 = v) ∨ inH hs v := by
      intro v
      constructor
      · rintro ⟨i, y, h, h2⟩
        cases i with
        | zero => simp at h; subst h; exact .inl h2
        | succ i => exact .inr ⟨i, y, by simpa using h, h2⟩
      · rintro (h | ⟨i, y, h, h2⟩)
        · exact ⟨0, x, rfl, h⟩
        · exact ⟨i + 1, y, by simpa using h, h2⟩
    have one : ∀ (z : Int) (l : List Int), l.Pairwise (· > ·) → (((if 0 < z then insF z else id) l).Pairwise (· > ·)) ∧ ∀ v, v ∈ (if 0 < z then insF z else id) l ↔ (0 < z ∧ v = z) ∨ v ∈ l := by
      intro z l hl
      split
      · rename_i hz; exact ⟨insF_pw z l hl, fun v => by rw [insF_mem]; simp [hz]⟩
      · rename_i hz; exact ⟨hl, fun v => by simp [hz]⟩
    rw [e]
    obtain ⟨p1, m1⟩ := one x.2 _ ih.pw
    obtain ⟨p2, m2⟩ := one x.1 _ p1
    refine ⟨p2, fun v => ?_⟩
    rw [m2, m1, ih.mem, hin]
    constructor
    · rintro (⟨h1, rfl⟩ | ⟨h1, rfl⟩ | h1)
      · exact ⟨h1, by omega, .inl (.inl rfl)⟩
      · exact ⟨h1, by omega, .inl (.inr rfl)⟩
      · exact ⟨h1.1, h1.2.1, .inr h1.2.2⟩
    · rintro ⟨h1, h2, (h3 | h3) | h3⟩
      · exact .inl ⟨by omega, h3.symm⟩
      · exact .inr (.inl ⟨by omega, h3.symm⟩)
      · exact .inr (.inr ⟨h1, h2, h3⟩)
theorem falls_vers {hs : List (Int × Int)} {T : List Int} (h : Falls hs 1 T) : T = versF hs := falls_one (hs := hs) (top := 1) h.pw (versF_falls hs).pw fun v => by rw [h.mem, (versF_falls hs).mem]
/-- the cells of tallies -/
def tCell (hs : List (Int × Int)) (v : Int) : AV := treeR (cellsN hs v hs.length).length (intsA (cellsN hs v hs.length))
def tCells (hs : List (Int × Int)) (T : List Int) : List AV := T.flatMap fun v => [intV v, tCell hs v]
theorem tCells_len (hs : List (Int × Int)) (T : List Int) : (tCells hs T).length = T.length * 2 := by
  induction T with
  | nil => rfl
  | cons a T ih => simp only [tCells, List.flatMap_cons, List.length_append, List.length_cons, List.length_nil] at ih ⊢; omega
theorem tCells_append (hs : List (Int × Int)) (T T' : List Int) : tCells hs (T ++ T') = tCells hs T ++ tCells hs T' := by simp [tCells]
theorem tCells_at (hs : List (Int × Int)) : ∀ (T : List Int) (i : Nat) (v : Int), T[i]? = some v → (tCells hs T)[i * 2]? = some (intV v) ∧ (tCells hs T)[i * 2 + 1]? = some (tCell hs v)
  | [], i, v, h => by simp at h
  | a :: T, 0, v, h => by
    simp at h; subst h
    exact ⟨rfl, rfl⟩
  | a :: T, i + 1, v, h => by
    have ih := tCells_at hs T i v (by simpa using h)
    have e : tCells hs (a :: T) = intV a :: tCell hs a :: tCells hs T := rfl
    rw [e, show (i + 1) * 2 = i * 2 + 1 + 1 by omega]
    simpa using ih
/-- held versions are versions -/
theorem vec_le {k r c w : Int} {l : List Int} (h : vecE k r c w l = 0) : ∀ n ∈ l, 1 ≤ n ∧ n ≤ 1073741824 := by
  unfold vecE at h
  split at h
  · split at h
    · split at h
      · omega
      · rename_i ha
        intro n hn
        have h2 : verB n = true := by
          cases hq : verB n with
          | true => rfl
          | false => exact absurd (List.any_eq_true.2 ⟨n, hn, by simp [hq]⟩) ha
        simpa [verB] using h2
    · omega
  · omega
theorem held_le (k r c w : Int) (bs : List UInt8) (ix : Int) : heldI k r c w bs ix = 0 ∨ (1 ≤ heldI k r c w bs ix ∧ heldI k r c w bs ix ≤ 1073741824) := by
  unfold heldI
  split
  · rename_i h
    right
    unfold heldB isOf isSlot maySC mayS at h
    simp only [Bool.and_eq_true, decide_eq_true_eq] at h
    obtain ⟨⟨⟨_, _, _, h1, h2, h3, h4, h5, h6⟩, _⟩, _⟩ := h
    exact vec_le h1 _ (List.mem_of_getElem? h5)
  · exact .inl rfl
theorem helds_at {k r c w : Int} {ps : List PairB} {i : Nat} {p : PairB} (h : ps[i]? = some p) : (heldsP k r c w ps)[i]? = some (heldI k r c w p.1 i, heldI k r c w p.2 i) := by
  unfold heldsP
  rw [List.getElem?_mapIdx, h]
  rfl
theorem helds_len (k r c w : Int) (ps : List PairB) : (heldsP k r c w ps).length = ps.length := by simp [heldsP]
theorem helds_lt {k r c w : Int} {ps : List PairB} : ∀ v, inH (heldsP k r c w ps) v → v < 1073741825 := by
  rintro v ⟨i, x, hx, hh⟩
  have hl := (List.getElem?_eq_some_iff.1 hx).1
  rw [helds_len] at hl
  have := helds_at (k := k) (r := r) (c := c) (w := w) (List.getElem?_eq_getElem hl)
  rw [this] at hx
  cases hx
  have h1 := held_le k r c w (ps[i].1) i
  have h2 := held_le k r c w (ps[i].2) i
  simp only at hh
  rcases hh with rfl | rfl <;> omega
theorem holds_at {k r c w : Int} {ps : List PairB} {i : Nat} {p : PairB} (h : ps[i]? = some p) (v : Int) : holdsAt (heldsP k r c w ps) i v = (decide (heldI k r c w p.1 i = v) || decide (heldI k r c w p.2 i = v)) := by
  unfold holdsAt
  rw [helds_at h]
end Go.Proofs.Ytenmbfplceeolaa

set_option linter.unusedVariables false
set_option linter.unusedSimpArgs false
set_option maxRecDepth 10000
namespace Go.Proofs.Ytenmbfplceeolaa
open Go Go.Tw Go.Proofs

theorem ref14_Holds (k r c w ver : Int) (v : AV) (ps : List PairB) (cells : List AV) (i : Nat) (hv : RowV v ps cells) (hm : mayB k r c w = true) (hi : i < ps.length) (hn : ps.length ≤ 1000000) : FSpec Try.prog 87 [parV k r c w, v, intV (i : Nat), intV ver] ⟨boolV (holdsAt (heldsP k r c w ps) i ver), []⟩ := by
  have hp := hv.rd.plain
  obtain ⟨p, hpi⟩ : ∃ p, ps[i]? = some p := ⟨_, List.getElem?_eq_getElem hi⟩
  obtain ⟨a, b, xa, xb, ha, hb, hra, hrb⟩ := hv.at_ i p hpi
  have pa := hra.plain
  have pb := hrb.plain
  have h1 := ref14_held k r c w i a p.1 xa hra hm
  have h2 := ref14_held k r c w i b p.2 xb hrb hm
  rw [holds_at hpi]
  replace hpi := Hid.mk hpi
  by_cases he : heldI k r c w p.1 i = ver
  · rw [decide_eq_true he]
    refine fspec_of_body follows Try.func87 (by unfold Try.f87; rfl) (by unfold Try.f87; simp) onceA (by unfold Try.f87; simp) (by kernel_rfl) ?_; unfold Try.f87
    simp only [↓pre, post, ↓reduceIte, Nat.reduceEqDiff, Nat.reduceAdd, Nat.reduceMul, Nat.reduceSub, Nat.reduceLeDiff, Nat.reduceMod, Nat.reduceDiv, reduceCtorEq, Nat.reduceLT, Nat.reduceGT, Nat.reduceBEq, Option.isSome_some, ne_eq, Int.reduceEq, not_false_eq_true, bin_quo, bin_rem, List.length_cons, List.length_nil, List.map_cons, List.map_nil, List.append_nil, List.cons_append, List.nil_append, List.take_succ_cons, List.take_zero, List.drop_succ_cons, List.drop_zero, Nat.zero_add, Nat.add_zero, Nat.zero_le, Nat.le_refl, decide_true, decide_false, Bool.not_true, Bool.not_false, stepW, opE, intV, parV, boxE, loadE, partE, faddrE, fieldE, checkE, extractE, resultsE, resEs, resE, buildE, fillE, splice, if_true, if_false, Bool.false_eq_true, true_and, and_true, AV.cells, okA, oneA, fzs, fz, opTmp, Option.bind_some, Option.map_some, List.getElem?_cons_zero, List.getElem?_cons_succ, and_self, canonR, canon, canons, shift, shifts, pushAll, pushFrom, tys87, onceA, postU, postA, hv.rd.addr', hi, ha, hb]
    (first | refine call_plain (h1) (by first | rfl | simp only [plains, plain, Bool.and_true, Bool.and_self, *]) ?_ | refine call_pure (h1) (by first | rfl | simp only [plains, plain, Bool.and_true, Bool.and_self, *]) (by intro k; first | rfl | simp only [shift, shifts, intV, boolV, *]) ?_); simp only [↓pre, post, ↓reduceIte, Nat.reduceEqDiff, Nat.reduceAdd, Nat.reduceMul, Nat.reduceSub, Nat.reduceLeDiff, Nat.reduceMod, Nat.reduceDiv, reduceCtorEq, Nat.reduceLT, Nat.reduceGT, Nat.reduceBEq, Option.isSome_some, ne_eq, Int.reduceEq, not_false_eq_true, bin_quo, bin_rem, List.length_cons, List.length_nil, List.map_cons, List.map_nil, List.append_nil, List.cons_append, List.nil_append, List.take_succ_cons, List.take_zero, List.drop_succ_cons, List.drop_zero, Nat.zero_add, Nat.add_zero, Nat.zero_le, Nat.le_refl, decide_true, decide_false, Bool.not_true, Bool.not_false, stepW, opE, intV, parV, boxE, loadE, partE, faddrE, fieldE, checkE, extractE, resultsE, resEs, resE, buildE, fillE, splice, if_true, if_false, Bool.false_eq_true, true_and, and_true, AV.cells, okA, oneA, fzs, fz, opTmp, Option.bind_some, Option.map_some, List.getElem?_cons_zero, List.getElem?_cons_succ, and_self, canonR, canon, canons, shift, shifts, pushAll, pushFrom, tys87, onceA, postU, postA, hv.rd.addr', hi, ha, hb, he, boolV]
    rfl
  · rw [decide_eq_false he]
    refine fspec_of_body follows Try.func87 (by unfold Try.f87; rfl) (by unfold Try.f87; simp) onceA (by unfold Try.f87; simp) (by kernel_rfl) ?_; unfold Try.f87
    simp only [↓pre, post, ↓reduceIte, Nat.reduceEqDiff, Nat.reduceAdd, Nat.reduceMul, Nat.reduceSub, Nat.reduceLeDiff, Nat.reduceMod, Nat.reduceDiv, reduceCtorEq, Nat.reduceLT, Nat.reduceGT, Nat.reduceBEq, Option.isSome_some, ne_eq, Int.reduceEq, not_false_eq_true, bin_quo, bin_rem, List.length_cons, List.length_nil, List.map_cons, List.map_nil, List.append_nil, List.cons_append, List.nil_append, List.take_succ_cons, List.take_zero, List.drop_succ_cons, List.drop_zero, Nat.zero_add, Nat.add_zero, Nat.zero_le, Nat.le_refl, decide_true, decide_false, Bool.not_true, Bool.not_false, stepW, opE, intV, parV, boxE, loadE, partE, faddrE, fieldE, checkE, extractE, resultsE, resEs, resE, buildE, fillE, splice, if_true, if_false, Bool.false_eq_true, true_and, and_true, AV.cells, okA, oneA, fzs, fz, opTmp, Option.bind_some, Option.map_some, List.getElem?_cons_zero, List.getElem?_cons_succ, and_self, canonR, canon, canons, shift, shifts, pushAll, pushFrom, tys87, onceA, postU, postA, hv.rd.addr', hi, ha, hb]
    (first | refine call_plain (h1) (by first | rfl | simp only [plains, plain, Bool.and_true, Bool.and_self, *]) ?_ | refine call_pure (h1) (by first | rfl | simp only [plains, plain, Bool.and_true, Bool.and_self, *]) (by intro k; first | rfl | simp only [shift, shifts, intV, boolV, *]) ?_); simp only [↓pre, post, ↓reduceIte, Nat.reduceEqDiff, Nat.reduceAdd, Nat.reduceMul, Nat.reduceSub, Nat.reduceLeDiff, Nat.reduceMod, Nat.reduceDiv, reduceCtorEq, Nat.reduceLT, Nat.reduceGT, Nat.reduceBEq, Option.isSome_some, ne_eq, Int.reduceEq, not_false_eq_true, bin_quo, bin_rem, List.length_cons, List.length_nil, List.map_cons, List.map_nil, List.append_nil, List.cons_append, List.nil_append, List.take_succ_cons, List.take_zero, List.drop_succ_cons, List.drop_zero, Nat.zero_add, Nat.add_zero, Nat.zero_le, Nat.le_refl, decide_true, decide_false, Bool.not_true, Bool.not_false, stepW, opE, intV, parV, boxE, loadE, partE, faddrE, fieldE, checkE, extractE, resultsE, resEs, resE, buildE, fillE, splice, if_true, if_false, Bool.false_eq_true, true_and, and_true, AV.cells, okA, oneA, fzs, fz, opTmp, Option.bind_some, Option.map_some, List.getElem?_cons_zero, List.getElem?_cons_succ, and_self, canonR, canon, canons, shift, shifts, pushAll, pushFrom, tys87, onceA, postU, postA, hv.rd.addr', hi, ha, hb, he, boolV]; (first | refine call_plain (h2) (by first | rfl | simp only [plains, plain, Bool.and_true, Bool.and_self, *]) ?_ | refine call_pure (h2) (by first | rfl | simp only [plains, plain, Bool.and_true, Bool.and_self, *]) (by intro k; first | rfl | simp only [shift, shifts, intV, boolV, *]) ?_); simp only [↓pre, post, ↓reduceIte, Nat.reduceEqDiff, Nat.reduceAdd, Nat.reduceMul, Nat.reduceSub, Nat.reduceLeDiff, Nat.reduceMod, Nat.reduceDiv, reduceCtorEq, Nat.reduceLT, Nat.reduceGT, Nat.reduceBEq, Option.isSome_some, ne_eq, Int.reduceEq, not_false_eq_true, bin_quo, bin_rem, List.length_cons, List.length_nil, List.map_cons, List.map_nil, List.append_nil, List.cons_append, List.nil_append, List.take_succ_cons, List.take_zero, List.drop_succ_cons, List.drop_zero, Nat.zero_add, Nat.add_zero, Nat.zero_le, Nat.le_refl, decide_true, decide_false, Bool.not_true, Bool.not_false, stepW, opE, intV, parV, boxE, loadE, partE, faddrE, fieldE, checkE, extractE, resultsE, resEs, resE, buildE, fillE, splice, if_true, if_false, Bool.false_eq_true, true_and, and_true, AV.cells, okA, oneA, fzs, fz, opTmp, Option.bind_some, Option.map_some, List.getElem?_cons_zero, List.getElem?_cons_succ, and_self, canonR, canon, canons, shift, shifts, pushAll, pushFrom, tys87, onceA, postU, postA, hv.rd.addr', hi, ha, hb, he, boolV]
    rfl
theorem tCells_still {P : Program} (hs : List (Int × Int)) (T : List Int) : ∀ x ∈ tCells hs T, Still P x := by
  intro x hx
  unfold tCells at hx
  rw [List.mem_flatMap] at hx
  obtain ⟨v, _, hx⟩ := hx
  rw [List.mem_cons, List.mem_singleton] at hx
  rcases hx with rfl | rfl
  · exact still_val _
  · exact still_treeR _ _
def onceL : Nat → Bool := fun d => d != 11
theorem ref14_All (k r c w : Int) (v : AV) (ps : List PairB) (cells : List AV) (hv : RowV v ps cells) (hm : mayB k r c w = true) (hn : ps.length ≤ 1000000) : FSpec Try.prog 84 [parV k r c w, v] (ownR 69 (versF (heldsP k r c w ps)).length (tCells (heldsP k r c w ps) (versF (heldsP k r c w ps)))) := by
  have hp := hv.rd.plain
  have hlt0 := helds_lt (k := k) (r := r) (c := c) (w := w) (ps := ps)
  have hlen := helds_len k r c w ps
  generalize hhs : heldsP k r c w ps = hs at *
  generalize hres : ownR 69 (versF hs).length (tCells hs (versF hs)) = res
  replace hlt0 := Hid.mk hlt0
  replace hhs := Hid.mk hhs
  replace hlen := Hid.mk hlen
  replace hn := Hid.mk hn
  refine fspec_of_body follows Try.func84 (by unfold Try.f84; rfl) (by unfold Try.f84; simp) onceL (by unfold Try.f84; simp) (by kernel_rfl) ?_; unfold Try.f84
  simp only [↓pre, post, ↓reduceIte, Nat.reduceEqDiff, Nat.reduceAdd, Nat.reduceMul, Nat.reduceSub, Nat.reduceLeDiff, Nat.reduceMod, Nat.reduceDiv, reduceCtorEq, Nat.reduceLT, Nat.reduceGT, Nat.reduceBEq, Option.isSome_some, ne_eq, Int.reduceEq, not_false_eq_true, bin_quo, bin_rem, List.length_cons, List.length_nil, List.map_cons, List.map_nil, List.append_nil, List.cons_append, List.nil_append, List.take_succ_cons, List.take_zero, List.drop_succ_cons, List.drop_zero, Nat.zero_add, Nat.add_zero, Nat.zero_le, Nat.le_refl, decide_true, decide_false, Bool.not_true, Bool.not_false, stepW, opE, intV, parV, boxE, loadE, partE, faddrE, fieldE, checkE, extractE, resultsE, resEs, resE, buildE, fillE, splice, if_true, if_false, Bool.false_eq_true, true_and, and_true, AV.cells, okA, oneA, fzs, fz, opTmp, Option.bind_some, Option.map_some, List.getElem?_cons_zero, List.getElem?_cons_succ, and_self, canonR, canon, canons, shift, shifts, pushAll, pushFrom, tys84, onceL, Option.getD_some, Option.getD_none, bne, Nat.reduceBNe, Bool.and_true, Bool.and_false, Bool.true_and, Bool.false_and, Bool.and_self, postU, postA, postV, allocE, storeE, eq_self, put_at, push_at, Option.map_none, Option.map_some, optNat]
  rw [codeW_loop]
  refine loop_intro (fun q e m => ∃ top T lv, q = top.toNat ∧ e 1 = v ∧ e 2 = .tptr 0 [intV k, intV r, intV c, intV w] ∧ e 5 = lv ∧ e 6 = intV top ∧ Hid (0 < top ∧ Falls hs top T ∧ T.length + top ≤ 1073741825 ∧ OwnK .var m 69 2 lv T.length (tCells hs T))) 1073741825 ⟨1073741825, [], nilS, rfl, rfl, rfl, rfl, rfl, ⟨by omega, falls_start hlt0.out, by simp, own_nil⟩⟩ ?_
  rintro q e m ⟨top, T, lv, hq, e1, e2, e5, e6, hI⟩
  replace hq := Hid.mk hq
  simp only [↓pre, post, ↓reduceIte, Nat.reduceEqDiff, Nat.reduceAdd, Nat.reduceMul, Nat.reduceSub, Nat.reduceLeDiff, Nat.reduceMod, Nat.reduceDiv, reduceCtorEq, Nat.reduceLT, Nat.reduceGT, Nat.reduceBEq, Option.isSome_some, ne_eq, Int.reduceEq, not_false_eq_true, bin_quo, bin_rem, List.length_cons, List.length_nil, List.map_cons, List.map_nil, List.append_nil, List.cons_append, List.nil_append, List.take_succ_cons, List.take_zero, List.drop_succ_cons, List.drop_zero, Nat.zero_add, Nat.add_zero, Nat.zero_le, Nat.le_refl, decide_true, decide_false, Bool.not_true, Bool.not_false, stepW, opE, intV, parV, boxE, loadE, partE, faddrE, fieldE, checkE, extractE, resultsE, resEs, resE, buildE, fillE, splice, if_true, if_false, Bool.false_eq_true, true_and, and_true, AV.cells, okA, oneA, fzs, fz, opTmp, Option.bind_some, Option.map_some, List.getElem?_cons_zero, List.getElem?_cons_succ, and_self, canonR, canon, canons, shift, shifts, pushAll, pushFrom, tys84, onceL, Option.getD_some, Option.getD_none, bne, Nat.reduceBNe, Bool.and_true, Bool.and_false, Bool.true_and, Bool.false_and, Bool.and_self, postU, postA, postV, allocE, storeE, eq_self, put_at, push_at, Option.map_none, Option.map_some, optNat, e1, e2, e5, e6]
  rw [codeW_loop]
  refine loop_intro (fun q e m' => ∃ i b, q + i = ps.length ∧ e 1 = v ∧ e 2 = .tptr 0 [intV k, intV r, intV c, intV w] ∧ e 5 = lv ∧ e 6 = intV top ∧ e 7 = intV b ∧ e 8 = intV (i : Nat) ∧ m' = m ∧ Hid (bestInv hs top i 0 b)) ps.length ⟨0, 0, by omega, e1, e2, e5, e6, rfl, rfl, rfl, ⟨best_start hs top⟩⟩ ?_
  rintro q1 e m' ⟨i, b, hqi, e1, e2, e5, e6, e7, e8, rfl, hb⟩
  replace hqi := Hid.mk hqi
  by_cases hlt : i < ps.length
  · have hlt' : ((i : Nat) : Int) < ((ps.length : Nat) : Int) := by omega
    obtain ⟨p, hpi⟩ : ∃ p, ps[i]? = some p := ⟨_, List.getElem?_eq_getElem hlt⟩
    obtain ⟨ua, ub, xa, xb, ha, hub, hra, hrb⟩ := hv.at_ i p hpi
    have hsi := helds_at (k := k) (r := r) (c := c) (w := w) hpi
    rw [hhs.out] at hsi
    have w1 := wrap_succ (n := i) (by have := hn.out; omega)
    replace hpi := Hid.mk hpi
    replace hsi := Hid.mk hsi
    simp only [↓pre, post, ↓reduceIte, Nat.reduceEqDiff, Nat.reduceAdd, Nat.reduceMul, Nat.reduceSub, Nat.reduceLeDiff, Nat.reduceMod, Nat.reduceDiv, reduceCtorEq, Nat.reduceLT, Nat.reduceGT, Nat.reduceBEq, Option.isSome_some, ne_eq, Int.reduceEq, not_false_eq_true, bin_quo, bin_rem, List.length_cons, List.length_nil, List.map_cons, List.map_nil, List.append_nil, List.cons_append, List.nil_append, List.take_succ_cons, List.take_zero, List.drop_succ_cons, List.drop_zero, Nat.zero_add, Nat.add_zero, Nat.zero_le, Nat.le_refl, decide_true, decide_false, Bool.not_true, Bool.not_false, stepW, opE, intV, parV, boxE, loadE, partE, faddrE, fieldE, checkE, extractE, resultsE, resEs, resE, buildE, fillE, splice, if_true, if_false, Bool.false_eq_true, true_and, and_true, AV.cells, okA, oneA, fzs, fz, opTmp, Option.bind_some, Option.map_some, List.getElem?_cons_zero, List.getElem?_cons_succ, and_self, canonR, canon, canons, shift, shifts, pushAll, pushFrom, tys84, onceL, Option.getD_some, Option.getD_none, bne, Nat.reduceBNe, Bool.and_true, Bool.and_false, Bool.true_and, Bool.false_and, Bool.and_self, postU, postA, postV, allocE, storeE, eq_self, put_at, push_at, Option.map_none, Option.map_some, optNat, e1, e2, e5, e6, e7, e8, hv.rd.len', hlt']
    rw [codeW_loop]
    refine loop_intro (fun q e m2 => ∃ kk b, q + kk = 2 ∧ e 1 = v ∧ e 2 = .tptr 0 [intV k, intV r, intV c, intV w] ∧ e 5 = lv ∧ e 6 = intV top ∧ e 7 = intV b ∧ e 8 = intV (i : Nat) ∧ e 9 = intV (kk : Nat) ∧ m2 = m' ∧ Hid (bestInv hs top i kk b)) 2 ⟨0, b, by omega, e1, e2, e5, e6, e7, e8, rfl, rfl, hb⟩ ?_
    rintro q2 e m2 ⟨kk, b, hqk, e1, e2, e5, e6, e7, e8, e9, rfl, hb⟩
    replace hqk := Hid.mk hqk
    by_cases hkk : kk < 2
    · have hkk' : ((kk : Nat) : Int) < 2 := by omega
      have w2 := wrap_succ (n := kk) (by omega)
      obtain ⟨u, bu, xu, z, hu, hru, hz, hz2⟩ : ∃ u bu xu z, cells[i * 2 + kk]? = some u ∧ RdSl u bu.length (bytesA bu ++ xu) ∧ heldI k r c w bu i = z ∧ z = (if kk = 0 then (heldI k r c w p.1 i, heldI k r c w p.2 i).1 else (heldI k r c w p.1 i, heldI k r c w p.2 i).2) := by
        match kk, hkk with
        | 0, _ => exact ⟨ua, p.1, xa, _, ha, hra, rfl, rfl⟩
        | 1, _ => exact ⟨ub, p.2, xb, _, hub, hrb, rfl, rfl⟩
      have hst := best_step hb.out hkk hsi.out hz2
      have pu := hru.plain
      have hh := ref14_held k r c w i u bu xu hru hm
      rw [hz] at hh
      replace hz2 := Hid.mk hz2
      by_cases c1 : z < top
      · by_cases c2 : b < z
        · rw [if_pos ⟨c1, c2⟩] at hst
          replace hst := Hid.mk hst
          simp only [↓pre, post, ↓reduceIte, Nat.reduceEqDiff, Nat.reduceAdd, Nat.reduceMul, Nat.reduceSub, Nat.reduceLeDiff, Nat.reduceMod, Nat.reduceDiv, reduceCtorEq, Nat.reduceLT, Nat.reduceGT, Nat.reduceBEq, Option.isSome_some, ne_eq, Int.reduceEq, not_false_eq_true, bin_quo, bin_rem, List.length_cons, List.length_nil, List.map_cons, List.map_nil, List.append_nil, List.cons_append, List.nil_append, List.take_succ_cons, List.take_zero, List.drop_succ_cons, List.drop_zero, Nat.zero_add, Nat.add_zero, Nat.zero_le, Nat.le_refl, decide_true, decide_false, Bool.not_true, Bool.not_false, stepW, opE, intV, parV, boxE, loadE, partE, faddrE, fieldE, checkE, extractE, resultsE, resEs, resE, buildE, fillE, splice, if_true, if_false, Bool.false_eq_true, true_and, and_true, AV.cells, okA, oneA, fzs, fz, opTmp, Option.bind_some, Option.map_some, List.getElem?_cons_zero, List.getElem?_cons_succ, and_self, canonR, canon, canons, shift, shifts, pushAll, pushFrom, tys84, onceL, Option.getD_some, Option.getD_none, bne, Nat.reduceBNe, Bool.and_true, Bool.and_false, Bool.true_and, Bool.false_and, Bool.and_self, postU, postA, postV, allocE, storeE, eq_self, put_at, push_at, Option.map_none, Option.map_some, optNat, e1, e2, e5, e6, e7, e8, e9, hkk', hkk, hv.rd.addr', hlt, Nat.mul_one, hu]
          (first | refine call_plain (hh) (by first | rfl | simp only [plains, plain, Bool.and_true, Bool.and_self, *]) ?_ | refine call_pure (hh) (by first | rfl | simp only [plains, plain, Bool.and_true, Bool.and_self, *]) (by intro k; first | rfl | simp only [shift, shifts, intV, boolV, *]) ?_); simp only [↓pre, post, ↓reduceIte, Nat.reduceEqDiff, Nat.reduceAdd, Nat.reduceMul, Nat.reduceSub, Nat.reduceLeDiff, Nat.reduceMod, Nat.reduceDiv, reduceCtorEq, Nat.reduceLT, Nat.reduceGT, Nat.reduceBEq, Option.isSome_some, ne_eq, Int.reduceEq, not_false_eq_true, bin_quo, bin_rem, List.length_cons, List.length_nil, List.map_cons, List.map_nil, List.append_nil, List.cons_append, List.nil_append, List.take_succ_cons, List.take_zero, List.drop_succ_cons, List.drop_zero, Nat.zero_add, Nat.add_zero, Nat.zero_le, Nat.le_refl, decide_true, decide_false, Bool.not_true, Bool.not_false, stepW, opE, intV, parV, boxE, loadE, partE, faddrE, fieldE, checkE, extractE, resultsE, resEs, resE, buildE, fillE, splice, if_true, if_false, Bool.false_eq_true, true_and, and_true, AV.cells, okA, oneA, fzs, fz, opTmp, Option.bind_some, Option.map_some, List.getElem?_cons_zero, List.getElem?_cons_succ, and_self, canonR, canon, canons, shift, shifts, pushAll, pushFrom, tys84, onceL, Option.getD_some, Option.getD_none, bne, Nat.reduceBNe, Bool.and_true, Bool.and_false, Bool.true_and, Bool.false_and, Bool.and_self, postU, postA, postV, allocE, storeE, eq_self, put_at, push_at, Option.map_none, Option.map_some, optNat, e1, e2, e5, e6, e7, e8, e9, c1, c2, cond_t, cond_f, w2]
          exact ⟨q2 - 1, by have := hqk.out; omega, kk + 1, z, by have := hqk.out; omega, rfl, rfl, ⟨hst.out⟩⟩
        · rw [if_neg (fun h => c2 h.2)] at hst
          replace hst := Hid.mk hst
          simp only [↓pre, post, ↓reduceIte, Nat.reduceEqDiff, Nat.reduceAdd, Nat.reduceMul, Nat.reduceSub, Nat.reduceLeDiff, Nat.reduceMod, Nat.reduceDiv, reduceCtorEq, Nat.reduceLT, Nat.reduceGT, Nat.reduceBEq, Option.isSome_some, ne_eq, Int.reduceEq, not_false_eq_true, bin_quo, bin_rem, List.length_cons, List.length_nil, List.map_cons, List.map_nil, List.append_nil, List.cons_append, List.nil_append, List.take_succ_cons, List.take_zero, List.drop_succ_cons, List.drop_zero, Nat.zero_add, Nat.add_zero, Nat.zero_le, Nat.le_refl, decide_true, decide_false, Bool.not_true, Bool.not_false, stepW, opE, intV, parV, boxE, loadE, partE, faddrE, fieldE, checkE, extractE, resultsE, resEs, resE, buildE, fillE, splice, if_true, if_false, Bool.false_eq_true, true_and, and_true, AV.cells, okA, oneA, fzs, fz, opTmp, Option.bind_some, Option.map_some, List.getElem?_cons_zero, List.getElem?_cons_succ, and_self, canonR, canon, canons, shift, shifts, pushAll, pushFrom, tys84, onceL, Option.getD_some, Option.getD_none, bne, Nat.reduceBNe, Bool.and_true, Bool.and_false, Bool.true_and, Bool.false_and, Bool.and_self, postU, postA, postV, allocE, storeE, eq_self, put_at, push_at, Option.map_none, Option.map_some, optNat, e1, e2, e5, e6, e7, e8, e9, hkk', hkk, hv.rd.addr', hlt, Nat.mul_one, hu]
          (first | refine call_plain (hh) (by first | rfl | simp only [plains, plain, Bool.and_true, Bool.and_self, *]) ?_ | refine call_pure (hh) (by first | rfl | simp only [plains, plain, Bool.and_true, Bool.and_self, *]) (by intro k; first | rfl | simp only [shift, shifts, intV, boolV, *]) ?_); simp only [↓pre, post, ↓reduceIte, Nat.reduceEqDiff, Nat.reduceAdd, Nat.reduceMul, Nat.reduceSub, Nat.reduceLeDiff, Nat.reduceMod, Nat.reduceDiv, reduceCtorEq, Nat.reduceLT, Nat.reduceGT, Nat.reduceBEq, Option.isSome_some, ne_eq, Int.reduceEq, not_false_eq_true, bin_quo, bin_rem, List.length_cons, List.length_nil, List.map_cons, List.map_nil, List.append_nil, List.cons_append, List.nil_append, List.take_succ_cons, List.take_zero, List.drop_succ_cons, List.drop_zero, Nat.zero_add, Nat.add_zero, Nat.zero_le, Nat.le_refl, decide_true, decide_false, Bool.not_true, Bool.not_false, stepW, opE, intV, parV, boxE, loadE, partE, faddrE, fieldE, checkE, extractE, resultsE, resEs, resE, buildE, fillE, splice, if_true, if_false, Bool.false_eq_true, true_and, and_true, AV.cells, okA, oneA, fzs, fz, opTmp, Option.bind_some, Option.map_some, List.getElem?_cons_zero, List.getElem?_cons_succ, and_self, canonR, canon, canons, shift, shifts, pushAll, pushFrom, tys84, onceL, Option.getD_some, Option.getD_none, bne, Nat.reduceBNe, Bool.and_true, Bool.and_false, Bool.true_and, Bool.false_and, Bool.and_self, postU, postA, postV, allocE, storeE, eq_self, put_at, push_at, Option.map_none, Option.map_some, optNat, e1, e2, e5, e6, e7, e8, e9, c1, c2, cond_t, cond_f, w2]
          exact ⟨q2 - 1, by have := hqk.out; omega, kk + 1, b, by have := hqk.out; omega, rfl, rfl, ⟨hst.out⟩⟩
      · rw [if_neg (fun h => c1 h.1)] at hst
        replace hst := Hid.mk hst
        simp only [↓pre, post, ↓reduceIte, Nat.reduceEqDiff, Nat.reduceAdd, Nat.reduceMul, Nat.reduceSub, Nat.reduceLeDiff, Nat.reduceMod, Nat.reduceDiv, reduceCtorEq, Nat.reduceLT, Nat.reduceGT, Nat.reduceBEq, Option.isSome_some, ne_eq, Int.reduceEq, not_false_eq_true, bin_quo, bin_rem, List.length_cons, List.length_nil, List.map_cons, List.map_nil, List.append_nil, List.cons_append, List.nil_append, List.take_succ_cons, List.take_zero, List.drop_succ_cons, List.drop_zero, Nat.zero_add, Nat.add_zero, Nat.zero_le, Nat.le_refl, decide_true, decide_false, Bool.not_true, Bool.not_false, stepW, opE, intV, parV, boxE, loadE, partE, faddrE, fieldE, checkE, extractE, resultsE, resEs, resE, buildE, fillE, splice, if_true, if_false, Bool.false_eq_true, true_and, and_true, AV.cells, okA, oneA, fzs, fz, opTmp, Option.bind_some, Option.map_some, List.getElem?_cons_zero, List.getElem?_cons_succ, and_self, canonR, canon, canons, shift, shifts, pushAll, pushFrom, tys84, onceL, Option.getD_some, Option.getD_none, bne, Nat.reduceBNe, Bool.and_true, Bool.and_false, Bool.true_and, Bool.false_and, Bool.and_self, postU, postA, postV, allocE, storeE, eq_self, put_at, push_at, Option.map_none, Option.map_some, optNat, e1, e2, e5, e6, e7, e8, e9, hkk', hkk, hv.rd.addr', hlt, Nat.mul_one, hu]
        (first | refine call_plain (hh) (by first | rfl | simp only [plains, plain, Bool.and_true, Bool.and_self, *]) ?_ | refine call_pure (hh) (by first | rfl | simp only [plains, plain, Bool.and_true, Bool.and_self, *]) (by intro k; first | rfl | simp only [shift, shifts, intV, boolV, *]) ?_); simp only [↓pre, post, ↓reduceIte, Nat.reduceEqDiff, Nat.reduceAdd, Nat.reduceMul, Nat.reduceSub, Nat.reduceLeDiff, Nat.reduceMod, Nat.reduceDiv, reduceCtorEq, Nat.reduceLT, Nat.reduceGT, Nat.reduceBEq, Option.isSome_some, ne_eq, Int.reduceEq, not_false_eq_true, bin_quo, bin_rem, List.length_cons, List.length_nil, List.map_cons, List.map_nil, List.append_nil, List.cons_append, List.nil_append, List.take_succ_cons, List.take_zero, List.drop_succ_cons, List.drop_zero, Nat.zero_add, Nat.add_zero, Nat.zero_le, Nat.le_refl, decide_true, decide_false, Bool.not_true, Bool.not_false, stepW, opE, intV, parV, boxE, loadE, partE, faddrE, fieldE, checkE, extractE, resultsE, resEs, resE, buildE, fillE, splice, if_true, if_false, Bool.false_eq_true, true_and, and_true, AV.cells, okA, oneA, fzs, fz, opTmp, Option.bind_some, Option.map_some, List.getElem?_cons_zero, List.getElem?_cons_succ, and_self, canonR, canon, canons, shift, shifts, pushAll, pushFrom, tys84, onceL, Option.getD_some, Option.getD_none, bne, Nat.reduceBNe, Bool.and_true, Bool.and_false, Bool.true_and, Bool.false_and, Bool.and_self, postU, postA, postV, allocE, storeE, eq_self, put_at, push_at, Option.map_none, Option.map_some, optNat, e1, e2, e5, e6, e7, e8, e9, c1, cond_t, cond_f, w2]
        exact ⟨q2 - 1, by have := hqk.out; omega, kk + 1, b, by have := hqk.out; omega, rfl, rfl, ⟨hst.out⟩⟩
    · have hkk' : ¬ ((kk : Nat) : Int) < 2 := by omega
      have : kk = 2 := by have := hqk.out; omega
      subst this
      simp only [↓pre, post, ↓reduceIte, Nat.reduceEqDiff, Nat.reduceAdd, Nat.reduceMul, Nat.reduceSub, Nat.reduceLeDiff, Nat.reduceMod, Nat.reduceDiv, reduceCtorEq, Nat.reduceLT, Nat.reduceGT, Nat.reduceBEq, Option.isSome_some, ne_eq, Int.reduceEq, not_false_eq_true, bin_quo, bin_rem, List.length_cons, List.length_nil, List.map_cons, List.map_nil, List.append_nil, List.cons_append, List.nil_append, List.take_succ_cons, List.take_zero, List.drop_succ_cons, List.drop_zero, Nat.zero_add, Nat.add_zero, Nat.zero_le, Nat.le_refl, decide_true, decide_false, Bool.not_true, Bool.not_false, stepW, opE, intV, parV, boxE, loadE, partE, faddrE, fieldE, checkE, extractE, resultsE, resEs, resE, buildE, fillE, splice, if_true, if_false, Bool.false_eq_true, true_and, and_true, AV.cells, okA, oneA, fzs, fz, opTmp, Option.bind_some, Option.map_some, List.getElem?_cons_zero, List.getElem?_cons_succ, and_self, canonR, canon, canons, shift, shifts, pushAll, pushFrom, tys84, onceL, Option.getD_some, Option.getD_none, bne, Nat.reduceBNe, Bool.and_true, Bool.and_false, Bool.true_and, Bool.false_and, Bool.and_self, postU, postA, postV, allocE, storeE, eq_self, put_at, push_at, Option.map_none, Option.map_some, optNat, e1, e2, e5, e6, e7, e8, e9, hkk', cond_f, w1]
      exact ⟨q1 - 1, by have := hqi.out; omega, i + 1, b, by have := hqi.out; omega, rfl, rfl, ⟨best_next hb.out⟩⟩
  · have hlt' : ¬ ((i : Nat) : Int) < ((ps.length : Nat) : Int) := by omega
    have hil : i = hs.length := by have := hqi.out; have := hlen.out; omega
    subst hil
    by_cases hb0 : b = 0
    · subst hb0
      have hT := falls_vers (falls_end hI.out.2.1 hb.out)
      obtain ⟨ids, hcan⟩ := own_canonV (P := Try.prog) (by kernel_rfl) hI.out.2.2.2 (fun x hx => tCells_still hs T x hx)
      simp only [↓pre, post, ↓reduceIte, Nat.reduceEqDiff, Nat.reduceAdd, Nat.reduceMul, Nat.reduceSub, Nat.reduceLeDiff, Nat.reduceMod, Nat.reduceDiv, reduceCtorEq, Nat.reduceLT, Nat.reduceGT, Nat.reduceBEq, Option.isSome_some, ne_eq, Int.reduceEq, not_false_eq_true, bin_quo, bin_rem, List.length_cons, List.length_nil, List.map_cons, List.map_nil, List.append_nil, List.cons_append, List.nil_append, List.take_succ_cons, List.take_zero, List.drop_succ_cons, List.drop_zero, Nat.zero_add, Nat.add_zero, Nat.zero_le, Nat.le_refl, decide_true, decide_false, Bool.not_true, Bool.not_false, stepW, opE, intV, parV, boxE, loadE, partE, faddrE, fieldE, checkE, extractE, resultsE, resEs, resE, buildE, fillE, splice, if_true, if_false, Bool.false_eq_true, true_and, and_true, AV.cells, okA, oneA, fzs, fz, opTmp, Option.bind_some, Option.map_some, List.getElem?_cons_zero, List.getElem?_cons_succ, and_self, canonR, canon, canons, shift, shifts, pushAll, pushFrom, tys84, onceL, Option.getD_some, Option.getD_none, bne, Nat.reduceBNe, Bool.and_true, Bool.and_false, Bool.true_and, Bool.false_and, Bool.and_self, postU, postA, postV, allocE, storeE, eq_self, put_at, push_at, Option.map_none, Option.map_some, optNat, e1, e2, e5, e6, e7, e8, hv.rd.len', hlt', cond_t, cond_f, hcan]
      rw [← hres, hT]
    · obtain ⟨hf, hbt, hbp⟩ := falls_step hI.out.2.1 hb.out hb0
      replace hf := Hid.mk hf
      replace hbt := Hid.mk hbt
      replace hbp := Hid.mk hbp
      simp only [↓pre, post, ↓reduceIte, Nat.reduceEqDiff, Nat.reduceAdd, Nat.reduceMul, Nat.reduceSub, Nat.reduceLeDiff, Nat.reduceMod, Nat.reduceDiv, reduceCtorEq, Nat.reduceLT, Nat.reduceGT, Nat.reduceBEq, Option.isSome_some, ne_eq, Int.reduceEq, not_false_eq_true, bin_quo, bin_rem, List.length_cons, List.length_nil, List.map_cons, List.map_nil, List.append_nil, List.cons_append, List.nil_append, List.take_succ_cons, List.take_zero, List.drop_succ_cons, List.drop_zero, Nat.zero_add, Nat.add_zero, Nat.zero_le, Nat.le_refl, decide_true, decide_false, Bool.not_true, Bool.not_false, stepW, opE, intV, parV, boxE, loadE, partE, faddrE, fieldE, checkE, extractE, resultsE, resEs, resE, buildE, fillE, splice, if_true, if_false, Bool.false_eq_true, true_and, and_true, AV.cells, okA, oneA, fzs, fz, opTmp, Option.bind_some, Option.map_some, List.getElem?_cons_zero, List.getElem?_cons_succ, and_self, canonR, canon, canons, shift, shifts, pushAll, pushFrom, tys84, onceL, Option.getD_some, Option.getD_none, bne, Nat.reduceBNe, Bool.and_true, Bool.and_false, Bool.true_and, Bool.false_and, Bool.and_self, postU, postA, postV, allocE, storeE, eq_self, put_at, push_at, Option.map_none, Option.map_some, optNat, e1, e2, e5, e6, e7, e8, hv.rd.len', hlt', hb0, cond_t, cond_f]
      rw [codeW_loop]
      obtain ⟨hT0, _, hTl, hlv⟩ := hI.out
      have hlvb : blkOf lv ≠ some m'.next := by
        rcases hlv.form with ⟨rfl, _⟩ | ⟨b', rfl, _, h, _⟩
        · intro h; cases h
        · intro h'; injection h' with h'; omega
      have hb11 : ∃ b11, b11 = m'.next := ⟨_, rfl⟩
      obtain ⟨b11, hb11⟩ := hb11
      refine loop_intro (fun q e m2 => ∃ i cv, q + i = ps.length ∧ e 1 = v ∧ e 2 = .tptr 0 [intV k, intV r, intV c, intV w] ∧ e 5 = lv ∧ e 7 = intV b ∧ e 11 = .ptr b11 0 ∧ e 12 = intV (i : Nat) ∧ m2.at_ b11 = some ⟨[intV b, cv], 69, .var, true⟩ ∧ Hid (b11 < m2.next ∧ Own m2 3 1 cv (cellsN hs b i).length (intsA (cellsN hs b i)) ∧ OwnK .var m2 69 2 lv T.length (tCells hs T) ∧ blkOf lv ≠ some b11)) ps.length ⟨0, nilS, by omega, e1, e2, e5, e7, by rw [hb11]; rfl, rfl, ?_, ⟨?_, own_nil, ?_, by rw [hb11]; exact hlvb⟩⟩ ?_
      · rw [hb11, put_at, if_pos rfl]; rfl
      · rw [hb11, put_next, push_next]; omega
      · exact hlv.pp _ _
      · rintro q3 e m2 ⟨i, cv, hq3, e1, e2, e5, e7, e11, e12, hbx, hJ⟩
        replace hq3 := Hid.mk hq3
        by_cases hlt : i < ps.length
        · have hlt' : ((i : Nat) : Int) < ((ps.length : Nat) : Int) := by omega
          have w1 := wrap_succ (n := i) (by have := hn.out; omega)
          have hh := ref14_Holds k r c w b v ps cells i hv hm hlt hn.out
          rw [hhs.out] at hh
          have hcs := cellsN_succ hs b i
          have hcl := cellsN_le hs b i
          replace hcs := Hid.mk hcs
          replace hcl := Hid.mk hcl
          simp only [↓pre, post, ↓reduceIte, Nat.reduceEqDiff, Nat.reduceAdd, Nat.reduceMul, Nat.reduceSub, Nat.reduceLeDiff, Nat.reduceMod, Nat.reduceDiv, reduceCtorEq, Nat.reduceLT, Nat.reduceGT, Nat.reduceBEq, Option.isSome_some, ne_eq, Int.reduceEq, not_false_eq_true, bin_quo, bin_rem, List.length_cons, List.length_nil, List.map_cons, List.map_nil, List.append_nil, List.cons_append, List.nil_append, List.take_succ_cons, List.take_zero, List.drop_succ_cons, List.drop_zero, Nat.zero_add, Nat.add_zero, Nat.zero_le, Nat.le_refl, decide_true, decide_false, Bool.not_true, Bool.not_false, stepW, opE, intV, parV, boxE, loadE, partE, faddrE, fieldE, checkE, extractE, resultsE, resEs, resE, buildE, fillE, splice, if_true, if_false, Bool.false_eq_true, true_and, and_true, AV.cells, okA, oneA, fzs, fz, opTmp, Option.bind_some, Option.map_some, List.getElem?_cons_zero, List.getElem?_cons_succ, and_self, canonR, canon, canons, shift, shifts, pushAll, pushFrom, tys84, onceL, Option.getD_some, Option.getD_none, bne, Nat.reduceBNe, Bool.and_true, Bool.and_false, Bool.true_and, Bool.false_and, Bool.and_self, postU, postA, postV, allocE, storeE, eq_self, put_at, push_at, Option.map_none, Option.map_some, optNat, e1, e2, e5, e7, e11, e12, hv.rd.len', hlt']
          cases hho : holdsAt hs i b with
          | false =>
            rw [hho] at hh hcs
            (first | refine call_plain (hh) (by first | rfl | simp only [plains, plain, Bool.and_true, Bool.and_self, *]) ?_ | refine call_pure (hh) (by first | rfl | simp only [plains, plain, Bool.and_true, Bool.and_self, *]) (by intro k; first | rfl | simp only [shift, shifts, intV, boolV, *]) ?_); simp only [↓pre, post, ↓reduceIte, Nat.reduceEqDiff, Nat.reduceAdd, Nat.reduceMul, Nat.reduceSub, Nat.reduceLeDiff, Nat.reduceMod, Nat.reduceDiv, reduceCtorEq, Nat.reduceLT, Nat.reduceGT, Nat.reduceBEq, Option.isSome_some, ne_eq, Int.reduceEq, not_false_eq_true, bin_quo, bin_rem, List.length_cons, List.length_nil, List.map_cons, List.map_nil, List.append_nil, List.cons_append, List.nil_append, List.take_succ_cons, List.take_zero, List.drop_succ_cons, List.drop_zero, Nat.zero_add, Nat.add_zero, Nat.zero_le, Nat.le_refl, decide_true, decide_false, Bool.not_true, Bool.not_false, stepW, opE, intV, parV, boxE, loadE, partE, faddrE, fieldE, checkE, extractE, resultsE, resEs, resE, buildE, fillE, splice, if_true, if_false, Bool.false_eq_true, true_and, and_true, AV.cells, okA, oneA, fzs, fz, opTmp, Option.bind_some, Option.map_some, List.getElem?_cons_zero, List.getElem?_cons_succ, and_self, canonR, canon, canons, shift, shifts, pushAll, pushFrom, tys84, onceL, Option.getD_some, Option.getD_none, bne, Nat.reduceBNe, Bool.and_true, Bool.and_false, Bool.true_and, Bool.false_and, Bool.and_self, postU, postA, postV, allocE, storeE, eq_self, put_at, push_at, Option.map_none, Option.map_some, optNat, e1, e2, e5, e7, e11, e12, boolV, cond_f, w1, hbx]
            refine ⟨q3 - 1, by have := hq3.out; omega, i + 1, cv, by have := hq3.out; omega, rfl, rfl, ⟨?_⟩⟩
            rw [hcs.out]
            simpa using hJ.out
          | true =>
            rw [hho] at hh hcs
            obtain ⟨hnx, hcv, hlv2, hlb⟩ := hJ.out
            (first | refine call_plain (hh) (by first | rfl | simp only [plains, plain, Bool.and_true, Bool.and_self, *]) ?_ | refine call_pure (hh) (by first | rfl | simp only [plains, plain, Bool.and_true, Bool.and_self, *]) (by intro k; first | rfl | simp only [shift, shifts, intV, boolV, *]) ?_); simp only [↓pre, post, ↓reduceIte, Nat.reduceEqDiff, Nat.reduceAdd, Nat.reduceMul, Nat.reduceSub, Nat.reduceLeDiff, Nat.reduceMod, Nat.reduceDiv, reduceCtorEq, Nat.reduceLT, Nat.reduceGT, Nat.reduceBEq, Option.isSome_some, ne_eq, Int.reduceEq, not_false_eq_true, bin_quo, bin_rem, List.length_cons, List.length_nil, List.map_cons, List.map_nil, List.append_nil, List.cons_append, List.nil_append, List.take_succ_cons, List.take_zero, List.drop_succ_cons, List.drop_zero, Nat.zero_add, Nat.add_zero, Nat.zero_le, Nat.le_refl, decide_true, decide_false, Bool.not_true, Bool.not_false, stepW, opE, intV, parV, boxE, loadE, partE, faddrE, fieldE, checkE, extractE, resultsE, resEs, resE, buildE, fillE, splice, if_true, if_false, Bool.false_eq_true, true_and, and_true, AV.cells, okA, oneA, fzs, fz, opTmp, Option.bind_some, Option.map_some, List.getElem?_cons_zero, List.getElem?_cons_succ, and_self, canonR, canon, canons, shift, shifts, pushAll, pushFrom, tys84, onceL, Option.getD_some, Option.getD_none, bne, Nat.reduceBNe, Bool.and_true, Bool.and_false, Bool.true_and, Bool.false_and, Bool.and_self, postU, postA, postV, allocE, storeE, eq_self, put_at, push_at, Option.map_none, Option.map_some, optNat, e1, e2, e5, e7, e11, e12, boolV, cond_t, w1, hbx]
            refine app_keep (kd := .flat) (sz := 1) (y := 8) (zl := [.int .i64 0]) (by kernel_rfl) hcv (by kernel_rfl) (by kernel_rfl) (by kernel_rfl) rfl srcT1 (by rfl) (by have := hcl.out; have := hn.out; omega) (by have := hcl.out; have := hn.out; omega) ?_
            intro cv' m3 ho' hnx' hkeep hbl
            have hbx' := hkeep b11 _ hbx hnx (hcv.ne_kind hbx (fun h => by cases h))
            have hlv3 := hlv2.other hcv (fun h => by cases h) hnx' hkeep
            obtain ⟨b', rfl, hb', hlt'⟩ := ho'.sl (by omega)
            simp only [↓pre, post, ↓reduceIte, Nat.reduceEqDiff, Nat.reduceAdd, Nat.reduceMul, Nat.reduceSub, Nat.reduceLeDiff, Nat.reduceMod, Nat.reduceDiv, reduceCtorEq, Nat.reduceLT, Nat.reduceGT, Nat.reduceBEq, Option.isSome_some, ne_eq, Int.reduceEq, not_false_eq_true, bin_quo, bin_rem, List.length_cons, List.length_nil, List.map_cons, List.map_nil, List.append_nil, List.cons_append, List.nil_append, List.take_succ_cons, List.take_zero, List.drop_succ_cons, List.drop_zero, Nat.zero_add, Nat.add_zero, Nat.zero_le, Nat.le_refl, decide_true, decide_false, Bool.not_true, Bool.not_false, stepW, opE, intV, parV, boxE, loadE, partE, faddrE, fieldE, checkE, extractE, resultsE, resEs, resE, buildE, fillE, splice, if_true, if_false, Bool.false_eq_true, true_and, and_true, AV.cells, okA, oneA, fzs, fz, opTmp, Option.bind_some, Option.map_some, List.getElem?_cons_zero, List.getElem?_cons_succ, and_self, canonR, canon, canons, shift, shifts, pushAll, pushFrom, tys84, onceL, Option.getD_some, Option.getD_none, bne, Nat.reduceBNe, Bool.and_true, Bool.and_false, Bool.true_and, Bool.false_and, Bool.and_self, postU, postA, postV, allocE, storeE, eq_self, put_at, push_at, Option.map_none, Option.map_some, optNat, e1, e2, e5, e7, e11, e12, hbx', w1]
            refine ⟨q3 - 1, by have := hq3.out; omega, i + 1, _, by have := hq3.out; omega, rfl, rfl, ⟨by omega, ?_, hlv3.put_ne hlb, hlb⟩⟩
            rw [hcs.out, if_pos rfl, List.length_append, intsA_append]
            exact ho'.put_kind hbx' (fun h => by cases h)
        · have hlt' : ¬ ((i : Nat) : Int) < ((ps.length : Nat) : Int) := by omega
          have hil : i = hs.length := by have := hq3.out; have := hlen.out; omega
          subst hil
          obtain ⟨hnx, hcv, hlv2, hlb⟩ := hJ.out
          obtain ⟨m4, hbz, hm4n, hm4⟩ := build_fz1 (P := Try.prog) (t := 63) (el := 69) (x := .int .i64 b) (z := [.int .i64 0, .slice none 0 0]) hcv rfl (by kernel_rfl) (by kernel_rfl) (by kernel_rfl) rfl
          simp only [↓pre, post, ↓reduceIte, Nat.reduceEqDiff, Nat.reduceAdd, Nat.reduceMul, Nat.reduceSub, Nat.reduceLeDiff, Nat.reduceMod, Nat.reduceDiv, reduceCtorEq, Nat.reduceLT, Nat.reduceGT, Nat.reduceBEq, Option.isSome_some, ne_eq, Int.reduceEq, not_false_eq_true, bin_quo, bin_rem, List.length_cons, List.length_nil, List.map_cons, List.map_nil, List.append_nil, List.cons_append, List.nil_append, List.take_succ_cons, List.take_zero, List.drop_succ_cons, List.drop_zero, Nat.zero_add, Nat.add_zero, Nat.zero_le, Nat.le_refl, decide_true, decide_false, Bool.not_true, Bool.not_false, stepW, opE, intV, parV, boxE, loadE, partE, faddrE, fieldE, checkE, extractE, resultsE, resEs, resE, buildE, fillE, splice, if_true, if_false, Bool.false_eq_true, true_and, and_true, AV.cells, okA, oneA, fzs, fz, opTmp, Option.bind_some, Option.map_some, List.getElem?_cons_zero, List.getElem?_cons_succ, and_self, canonR, canon, canons, shift, shifts, pushAll, pushFrom, tys84, onceL, Option.getD_some, Option.getD_none, bne, Nat.reduceBNe, Bool.and_true, Bool.and_false, Bool.true_and, Bool.false_and, Bool.and_self, postU, postA, postV, allocE, storeE, eq_self, put_at, push_at, Option.map_none, Option.map_some, optNat, e1, e2, e5, e7, e11, e12, hv.rd.len', hlt', cond_f, hbx, hbz]
          have hlv4 := hlv2.other hcv (fun h => by cases h) (Nat.le_of_eq hm4n.symm) (fun j k' h1 h2 h3 => by rw [hm4 j h3]; exact h1)
          refine app_keep (kd := .var) (sz := 2) (y := 32) (zl := [.int .i64 0, .slice none 0 0]) (by kernel_rfl) hlv4 (by kernel_rfl) (by kernel_rfl) (by kernel_rfl) rfl srcT1a (by rfl) (by have := hbp.out; have := hbt.out; omega) (by have := hbp.out; have := hbt.out; omega) ?_
          intro lv' m5 ho5 hnx5 hkeep5 hbl5
          simp only [↓pre, post, ↓reduceIte, Nat.reduceEqDiff, Nat.reduceAdd, Nat.reduceMul, Nat.reduceSub, Nat.reduceLeDiff, Nat.reduceMod, Nat.reduceDiv, reduceCtorEq, Nat.reduceLT, Nat.reduceGT, Nat.reduceBEq, Option.isSome_some, ne_eq, Int.reduceEq, not_false_eq_true, bin_quo, bin_rem, List.length_cons, List.length_nil, List.map_cons, List.map_nil, List.append_nil, List.cons_append, List.nil_append, List.take_succ_cons, List.take_zero, List.drop_succ_cons, List.drop_zero, Nat.zero_add, Nat.add_zero, Nat.zero_le, Nat.le_refl, decide_true, decide_false, Bool.not_true, Bool.not_false, stepW, opE, intV, parV, boxE, loadE, partE, faddrE, fieldE, checkE, extractE, resultsE, resEs, resE, buildE, fillE, splice, if_true, if_false, Bool.false_eq_true, true_and, and_true, AV.cells, okA, oneA, fzs, fz, opTmp, Option.bind_some, Option.map_some, List.getElem?_cons_zero, List.getElem?_cons_succ, and_self, canonR, canon, canons, shift, shifts, pushAll, pushFrom, tys84, onceL, Option.getD_some, Option.getD_none, bne, Nat.reduceBNe, Bool.and_true, Bool.and_false, Bool.true_and, Bool.false_and, Bool.and_self, postU, postA, postV, allocE, storeE, eq_self, put_at, push_at, Option.map_none, Option.map_some, optNat, e1, e2, e5, e7, e11, e12]
          refine ⟨b.toNat, by have := hq.out; have := hbt.out; have := hbp.out; omega, b, T ++ [b], lv', rfl, rfl, rfl, ⟨hbp.out, hf.out, by rw [List.length_append]; have := hbt.out; simp only [List.length_cons, List.length_nil]; omega, ?_⟩⟩
          rw [List.length_append, tCells_append]
          exact ho5
end Go.Proofs.Ytenmbfplceeolaa
