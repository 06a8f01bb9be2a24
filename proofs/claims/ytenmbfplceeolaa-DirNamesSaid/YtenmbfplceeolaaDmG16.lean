import Derived.Test.YtenmbfplceeolaaDmG15
set_option linter.unusedVariables false
set_option linter.unusedSimpArgs false
set_option maxRecDepth 10000
namespace Go.Proofs.Ytenmbfplceeolaa
open Go Go.Tw Go.Proofs

theorem wrapN {n : Int} {k : Nat} (h : n = (k : Int)) (hk : k ≤ 9223372036854775807) : IntKind.i64.wrap n = (k : Int) := by rw [h]; exact wrap_nat hk
theorem ref22_Parse (k r c w : Int) (v : AV) (bs : List UInt8) (x : List AV) (hv : RdSl v bs.length (bytesA bs ++ x)) (hn : bs.length ≤ 1000000000) : FSpec Try.prog 34 [parV k r c w, v] (if prsE k r c w bs = 0 then entsRes (prsL bs) 0 else entsRes [] (prsE k r c w bs)) := by
  refine fspec_of_body follows Try.func34 (by unfold Try.f34; rfl) (by unfold Try.f34; simp) onceA (by unfold Try.f34; simp) (by kernel_rfl) ?_; unfold Try.f34
  have hp := hv.plain
  cases h : mayB k r c w with
  | false =>
    have he : prsE k r c w bs = 2 := by simp [prsE, h]
    rw [if_neg (by rw [he]; decide), he]
    simp only [↓pre, post, ↓reduceIte, Nat.reduceEqDiff, Nat.reduceAdd, Nat.reduceMul, Nat.reduceSub, Nat.reduceLeDiff, Nat.reduceMod, Nat.reduceDiv, reduceCtorEq, Nat.reduceLT, Nat.reduceGT, Nat.reduceBEq, Option.isSome_some, ne_eq, Int.reduceEq, not_false_eq_true, bin_quo, bin_rem, List.length_cons, List.length_nil, List.map_cons, List.map_nil, List.append_nil, List.cons_append, List.nil_append, List.take_succ_cons, List.take_zero, List.drop_succ_cons, List.drop_zero, Nat.zero_add, Nat.add_zero, Nat.zero_le, Nat.le_refl, decide_true, decide_false, Bool.not_true, Bool.not_false, stepW, opE, intV, parV, boxE, loadE, partE, faddrE, fieldE, checkE, extractE, resultsE, resEs, resE, buildE, fillE, splice, if_true, if_false, Bool.false_eq_true, true_and, and_true, AV.cells, okA, oneA, fzs, fz, opTmp, Option.bind_some, Option.map_some, List.getElem?_cons_zero, List.getElem?_cons_succ, and_self, canonR, canon, canons, shift, shifts, pushAll, tys34, onceA, postU, h, boolV, Bool.false_eq_true]; repeat' ((first | refine guard_dec (fun _ => ?_) (fun _ => ?_) | refine cond_dec (fun _ => ?_) (fun _ => ?_) | refine guard_ndec (fun _ => ?_) (fun _ => ?_) | refine cond_ndec (fun _ => ?_) (fun _ => ?_) | refine guard_split (fun _ => ?_) (fun _ => ?_) | refine cond_split (fun _ => ?_) (fun _ => ?_) | refine call_plain (ref06_may _ _ _ _) (by first | rfl | simp only [plains, plain, Bool.and_true, Bool.and_self, *]) ?_) <;> simp only [↓pre, post, ↓reduceIte, Nat.reduceEqDiff, Nat.reduceAdd, Nat.reduceMul, Nat.reduceSub, Nat.reduceLeDiff, Nat.reduceMod, Nat.reduceDiv, reduceCtorEq, Nat.reduceLT, Nat.reduceGT, Nat.reduceBEq, Option.isSome_some, ne_eq, Int.reduceEq, not_false_eq_true, bin_quo, bin_rem, List.length_cons, List.length_nil, List.map_cons, List.map_nil, List.append_nil, List.cons_append, List.nil_append, List.take_succ_cons, List.take_zero, List.drop_succ_cons, List.drop_zero, Nat.zero_add, Nat.add_zero, Nat.zero_le, Nat.le_refl, decide_true, decide_false, Bool.not_true, Bool.not_false, stepW, opE, intV, parV, boxE, loadE, partE, faddrE, fieldE, checkE, extractE, resultsE, resEs, resE, buildE, fillE, splice, if_true, if_false, Bool.false_eq_true, true_and, and_true, AV.cells, okA, oneA, fzs, fz, opTmp, Option.bind_some, Option.map_some, List.getElem?_cons_zero, List.getElem?_cons_succ, and_self, canonR, canon, canons, shift, shifts, pushAll, tys34, onceA, postU, h, boolV, Bool.false_eq_true, *])
    rfl
  | true =>
    by_cases hbig : mI k c < (bs.length : Int)
    · have he : prsE k r c w bs = 3 := by simp [prsE, h, hbig]
      rw [if_neg (by rw [he]; decide), he]
      simp only [↓pre, post, ↓reduceIte, Nat.reduceEqDiff, Nat.reduceAdd, Nat.reduceMul, Nat.reduceSub, Nat.reduceLeDiff, Nat.reduceMod, Nat.reduceDiv, reduceCtorEq, Nat.reduceLT, Nat.reduceGT, Nat.reduceBEq, Option.isSome_some, ne_eq, Int.reduceEq, not_false_eq_true, bin_quo, bin_rem, List.length_cons, List.length_nil, List.map_cons, List.map_nil, List.append_nil, List.cons_append, List.nil_append, List.take_succ_cons, List.take_zero, List.drop_succ_cons, List.drop_zero, Nat.zero_add, Nat.add_zero, Nat.zero_le, Nat.le_refl, decide_true, decide_false, Bool.not_true, Bool.not_false, stepW, opE, intV, parV, boxE, loadE, partE, faddrE, fieldE, checkE, extractE, resultsE, resEs, resE, buildE, fillE, splice, if_true, if_false, Bool.false_eq_true, true_and, and_true, AV.cells, okA, oneA, fzs, fz, opTmp, Option.bind_some, Option.map_some, List.getElem?_cons_zero, List.getElem?_cons_succ, and_self, canonR, canon, canons, shift, shifts, pushAll, tys34, onceA, postU, h, boolV, hv.len', hbig]; repeat' ((first | refine guard_dec (fun _ => ?_) (fun _ => ?_) | refine cond_dec (fun _ => ?_) (fun _ => ?_) | refine guard_ndec (fun _ => ?_) (fun _ => ?_) | refine cond_ndec (fun _ => ?_) (fun _ => ?_) | refine guard_split (fun _ => ?_) (fun _ => ?_) | refine cond_split (fun _ => ?_) (fun _ => ?_) | refine call_plain (ref06_may _ _ _ _) (by first | rfl | simp only [plains, plain, Bool.and_true, Bool.and_self, *]) ?_ | refine call_plain (ref06_M _ _ _ _ h) (by first | rfl | simp only [plains, plain, Bool.and_true, Bool.and_self, *]) ?_) <;> simp only [↓pre, post, ↓reduceIte, Nat.reduceEqDiff, Nat.reduceAdd, Nat.reduceMul, Nat.reduceSub, Nat.reduceLeDiff, Nat.reduceMod, Nat.reduceDiv, reduceCtorEq, Nat.reduceLT, Nat.reduceGT, Nat.reduceBEq, Option.isSome_some, ne_eq, Int.reduceEq, not_false_eq_true, bin_quo, bin_rem, List.length_cons, List.length_nil, List.map_cons, List.map_nil, List.append_nil, List.cons_append, List.nil_append, List.take_succ_cons, List.take_zero, List.drop_succ_cons, List.drop_zero, Nat.zero_add, Nat.add_zero, Nat.zero_le, Nat.le_refl, decide_true, decide_false, Bool.not_true, Bool.not_false, stepW, opE, intV, parV, boxE, loadE, partE, faddrE, fieldE, checkE, extractE, resultsE, resEs, resE, buildE, fillE, splice, if_true, if_false, Bool.false_eq_true, true_and, and_true, AV.cells, okA, oneA, fzs, fz, opTmp, Option.bind_some, Option.map_some, List.getElem?_cons_zero, List.getElem?_cons_succ, and_self, canonR, canon, canons, shift, shifts, pushAll, tys34, onceA, postU, h, boolV, hv.len', hbig, *])
      rfl
    · have hM : (bs.length : Int) ≤ mI k c := by omega
      replace hM := Hid.mk hM
      simp only [↓pre, post, ↓reduceIte, Nat.reduceEqDiff, Nat.reduceAdd, Nat.reduceMul, Nat.reduceSub, Nat.reduceLeDiff, Nat.reduceMod, Nat.reduceDiv, reduceCtorEq, Nat.reduceLT, Nat.reduceGT, Nat.reduceBEq, Option.isSome_some, ne_eq, Int.reduceEq, not_false_eq_true, bin_quo, bin_rem, List.length_cons, List.length_nil, List.map_cons, List.map_nil, List.append_nil, List.cons_append, List.nil_append, List.take_succ_cons, List.take_zero, List.drop_succ_cons, List.drop_zero, Nat.zero_add, Nat.add_zero, Nat.zero_le, Nat.le_refl, decide_true, decide_false, Bool.not_true, Bool.not_false, stepW, opE, intV, parV, boxE, loadE, partE, faddrE, fieldE, checkE, extractE, resultsE, resEs, resE, buildE, fillE, splice, if_true, if_false, Bool.false_eq_true, true_and, and_true, AV.cells, okA, oneA, fzs, fz, opTmp, Option.bind_some, Option.map_some, List.getElem?_cons_zero, List.getElem?_cons_succ, and_self, canonR, canon, canons, shift, shifts, pushAll, tys34, onceA, postU, h, boolV, hv.len', hbig]; repeat' ((first | refine guard_dec (fun _ => ?_) (fun _ => ?_) | refine cond_dec (fun _ => ?_) (fun _ => ?_) | refine guard_ndec (fun _ => ?_) (fun _ => ?_) | refine cond_ndec (fun _ => ?_) (fun _ => ?_) | refine guard_split (fun _ => ?_) (fun _ => ?_) | refine cond_split (fun _ => ?_) (fun _ => ?_) | refine call_plain (ref06_may _ _ _ _) (by first | rfl | simp only [plains, plain, Bool.and_true, Bool.and_self, *]) ?_ | refine call_plain (ref06_M _ _ _ _ h) (by first | rfl | simp only [plains, plain, Bool.and_true, Bool.and_self, *]) ?_) <;> simp only [↓pre, post, ↓reduceIte, Nat.reduceEqDiff, Nat.reduceAdd, Nat.reduceMul, Nat.reduceSub, Nat.reduceLeDiff, Nat.reduceMod, Nat.reduceDiv, reduceCtorEq, Nat.reduceLT, Nat.reduceGT, Nat.reduceBEq, Option.isSome_some, ne_eq, Int.reduceEq, not_false_eq_true, bin_quo, bin_rem, List.length_cons, List.length_nil, List.map_cons, List.map_nil, List.append_nil, List.cons_append, List.nil_append, List.take_succ_cons, List.take_zero, List.drop_succ_cons, List.drop_zero, Nat.zero_add, Nat.add_zero, Nat.zero_le, Nat.le_refl, decide_true, decide_false, Bool.not_true, Bool.not_false, stepW, opE, intV, parV, boxE, loadE, partE, faddrE, fieldE, checkE, extractE, resultsE, resEs, resE, buildE, fillE, splice, if_true, if_false, Bool.false_eq_true, true_and, and_true, AV.cells, okA, oneA, fzs, fz, opTmp, Option.bind_some, Option.map_some, List.getElem?_cons_zero, List.getElem?_cons_succ, and_self, canonR, canon, canons, shift, shifts, pushAll, tys34, onceA, postU, h, boolV, hv.len', hbig, *])
      rw [codeW_loop]
      refine loop_intro (fun n e m => ∃ (es : List Ent) (i : Nat), n + i = bs.length ∧ e 1 = v ∧ e 7 = intV (i : Nat) ∧ e 2 = .tptr 0 [intV k, intV r, intV c, intV w] ∧ Own m EL 2 (e 6) es.length (entCells es) ∧ parseL bs = (parseL (bs.drop i)).map (es ++ ·) ∧ longN es = i ∧ es.length ≤ longN es) bs.length ⟨[], 0, rfl, ?_, ?_, ?_, ?_, ?_, ?_, ?_⟩ ?_
      · simp [Env.set, entryE]
      · simp [Env.set, intV]
      · simp [Env.set, intV]
      · simp [Env.set, entCells]
        exact own_nil
      · simp
      · simp [longN]
      · simp
      · rintro n e m ⟨es, i, hi, e1, e7, e2, ho, hpar, hlen, hpl⟩
        replace hpar := Hid.mk hpar
        replace hlen := Hid.mk hlen
        cases hr : bs.drop i with
        | nil =>
          have hil : i = bs.length := by
            have := congrArg List.length hr
            rw [List.length_drop] at this
            simp at this
            omega
          have hpr : parseL bs = some es := by rw [hpar.out, hr, parse_nil]; simp
          have hpe : prsE k r c w bs = if entsOk w es = true then 0 else 220 := by simp [prsE, h, hbig, hpr]
          have hpL : prsL bs = es := by simp [prsL, hpr]
          have hnum := parse_num hpr
          have hlng := parse_long hpr
          obtain ⟨av, hlend, hrd⟩ := own_lend2 ho (a := parV k r c w) rfl
          have hck := ref22_may k r c w av es [] (by rw [List.append_nil]; exact hrd) (by omega) (by omega)
          replace hpr := Hid.mk hpr
          replace hlng := Hid.mk hlng
          replace hr := Hid.mk hr
          have hlt : ¬ (i : Int) < (bs.length : Nat) := by omega
          replace hil := Hid.mk hil
          simp only [↓pre, post, ↓reduceIte, Nat.reduceEqDiff, Nat.reduceAdd, Nat.reduceMul, Nat.reduceSub, Nat.reduceLeDiff, Nat.reduceMod, Nat.reduceDiv, reduceCtorEq, Nat.reduceLT, Nat.reduceGT, Nat.reduceBEq, Option.isSome_some, ne_eq, Int.reduceEq, not_false_eq_true, bin_quo, bin_rem, List.length_cons, List.length_nil, List.map_cons, List.map_nil, List.append_nil, List.cons_append, List.nil_append, List.take_succ_cons, List.take_zero, List.drop_succ_cons, List.drop_zero, Nat.zero_add, Nat.add_zero, Nat.zero_le, Nat.le_refl, decide_true, decide_false, Bool.not_true, Bool.not_false, stepW, opE, intV, parV, boxE, loadE, partE, faddrE, fieldE, checkE, extractE, resultsE, resEs, resE, buildE, fillE, splice, if_true, if_false, Bool.false_eq_true, true_and, and_true, AV.cells, okA, oneA, fzs, fz, opTmp, Option.bind_some, Option.map_some, List.getElem?_cons_zero, List.getElem?_cons_succ, and_self, canonR, canon, canons, shift, shifts, pushAll, tys34, onceA, postU, boolV, e1, e7, e2, hv.len', hlt]; repeat' ((first | refine guard_dec (fun _ => ?_) (fun _ => ?_) | refine cond_dec (fun _ => ?_) (fun _ => ?_) | refine guard_ndec (fun _ => ?_) (fun _ => ?_) | refine cond_ndec (fun _ => ?_) (fun _ => ?_) | refine guard_split (fun _ => ?_) (fun _ => ?_) | refine cond_split (fun _ => ?_) (fun _ => ?_)) <;> simp only [↓pre, post, ↓reduceIte, Nat.reduceEqDiff, Nat.reduceAdd, Nat.reduceMul, Nat.reduceSub, Nat.reduceLeDiff, Nat.reduceMod, Nat.reduceDiv, reduceCtorEq, Nat.reduceLT, Nat.reduceGT, Nat.reduceBEq, Option.isSome_some, ne_eq, Int.reduceEq, not_false_eq_true, bin_quo, bin_rem, List.length_cons, List.length_nil, List.map_cons, List.map_nil, List.append_nil, List.cons_append, List.nil_append, List.take_succ_cons, List.take_zero, List.drop_succ_cons, List.drop_zero, Nat.zero_add, Nat.add_zero, Nat.zero_le, Nat.le_refl, decide_true, decide_false, Bool.not_true, Bool.not_false, stepW, opE, intV, parV, boxE, loadE, partE, faddrE, fieldE, checkE, extractE, resultsE, resEs, resE, buildE, fillE, splice, if_true, if_false, Bool.false_eq_true, true_and, and_true, AV.cells, okA, oneA, fzs, fz, opTmp, Option.bind_some, Option.map_some, List.getElem?_cons_zero, List.getElem?_cons_succ, and_self, canonR, canon, canons, shift, shifts, pushAll, tys34, onceA, postU, boolV, e1, e7, e2, hv.len', hlt, *])
          refine call_lent hck hlend rfl rfl ?_
          rw [hpe]
          cases he : entsOk w es with
          | true =>
            rw [if_pos rfl, if_pos rfl, hpL]
            simp only [↓pre, post, ↓reduceIte, Nat.reduceEqDiff, Nat.reduceAdd, Nat.reduceMul, Nat.reduceSub, Nat.reduceLeDiff, Nat.reduceMod, Nat.reduceDiv, reduceCtorEq, Nat.reduceLT, Nat.reduceGT, Nat.reduceBEq, Option.isSome_some, ne_eq, Int.reduceEq, not_false_eq_true, bin_quo, bin_rem, List.length_cons, List.length_nil, List.map_cons, List.map_nil, List.append_nil, List.cons_append, List.nil_append, List.take_succ_cons, List.take_zero, List.drop_succ_cons, List.drop_zero, Nat.zero_add, Nat.add_zero, Nat.zero_le, Nat.le_refl, decide_true, decide_false, Bool.not_true, Bool.not_false, stepW, opE, intV, parV, boxE, loadE, partE, faddrE, fieldE, checkE, extractE, resultsE, resEs, resE, buildE, fillE, splice, if_true, if_false, Bool.false_eq_true, true_and, and_true, AV.cells, okA, oneA, fzs, fz, opTmp, Option.bind_some, Option.map_some, List.getElem?_cons_zero, List.getElem?_cons_succ, and_self, canonR, canon, canons, shift, shifts, pushAll, tys34, onceA, postU, boolV, e1, e2, he]; repeat' ((first | refine guard_dec (fun _ => ?_) (fun _ => ?_) | refine cond_dec (fun _ => ?_) (fun _ => ?_) | refine guard_ndec (fun _ => ?_) (fun _ => ?_) | refine cond_ndec (fun _ => ?_) (fun _ => ?_) | refine guard_split (fun _ => ?_) (fun _ => ?_) | refine cond_split (fun _ => ?_) (fun _ => ?_)) <;> simp only [↓pre, post, ↓reduceIte, Nat.reduceEqDiff, Nat.reduceAdd, Nat.reduceMul, Nat.reduceSub, Nat.reduceLeDiff, Nat.reduceMod, Nat.reduceDiv, reduceCtorEq, Nat.reduceLT, Nat.reduceGT, Nat.reduceBEq, Option.isSome_some, ne_eq, Int.reduceEq, not_false_eq_true, bin_quo, bin_rem, List.length_cons, List.length_nil, List.map_cons, List.map_nil, List.append_nil, List.cons_append, List.nil_append, List.take_succ_cons, List.take_zero, List.drop_succ_cons, List.drop_zero, Nat.zero_add, Nat.add_zero, Nat.zero_le, Nat.le_refl, decide_true, decide_false, Bool.not_true, Bool.not_false, stepW, opE, intV, parV, boxE, loadE, partE, faddrE, fieldE, checkE, extractE, resultsE, resEs, resE, buildE, fillE, splice, if_true, if_false, Bool.false_eq_true, true_and, and_true, AV.cells, okA, oneA, fzs, fz, opTmp, Option.bind_some, Option.map_some, List.getElem?_cons_zero, List.getElem?_cons_succ, and_self, canonR, canon, canons, shift, shifts, pushAll, tys34, onceA, postU, boolV, e1, e2, he, *])
            rw [own_canon ho]
            rfl
          | false =>
            simp only [Bool.false_eq_true, if_false]
            rw [if_neg (by decide)]
            simp only [↓pre, post, ↓reduceIte, Nat.reduceEqDiff, Nat.reduceAdd, Nat.reduceMul, Nat.reduceSub, Nat.reduceLeDiff, Nat.reduceMod, Nat.reduceDiv, reduceCtorEq, Nat.reduceLT, Nat.reduceGT, Nat.reduceBEq, Option.isSome_some, ne_eq, Int.reduceEq, not_false_eq_true, bin_quo, bin_rem, List.length_cons, List.length_nil, List.map_cons, List.map_nil, List.append_nil, List.cons_append, List.nil_append, List.take_succ_cons, List.take_zero, List.drop_succ_cons, List.drop_zero, Nat.zero_add, Nat.add_zero, Nat.zero_le, Nat.le_refl, decide_true, decide_false, Bool.not_true, Bool.not_false, stepW, opE, intV, parV, boxE, loadE, partE, faddrE, fieldE, checkE, extractE, resultsE, resEs, resE, buildE, fillE, splice, if_true, if_false, Bool.false_eq_true, true_and, and_true, AV.cells, okA, oneA, fzs, fz, opTmp, Option.bind_some, Option.map_some, List.getElem?_cons_zero, List.getElem?_cons_succ, and_self, canonR, canon, canons, shift, shifts, pushAll, tys34, onceA, postU, boolV, e1, e2, he, Bool.false_eq_true]; repeat' ((first | refine guard_dec (fun _ => ?_) (fun _ => ?_) | refine cond_dec (fun _ => ?_) (fun _ => ?_) | refine guard_ndec (fun _ => ?_) (fun _ => ?_) | refine cond_ndec (fun _ => ?_) (fun _ => ?_) | refine guard_split (fun _ => ?_) (fun _ => ?_) | refine cond_split (fun _ => ?_) (fun _ => ?_)) <;> simp only [↓pre, post, ↓reduceIte, Nat.reduceEqDiff, Nat.reduceAdd, Nat.reduceMul, Nat.reduceSub, Nat.reduceLeDiff, Nat.reduceMod, Nat.reduceDiv, reduceCtorEq, Nat.reduceLT, Nat.reduceGT, Nat.reduceBEq, Option.isSome_some, ne_eq, Int.reduceEq, not_false_eq_true, bin_quo, bin_rem, List.length_cons, List.length_nil, List.map_cons, List.map_nil, List.append_nil, List.cons_append, List.nil_append, List.take_succ_cons, List.take_zero, List.drop_succ_cons, List.drop_zero, Nat.zero_add, Nat.add_zero, Nat.zero_le, Nat.le_refl, decide_true, decide_false, Bool.not_true, Bool.not_false, stepW, opE, intV, parV, boxE, loadE, partE, faddrE, fieldE, checkE, extractE, resultsE, resEs, resE, buildE, fillE, splice, if_true, if_false, Bool.false_eq_true, true_and, and_true, AV.cells, okA, oneA, fzs, fz, opTmp, Option.bind_some, Option.map_some, List.getElem?_cons_zero, List.getElem?_cons_succ, and_self, canonR, canon, canons, shift, shifts, pushAll, tys34, onceA, postU, boolV, e1, e2, he, Bool.false_eq_true, *])
            rfl
        | cons a q =>
          have ha := a.toNat_lt
          have hlq : bs.length = i + (q.length + 1) := by
            have := congrArg List.length hr
            rw [List.length_drop] at this
            simp at this
            omega
          have hget : ∀ j, bs[i + j]? = (a :: q)[j]? := fun j => by rw [← hr, List.getElem?_drop]
          have w1 : IntKind.i64.wrap (a.toNat : Int) = (a.toNat : Int) := wrap_nat (by omega)
          have w2 := wrap_succ (n := i) (by omega)
          have w3 : IntKind.i64.wrap (((i + 1 : Nat) : Int) + (a.toNat : Int)) = ((i + 1 + a.toNat : Nat) : Int) := wrapN (by omega) (by omega)
          have w4 : IntKind.i64.wrap (((i + 1 + a.toNat : Nat) : Int) + 2) = ((i + 1 + a.toNat + 2 : Nat) : Int) := wrapN (by omega) (by omega)
          have w9 := wrap_succ (n := i + 1 + a.toNat) (by omega)
          have hlt : (i : Int) < (bs.length : Nat) := by omega
          have hlt0 : i < bs.length := by omega
          have hb0 := byte_at (bs := bs) (x := x) (i := i) (a := a) (by have := hget 0; simpa using this)
          by_cases hbad : q.length < a.toNat + 2
          · have hbad' : (bs.length : Int) < ((i + 1 + a.toNat + 2 : Nat) : Int) := by omega
            have he : prsE k r c w bs = 220 := by
              have h1 : parseL bs = none := by rw [hpar.out, hr, parse_bad hbad]; rfl
              simp [prsE, h, hbig, h1]
            rw [if_neg (by rw [he]; decide), he]
            replace hr := Hid.mk hr
            replace hlq := Hid.mk hlq
            replace hget := Hid.mk hget
            simp only [↓pre, post, ↓reduceIte, Nat.reduceEqDiff, Nat.reduceAdd, Nat.reduceMul, Nat.reduceSub, Nat.reduceLeDiff, Nat.reduceMod, Nat.reduceDiv, reduceCtorEq, Nat.reduceLT, Nat.reduceGT, Nat.reduceBEq, Option.isSome_some, ne_eq, Int.reduceEq, not_false_eq_true, bin_quo, bin_rem, List.length_cons, List.length_nil, List.map_cons, List.map_nil, List.append_nil, List.cons_append, List.nil_append, List.take_succ_cons, List.take_zero, List.drop_succ_cons, List.drop_zero, Nat.zero_add, Nat.add_zero, Nat.zero_le, Nat.le_refl, decide_true, decide_false, Bool.not_true, Bool.not_false, stepW, opE, intV, parV, boxE, loadE, partE, faddrE, fieldE, checkE, extractE, resultsE, resEs, resE, buildE, fillE, splice, if_true, if_false, Bool.false_eq_true, true_and, and_true, AV.cells, okA, oneA, fzs, fz, opTmp, Option.bind_some, Option.map_some, List.getElem?_cons_zero, List.getElem?_cons_succ, and_self, canonR, canon, canons, shift, shifts, pushAll, tys34, onceA, postU, postV, e1, e7, e2, hv.len', hv.addr', hlt, hb0, hlt0, w1, w2, w3, w4, hbad', Nat.mul_one]; repeat' ((first | refine guard_dec (fun _ => ?_) (fun _ => ?_) | refine cond_dec (fun _ => ?_) (fun _ => ?_) | refine guard_ndec (fun _ => ?_) (fun _ => ?_) | refine cond_ndec (fun _ => ?_) (fun _ => ?_) | refine guard_split (fun _ => ?_) (fun _ => ?_) | refine cond_split (fun _ => ?_) (fun _ => ?_)) <;> simp only [↓pre, post, ↓reduceIte, Nat.reduceEqDiff, Nat.reduceAdd, Nat.reduceMul, Nat.reduceSub, Nat.reduceLeDiff, Nat.reduceMod, Nat.reduceDiv, reduceCtorEq, Nat.reduceLT, Nat.reduceGT, Nat.reduceBEq, Option.isSome_some, ne_eq, Int.reduceEq, not_false_eq_true, bin_quo, bin_rem, List.length_cons, List.length_nil, List.map_cons, List.map_nil, List.append_nil, List.cons_append, List.nil_append, List.take_succ_cons, List.take_zero, List.drop_succ_cons, List.drop_zero, Nat.zero_add, Nat.add_zero, Nat.zero_le, Nat.le_refl, decide_true, decide_false, Bool.not_true, Bool.not_false, stepW, opE, intV, parV, boxE, loadE, partE, faddrE, fieldE, checkE, extractE, resultsE, resEs, resE, buildE, fillE, splice, if_true, if_false, Bool.false_eq_true, true_and, and_true, AV.cells, okA, oneA, fzs, fz, opTmp, Option.bind_some, Option.map_some, List.getElem?_cons_zero, List.getElem?_cons_succ, and_self, canonR, canon, canons, shift, shifts, pushAll, tys34, onceA, postU, postV, e1, e7, e2, hv.len', hv.addr', hlt, hb0, hlt0, w1, w2, w3, w4, hbad', Nat.mul_one, *])
            rfl
          · have hbad' : ¬ (bs.length : Int) < ((i + 1 + a.toNat + 2 : Nat) : Int) := by omega
            obtain ⟨v1, s1, r1⟩ := hv.slice (P := Try.prog) (t := 29) (sz := 1) (lo := some (i + 1)) (hi := some (i + 1 + a.toNat)) (by kernel_rfl) (by simp) (by simp only [Option.getD_some]; omega)
            have r1' : RdSl v1 a.toNat (bytesA q ++ x) := by
              have e1 : (some (i + 1 + a.toNat)).getD bs.length - (some (i + 1)).getD 0 = a.toNat := by simp
              rw [e1] at r1
              simp only [Option.getD_some, Nat.mul_one] at r1
              rw [bytesA_drop bs x (i + 1) (by omega)] at r1
              have : bs.drop (i + 1) = q := by rw [← List.drop_drop, hr]; rfl
              rw [this] at r1
              exact r1
            have hcv := fun m : Mem => name_conv (m := m) r1' (by omega)
            have hi1 : q[a.toNat]? = some (q.getD a.toNat 0) := by rw [List.getD_eq_getElem?_getD, List.getElem?_eq_getElem (by omega)]; rfl
            have hi2 : q[a.toNat + 1]? = some (q.getD (a.toNat + 1) 0) := by rw [List.getD_eq_getElem?_getD, List.getElem?_eq_getElem (by omega)]; rfl
            have hb1 := byte_at (bs := bs) (x := x) (i := i + 1 + a.toNat) (a := q.getD a.toNat 0) (by rw [show i + 1 + a.toNat = i + (a.toNat + 1) by omega, hget]; simpa using hi1)
            have hb2 := byte_at (bs := bs) (x := x) (i := i + 1 + a.toNat + 1) (a := q.getD (a.toNat + 1) 0) (by rw [show i + 1 + a.toNat + 1 = i + (a.toNat + 1 + 1) by omega, hget]; simpa using hi2)
            have hlt1 : i + 1 + a.toNat < bs.length := by omega
            have hlt2 : i + 1 + a.toNat + 1 < bs.length := by omega
            generalize hh : q.getD a.toNat 0 = x1 at hb1 hi1
            generalize hl : q.getD (a.toNat + 1) 0 = x2 at hb2 hi2
            have hx1 := x1.toNat_lt
            have hx2 := x2.toNat_lt
            have w5 : IntKind.i64.wrap (x1.toNat : Int) = (x1.toNat : Int) := wrap_nat (by omega)
            have w6 : IntKind.i64.wrap (x2.toNat : Int) = (x2.toNat : Int) := wrap_nat (by omega)
            have w7 : IntKind.i64.wrap ((x1.toNat : Int) * 256) = ((x1.toNat * 256 : Nat) : Int) := wrapN (by omega) (by omega)
            have w8 : IntKind.i64.wrap (((x1.toNat * 256 : Nat) : Int) + (x2.toNat : Int)) = ((x1.toNat * 256 + x2.toNat : Nat) : Int) := wrapN (by omega) (by omega)
            have hbT := fun (m : Mem) (s : ByteArray) (z : Int) => buildT1a (P := Try.prog) (m := m) (t := 30) (a := .string s) (b := .int .i64 z) rfl rfl (by kernel_rfl) (by kernel_rfl)
            have hok := fun m : Mem => hv.slOk (P := Try.prog) (m := m) (t := 29)
            have hent : entOf a.toNat q = ((entOf a.toNat q).1, ((x1.toNat * 256 + x2.toNat : Nat) : Int)) := by rw [← hh, ← hl]; rfl
            replace hlq := Hid.mk hlq
            replace hh := Hid.mk hh
            replace hl := Hid.mk hl
            replace hi1 := Hid.mk hi1
            replace hi2 := Hid.mk hi2
            replace hent := Hid.mk hent
            replace ho := Hid.mk ho
            replace hr := Hid.mk hr
            replace hget := Hid.mk hget
            simp only [↓pre, post, ↓reduceIte, Nat.reduceEqDiff, Nat.reduceAdd, Nat.reduceMul, Nat.reduceSub, Nat.reduceLeDiff, Nat.reduceMod, Nat.reduceDiv, reduceCtorEq, Nat.reduceLT, Nat.reduceGT, Nat.reduceBEq, Option.isSome_some, ne_eq, Int.reduceEq, not_false_eq_true, bin_quo, bin_rem, List.length_cons, List.length_nil, List.map_cons, List.map_nil, List.append_nil, List.cons_append, List.nil_append, List.take_succ_cons, List.take_zero, List.drop_succ_cons, List.drop_zero, Nat.zero_add, Nat.add_zero, Nat.zero_le, Nat.le_refl, decide_true, decide_false, Bool.not_true, Bool.not_false, stepW, opE, intV, parV, boxE, loadE, partE, faddrE, fieldE, checkE, extractE, resultsE, resEs, resE, buildE, fillE, splice, if_true, if_false, Bool.false_eq_true, true_and, and_true, AV.cells, okA, oneA, fzs, fz, opTmp, Option.bind_some, Option.map_some, List.getElem?_cons_zero, List.getElem?_cons_succ, and_self, canonR, canon, canons, shift, shifts, pushAll, tys34, onceA, postU, postV, postX, e1, e7, e2, hv.len', hv.addr', hlt, hb0, hlt0, w1, w2, w3, w4, w9, hbad', s1, hok, hcv, hb1, hb2, hlt1, hlt2, w5, w6, w7, w8, IntKind.bits, optNat, Option.map_some, Option.map_none, Nat.mul_one, hbT]; repeat' ((first | refine guard_dec (fun _ => ?_) (fun _ => ?_) | refine cond_dec (fun _ => ?_) (fun _ => ?_) | refine guard_ndec (fun _ => ?_) (fun _ => ?_) | refine cond_ndec (fun _ => ?_) (fun _ => ?_) | refine guard_split (fun _ => ?_) (fun _ => ?_) | refine cond_split (fun _ => ?_) (fun _ => ?_)) <;> simp only [↓pre, post, ↓reduceIte, Nat.reduceEqDiff, Nat.reduceAdd, Nat.reduceMul, Nat.reduceSub, Nat.reduceLeDiff, Nat.reduceMod, Nat.reduceDiv, reduceCtorEq, Nat.reduceLT, Nat.reduceGT, Nat.reduceBEq, Option.isSome_some, ne_eq, Int.reduceEq, not_false_eq_true, bin_quo, bin_rem, List.length_cons, List.length_nil, List.map_cons, List.map_nil, List.append_nil, List.cons_append, List.nil_append, List.take_succ_cons, List.take_zero, List.drop_succ_cons, List.drop_zero, Nat.zero_add, Nat.add_zero, Nat.zero_le, Nat.le_refl, decide_true, decide_false, Bool.not_true, Bool.not_false, stepW, opE, intV, parV, boxE, loadE, partE, faddrE, fieldE, checkE, extractE, resultsE, resEs, resE, buildE, fillE, splice, if_true, if_false, Bool.false_eq_true, true_and, and_true, AV.cells, okA, oneA, fzs, fz, opTmp, Option.bind_some, Option.map_some, List.getElem?_cons_zero, List.getElem?_cons_succ, and_self, canonR, canon, canons, shift, shifts, pushAll, tys34, onceA, postU, postV, postX, e1, e7, e2, hv.len', hv.addr', hlt, hb0, hlt0, w1, w2, w3, w4, w9, hbad', s1, hok, hcv, hb1, hb2, hlt1, hlt2, w5, w6, w7, w8, IntKind.bits, optNat, Option.map_some, Option.map_none, Nat.mul_one, hbT, *])
            refine app_ents ho.out srcT1a rfl (by have := hlen.out; have := hlq.out; omega) (fun v3 m3 ho3 hn3 => ?_)
            refine contW_fixed (by kernel_rfl) ?_
            simp only [↓pre, post, ↓reduceIte, Nat.reduceEqDiff, Nat.reduceAdd, Nat.reduceMul, Nat.reduceSub, Nat.reduceLeDiff, Nat.reduceMod, Nat.reduceDiv, reduceCtorEq, Nat.reduceLT, Nat.reduceGT, Nat.reduceBEq, Option.isSome_some, ne_eq, Int.reduceEq, not_false_eq_true, bin_quo, bin_rem, List.length_cons, List.length_nil, List.map_cons, List.map_nil, List.append_nil, List.cons_append, List.nil_append, List.take_succ_cons, List.take_zero, List.drop_succ_cons, List.drop_zero, Nat.zero_add, Nat.add_zero, Nat.zero_le, Nat.le_refl, decide_true, decide_false, Bool.not_true, Bool.not_false, stepW, opE, intV, parV, boxE, loadE, partE, faddrE, fieldE, checkE, extractE, resultsE, resEs, resE, buildE, fillE, splice, if_true, if_false, Bool.false_eq_true, true_and, and_true, AV.cells, okA, oneA, fzs, fz, opTmp, Option.bind_some, Option.map_some, List.getElem?_cons_zero, List.getElem?_cons_succ, and_self, canonR, canon, canons, shift, shifts, pushAll, tys34, onceA, postU, postV, e1, e2, w4]
            have hsz := entOf_size (n := a.toNat) (r := q) (by omega)
            have hlng : longN (es ++ [entOf a.toNat q]) = longN es + (3 + a.toNat) := by
              rw [longN_app]
              simp [longN, hsz]
            refine ⟨n - (a.toNat + 3), by have := hlq.out; omega, es ++ [entOf a.toNat q], i + 1 + a.toNat + 2, by have := hlq.out; omega, rfl, ?_, ?_, ?_, ?_⟩
            · have hcells : entCells (es ++ [entOf a.toNat q]) = entCells es ++ [.val (.string (entOf a.toNat q).1), .val (.int .i64 ((x1.toNat * 256 + x2.toNat : Nat) : Int))] := by
                rw [entCells_app, hent.out]; simp [entCells, intV]
              rw [hcells, List.length_append]
              exact ho3
            · have hd : bs.drop (i + 1 + a.toNat + 2) = q.drop (a.toNat + 2) := by
                rw [show i + 1 + a.toNat + 2 = i + (1 + (a.toNat + 2)) by omega, ← List.drop_drop, hr.out, ← List.drop_drop]; rfl
              rw [hpar.out, hr.out, parse_cons hbad, hd]
              cases parseL (q.drop (a.toNat + 2)) <;> simp
            · rw [hlng]
              have := hlen.out
              omega
            · rw [hlng, List.length_append]
              simp only [List.length_cons, List.length_nil]
              omega
end Go.Proofs.Ytenmbfplceeolaa
