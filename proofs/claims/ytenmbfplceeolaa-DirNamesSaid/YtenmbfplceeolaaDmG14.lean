import Derived.Test.YtenmbfplceeolaaDmG13
import Derived.Test.YtenmbfplceeolaaDmG09
set_option linter.unusedVariables false
set_option linter.unusedSimpArgs false
set_option maxRecDepth 10000
namespace Go.Proofs.Ytenmbfplceeolaa
open Go Go.Tw Go.Proofs

def onceN : Nat → Bool := fun _ => false
abbrev EL : TypeId := 37
theorem elE_ents : elE Try.prog 30 = some EL := by kernel_rfl
theorem szE_ent : szE Try.prog EL = some 2 := by kernel_rfl
theorem byE_ent : byE Try.prog EL = some 24 := by kernel_rfl
theorem zeroE_ent : zeroE Try.prog EL = some [.string .empty, .int .i64 0] := by kernel_rfl
theorem mem_ext {m m' : Mem} (h1 : m.next = m'.next) (h2 : ∀ j, m.at_ j = m'.at_ j) : m = m' := by
  cases m; cases m'
  simp only [Mem.mk.injEq]
  exact ⟨h1, funext h2⟩
theorem build0 {P : Program} {m : Mem} {t el : TypeId} {sz : Nat} (h1 : elE P t = some el) (h2 : szE P el = some sz) : buildSliceE P m t 0 [] = some ⟨.sl m.next 0 0 0 true, m.push ⟨[], el, .flat, true⟩, none⟩ := by
  simp [buildSliceE, h1, h2, zerosE, fillE, fzs, outV]
theorem bin_nil {P : Program} {t el : TypeId} {x y : Operand} (h : elE P t = some el) : binE P .eql t x y nilS nilS = some (.val (.bool true)) := by
  have hu := und_el h
  have hd : ∀ d, pureR P (Op.equalIn (d + 1) t (.slice none 0 0) (.slice none 0 0)) = some true := fun d => by
    rw [Op.equalIn]
    simp [underlying, program, pureR, Bind.bind, Sem.bind, Pure.pure, hu]
  have he : pureR P (Op.equal t (.slice none 0 0) (.slice none 0 0)) = some true := hd 9999
  simp [nilS, binE, binV, eqGuard, binOp, Bind.bind, pureR_bind, he, Pure.pure, pureR]
theorem clone_nil : FSpec Try.prog 64 [nilS] ⟨nilS, []⟩ := by
  refine fspec_of_body follows Try.func64 (by unfold Try.f64; rfl) (by unfold Try.f64; simp) onceN (by unfold Try.f64; simp) (by kernel_rfl) ?_; unfold Try.f64
  have h := fun x y => bin_nil (x := x) (y := y) elE_ents
  unfold nilS at h ⊢
  simp only [↓pre, post, ↓reduceIte, Nat.reduceEqDiff, Nat.reduceAdd, Nat.reduceMul, Nat.reduceSub, Nat.reduceLeDiff, Nat.reduceMod, Nat.reduceDiv, reduceCtorEq, Nat.reduceLT, Nat.reduceGT, Nat.reduceBEq, Option.isSome_some, ne_eq, Int.reduceEq, not_false_eq_true, bin_quo, bin_rem, List.length_cons, List.length_nil, List.map_cons, List.map_nil, List.append_nil, List.cons_append, List.nil_append, List.take_succ_cons, List.take_zero, List.drop_succ_cons, List.drop_zero, Nat.zero_add, Nat.add_zero, Nat.zero_le, Nat.le_refl, decide_true, decide_false, Bool.not_true, Bool.not_false, stepW, opE, intV, parV, boxE, loadE, partE, faddrE, fieldE, checkE, extractE, resultsE, resEs, resE, buildE, fillE, splice, if_true, if_false, Bool.false_eq_true, true_and, and_true, AV.cells, okA, oneA, fzs, fz, opTmp, Option.bind_some, Option.map_some, List.getElem?_cons_zero, List.getElem?_cons_succ, and_self, canonR, canon, canons, shift, shifts, pushAll, tys64, onceN, postU, h]; repeat' ((first | refine guard_dec (fun _ => ?_) (fun _ => ?_) | refine cond_dec (fun _ => ?_) (fun _ => ?_) | refine guard_ndec (fun _ => ?_) (fun _ => ?_) | refine cond_ndec (fun _ => ?_) (fun _ => ?_) | refine guard_split (fun _ => ?_) (fun _ => ?_) | refine cond_split (fun _ => ?_) (fun _ => ?_)) <;> simp only [↓pre, post, ↓reduceIte, Nat.reduceEqDiff, Nat.reduceAdd, Nat.reduceMul, Nat.reduceSub, Nat.reduceLeDiff, Nat.reduceMod, Nat.reduceDiv, reduceCtorEq, Nat.reduceLT, Nat.reduceGT, Nat.reduceBEq, Option.isSome_some, ne_eq, Int.reduceEq, not_false_eq_true, bin_quo, bin_rem, List.length_cons, List.length_nil, List.map_cons, List.map_nil, List.append_nil, List.cons_append, List.nil_append, List.take_succ_cons, List.take_zero, List.drop_succ_cons, List.drop_zero, Nat.zero_add, Nat.add_zero, Nat.zero_le, Nat.le_refl, decide_true, decide_false, Bool.not_true, Bool.not_false, stepW, opE, intV, parV, boxE, loadE, partE, faddrE, fieldE, checkE, extractE, resultsE, resEs, resE, buildE, fillE, splice, if_true, if_false, Bool.false_eq_true, true_and, and_true, AV.cells, okA, oneA, fzs, fz, opTmp, Option.bind_some, Option.map_some, List.getElem?_cons_zero, List.getElem?_cons_succ, and_self, canonR, canon, canons, shift, shifts, pushAll, tys64, onceN, postU, h, *])
theorem clone_zero {v : AV} {cs : List AV} (hv : RdSl v 0 cs) (hn : v ≠ nilS) : FSpec Try.prog 64 [v] ⟨.sl 0 0 0 0 true, [(EL, [])]⟩ := by
  refine fspec_of_body follows Try.func64 (by unfold Try.f64; rfl) (by unfold Try.f64; simp) onceN (by unfold Try.f64; simp) (by kernel_rfl) ?_; unfold Try.f64
  have hb := fun m : Mem => build0 (m := m) elE_ents szE_ent
  have h : ∀ x y, binE Try.prog .eql 30 x y v (.val (.slice none 0 0)) = some (.val (.bool false)) := fun x y => by
    rcases hv.form with ⟨h, _⟩ | ⟨c, f, rfl, _⟩ | ⟨c, f, rfl, _⟩
    · exact absurd h hn
    · simp [binE, elE_ents, isNil, boolV]
    · simp [binE, elE_ents, isNil, boolV]
  have ha : ∀ m : Mem, appE Try.prog EL (m.push ⟨[], EL, .flat, true⟩) (.sl m.next 0 0 0 true) v = some ⟨.sl m.next 0 0 0 true, m.push ⟨[], EL, .flat, true⟩, none⟩ := fun m => by
    have hs := hv.src (P := Try.prog) (el := EL) (sz := 2) (m := m.push ⟨[], EL, .flat, true⟩) (by simp)
    simp [appE, szE_ent, byE_ent, zeroE_ent, hs, slView, push_at, outV]
  simp only [↓pre, post, ↓reduceIte, Nat.reduceEqDiff, Nat.reduceAdd, Nat.reduceMul, Nat.reduceSub, Nat.reduceLeDiff, Nat.reduceMod, Nat.reduceDiv, reduceCtorEq, Nat.reduceLT, Nat.reduceGT, Nat.reduceBEq, Option.isSome_some, ne_eq, Int.reduceEq, not_false_eq_true, bin_quo, bin_rem, List.length_cons, List.length_nil, List.map_cons, List.map_nil, List.append_nil, List.cons_append, List.nil_append, List.take_succ_cons, List.take_zero, List.drop_succ_cons, List.drop_zero, Nat.zero_add, Nat.add_zero, Nat.zero_le, Nat.le_refl, decide_true, decide_false, Bool.not_true, Bool.not_false, stepW, opE, intV, parV, boxE, loadE, partE, faddrE, fieldE, checkE, extractE, resultsE, resEs, resE, buildE, fillE, splice, if_true, if_false, Bool.false_eq_true, true_and, and_true, AV.cells, okA, oneA, fzs, fz, opTmp, Option.bind_some, Option.map_some, List.getElem?_cons_zero, List.getElem?_cons_succ, and_self, canonR, canon, canons, shift, shifts, pushAll, tys64, onceN, postU, postV, h, hb, ha]; repeat' ((first | refine guard_dec (fun _ => ?_) (fun _ => ?_) | refine cond_dec (fun _ => ?_) (fun _ => ?_) | refine guard_ndec (fun _ => ?_) (fun _ => ?_) | refine cond_ndec (fun _ => ?_) (fun _ => ?_) | refine guard_split (fun _ => ?_) (fun _ => ?_) | refine cond_split (fun _ => ?_) (fun _ => ?_)) <;> simp only [↓pre, post, ↓reduceIte, Nat.reduceEqDiff, Nat.reduceAdd, Nat.reduceMul, Nat.reduceSub, Nat.reduceLeDiff, Nat.reduceMod, Nat.reduceDiv, reduceCtorEq, Nat.reduceLT, Nat.reduceGT, Nat.reduceBEq, Option.isSome_some, ne_eq, Int.reduceEq, not_false_eq_true, bin_quo, bin_rem, List.length_cons, List.length_nil, List.map_cons, List.map_nil, List.append_nil, List.cons_append, List.nil_append, List.take_succ_cons, List.take_zero, List.drop_succ_cons, List.drop_zero, Nat.zero_add, Nat.add_zero, Nat.zero_le, Nat.le_refl, decide_true, decide_false, Bool.not_true, Bool.not_false, stepW, opE, intV, parV, boxE, loadE, partE, faddrE, fieldE, checkE, extractE, resultsE, resEs, resE, buildE, fillE, splice, if_true, if_false, Bool.false_eq_true, true_and, and_true, AV.cells, okA, oneA, fzs, fz, opTmp, Option.bind_some, Option.map_some, List.getElem?_cons_zero, List.getElem?_cons_succ, and_self, canonR, canon, canons, shift, shifts, pushAll, tys64, onceN, postU, postV, h, hb, ha, *])
  simp [push_at, push_next, Mem.empty]
theorem clone_tree {v : AV} {n : Nat} {cs : List AV} (hv : RdSl v n cs) (hn : 0 < n) (hn2 : n ≤ 1000000000) (hc : n * 2 ≤ cs.length) : FSpec Try.prog 64 [v] ⟨.sl 0 0 n n false, [(EL, cs.take (n * 2))]⟩ := by
  refine fspec_of_body follows Try.func64 (by unfold Try.f64; rfl) (by unfold Try.f64; simp) onceN (by unfold Try.f64; simp) (by kernel_rfl) ?_; unfold Try.f64
  have hb := fun m : Mem => build0 (m := m) elE_ents szE_ent
  have h : ∀ x y, binE Try.prog .eql 30 x y v (.val (.slice none 0 0)) = some (.val (.bool false)) := fun x y => by
    rcases hv.form with ⟨_, h⟩ | ⟨c, f, _, h⟩ | ⟨c, f, rfl, _⟩
    · omega
    · omega
    · simp [binE, elE_ents, isNil, boolV]
  have ha : ∀ m : Mem, appE Try.prog EL (m.push ⟨[], EL, .flat, true⟩) (.sl m.next 0 0 0 true) v = some ⟨.sl (m.next + 1) 0 n n false, (m.push ⟨[], EL, .flat, true⟩).push ⟨cs.take (n * 2), EL, .flat, true⟩, none⟩ := fun m => by
    have hs := hv.src (P := Try.prog) (el := EL) (sz := 2) (m := m.push ⟨[], EL, .flat, true⟩) hc
    simp only [appE, szE_ent, byE_ent, zeroE_ent, hs, slView, push_at, if_true, Option.bind_some]
    rw [if_pos ⟨by omega, by omega, rfl⟩]
    simp [outV, push_next, Nat.ne_of_gt hn]
  simp only [↓pre, post, ↓reduceIte, Nat.reduceEqDiff, Nat.reduceAdd, Nat.reduceMul, Nat.reduceSub, Nat.reduceLeDiff, Nat.reduceMod, Nat.reduceDiv, reduceCtorEq, Nat.reduceLT, Nat.reduceGT, Nat.reduceBEq, Option.isSome_some, ne_eq, Int.reduceEq, not_false_eq_true, bin_quo, bin_rem, List.length_cons, List.length_nil, List.map_cons, List.map_nil, List.append_nil, List.cons_append, List.nil_append, List.take_succ_cons, List.take_zero, List.drop_succ_cons, List.drop_zero, Nat.zero_add, Nat.add_zero, Nat.zero_le, Nat.le_refl, decide_true, decide_false, Bool.not_true, Bool.not_false, stepW, opE, intV, parV, boxE, loadE, partE, faddrE, fieldE, checkE, extractE, resultsE, resEs, resE, buildE, fillE, splice, if_true, if_false, Bool.false_eq_true, true_and, and_true, AV.cells, okA, oneA, fzs, fz, opTmp, Option.bind_some, Option.map_some, List.getElem?_cons_zero, List.getElem?_cons_succ, and_self, canonR, canon, canons, shift, shifts, pushAll, tys64, onceN, postU, postV, h, hb, ha]; repeat' ((first | refine guard_dec (fun _ => ?_) (fun _ => ?_) | refine cond_dec (fun _ => ?_) (fun _ => ?_) | refine guard_ndec (fun _ => ?_) (fun _ => ?_) | refine cond_ndec (fun _ => ?_) (fun _ => ?_) | refine guard_split (fun _ => ?_) (fun _ => ?_) | refine cond_split (fun _ => ?_) (fun _ => ?_)) <;> simp only [↓pre, post, ↓reduceIte, Nat.reduceEqDiff, Nat.reduceAdd, Nat.reduceMul, Nat.reduceSub, Nat.reduceLeDiff, Nat.reduceMod, Nat.reduceDiv, reduceCtorEq, Nat.reduceLT, Nat.reduceGT, Nat.reduceBEq, Option.isSome_some, ne_eq, Int.reduceEq, not_false_eq_true, bin_quo, bin_rem, List.length_cons, List.length_nil, List.map_cons, List.map_nil, List.append_nil, List.cons_append, List.nil_append, List.take_succ_cons, List.take_zero, List.drop_succ_cons, List.drop_zero, Nat.zero_add, Nat.add_zero, Nat.zero_le, Nat.le_refl, decide_true, decide_false, Bool.not_true, Bool.not_false, stepW, opE, intV, parV, boxE, loadE, partE, faddrE, fieldE, checkE, extractE, resultsE, resEs, resE, buildE, fillE, splice, if_true, if_false, Bool.false_eq_true, true_and, and_true, AV.cells, okA, oneA, fzs, fz, opTmp, Option.bind_some, Option.map_some, List.getElem?_cons_zero, List.getElem?_cons_succ, and_self, canonR, canon, canons, shift, shifts, pushAll, tys64, onceN, postU, postV, h, hb, ha, *])
  simp [push_at, push_next, Mem.empty]
end Go.Proofs.Ytenmbfplceeolaa
