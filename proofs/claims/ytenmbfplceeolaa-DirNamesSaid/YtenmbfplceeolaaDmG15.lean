import Derived.Test.YtenmbfplceeolaaDmG14
import Derived.Laws.Externs
import Derived.Test.YtenmbfplceeolaaDmG08
set_option linter.unusedVariables false
set_option linter.unusedSimpArgs false
set_option maxRecDepth 10000
namespace Go.Proofs.Ytenmbfplceeolaa
open Go Go.Tw Go.Proofs

theorem cell_some {w : World} {g o : Nat} {x : Value} (h : w.cell? ⟨g, o, none⟩ = some x) : ∃ arr ty fr, w.heap[g]? = some (.cells arr ty fr) ∧ o < arr.size := by
  unfold World.cell? at h
  cases hq : w.heap[g]? with
  | none => rw [hq] at h; cases h
  | some ob =>
    rw [hq] at h
    cases ob with
    | cells arr ty fr => exact ⟨arr, ty, fr, rfl, (Array.getElem?_eq_some_iff.1 (by simpa using h)).1⟩
    | _ => cases h
theorem overlaps_x {m : Mem} {b off n c : Nat} {f f' : Bool} {k : Blk} {u : AV} {us : List AV} (hb : m.at_ b = some k) (hw : k.wr = true) (hel : k.el = EL) : XSpec Try.prog 96 [.tree 1 1 (u :: us) f', .sl b off n c f] m (.val (.bool false)) := by
  intro w I ρ vs hS hsz hv
  simp only [VRs, VR] at hv
  obtain ⟨⟨v1, h1, g1, o1, cap1, rfl, hI, _, _, _, ⟨x, hx, _⟩, _⟩, ⟨v2, h2, g2, o2, cap2, ty, nn, s, hρ, rfl, _, _, hsh, _, _⟩, _⟩ := hv
  have hB := hS.blk b k g2 o2 hb hρ
  obtain ⟨arr2, fr2, e1, e2⟩ := hB.cells
  obtain ⟨arr1, ty1, fr1, e3, e4⟩ := cell_some hx
  have hvs : vs = #[.slice (some ⟨g1, o1, none⟩) 1 cap1, .slice (some ⟨g2, o2 + off, none⟩) n cap2] := by
    match vs, hsz, h1, h2 with
    | ⟨[x, y]⟩, _, h1, h2 => simp at h1 h2; simp [h1, h2]
  subst hvs
  refine ⟨.bool false, ?_, by simp only [VR]⟩
  have hne : g1 ≠ g2 := fun e => (hB.wr hw).1 (e ▸ hI)
  have hfz : ∀ j, w.frozen? ⟨g2, j, none⟩ = false := hB.nostr hw (by rw [hel]; kernel_rfl)
  rw [run_callFunc_extern Try.func96 (by kernel_rfl) (by kernel_rfl) (by kernel_rfl) (e := Extern.SlicesOverlaps.overlaps #[30, 30] #[4]) (by kernel_rfl)]
  rw [run_overlaps_apart2 w 30 4 EL (und_el elE_ents) 2 (fun w => run_sz szE_ent) ⟨g1, o1, none⟩ ⟨g2, o2 + off, none⟩ 1 cap1 n cap2 hne ty1 k.el arr1.size arr2.size (shape_of_heap e3) (shape_of_heap e1) (by omega) (hfz _) (hfz _)]
  rfl

/-- Insert where there is room told -/
def insC (cells : List AV) (i : Nat) (xs : List AV) : List AV := cells.take (i * 2) ++ xs ++ cells.drop (i * 2)
theorem splice_mid (a b c x : List AV) (p : Nat) (hp : p = a.length) (h : x.length = b.length) : splice (a ++ b ++ c) p x = a ++ x ++ c := by
  subst hp
  simp [splice, List.drop_append, h]
section
variable {m : Mem} {b n k i : Nat} {cells sp : List AV} {u u' : AV}
theorem cut_lo (hb : m.at_ b = some ⟨cells, EL, .flat, true⟩) {f : Bool} (h1 : i < n) (h2 : n ≤ k) : sliceE Try.prog 30 (some i) none none (.sl b 0 n k f) = some (.sl b (i * 2) (n - i) (k - i) f) := by
  simp [sliceE, elE_ents, szE_ent, cutE, h2, Nat.le_of_lt h1, Nat.ne_of_lt h1]
theorem cut_any {f : Bool} (h1 : i ≤ n) (h2 : n ≤ k) : ∃ v, sliceE Try.prog 30 (some i) none none (.sl b 0 n k f) = some v := by
  by_cases h : i = n ∧ i ≠ 0
  · exact ⟨.emp (k - i) f, by simp only [sliceE, elE_ents, szE_ent, cutE, Option.isNone_none, Option.isSome_none, Bool.false_and, Bool.false_eq_true, if_false, Option.bind_some, Option.getD_some, Option.getD_none, Bool.or_false]; rw [if_pos (by omega), if_pos h]⟩
  · exact ⟨.sl b (0 + i * 2) (n - i) (k - i) f, by simp only [sliceE, elE_ents, szE_ent, cutE, Option.isNone_none, Option.isSome_none, Bool.false_and, Bool.false_eq_true, if_false, Option.bind_some, Option.getD_some, Option.getD_none, Bool.or_false]; rw [if_pos (by omega), if_neg h]⟩
theorem slOk_ents (hb : m.at_ b = some ⟨cells, EL, .flat, true⟩) {off : Nat} {f : Bool} : slOk Try.prog m 30 (.sl b off n k f) = true := by
  simp [slOk, hb, elE_ents]
end
theorem len_one {c : Nat} {f : Bool} {cs : List AV} : lenE Try.prog 30 (.tree 1 c cs f) = some (.val (.int .i64 1)) := by simp [lenE, elE_ents, slLen, intV]
theorem len_sl {b off n c : Nat} {f : Bool} : lenE Try.prog 30 (.sl b off n c f) = some (.val (.int .i64 (n : Nat))) := by simp [lenE, elE_ents, slLen, intV]
theorem cap_rule {P : Program} {m : Mem} {t ty el : TypeId} {x : AV} (h : elE P t = some el) : builtinE P m #[t] ty [x] .cap = outO (capE x) m := by simp [builtinE, h]
theorem insert_end_full {m : Mem} {b n : Nat} {cells : List AV} {u u' : AV} (hb : m.at_ b = some ⟨cells, EL, .flat, true⟩) (hl : cells.length = n * 2) (hn : n ≤ 1000000000) :
    OSpec Try.prog 63 [.sl b 0 n n true, intV n, .tree 1 1 [u, u'] true] m (fun v m' => v = .sl m.next 0 (n + 1) (n + 1) false ∧ m' = m.push ⟨insC cells n [u, u'], EL, .flat, true⟩) := by
  refine ospec_of_body follows Try.func63 (by unfold Try.f63; rfl) (by unfold Try.f63; simp) onceA (by unfold Try.f63; simp) (by kernel_rfl) ?_; unfold Try.f63
  obtain ⟨v1, s1⟩ := cut_any (b := b) (f := true) (Nat.le_refl n) (Nat.le_refl n)
  have hok : ∀ off k f, slOk Try.prog m 30 (.sl b off n k f) = true := fun off k f => slOk_ents hb
  have ha : appE Try.prog EL m (.sl b 0 n n true) (.tree 1 1 [u, u'] true) = some ⟨.sl m.next 0 (n + 1) (n + 1) false, m.push ⟨insC cells n [u, u'], EL, .flat, true⟩, none⟩ := by
    have hs := srcT1a (P := Try.prog) (m := m) (el := EL) (f := true) (u := u) (u' := u')
    simp only [appE, szE_ent, byE_ent, zeroE_ent, hs, slView, hb, Option.bind_some]
    rw [if_pos ⟨by omega, by omega, rfl⟩]
    simp [outV, insC, hl, List.take_of_length_le, List.drop_of_length_le]
  simp only [↓pre, post, ↓reduceIte, Nat.reduceEqDiff, Nat.reduceAdd, Nat.reduceMul, Nat.reduceSub, Nat.reduceLeDiff, Nat.reduceMod, Nat.reduceDiv, reduceCtorEq, Nat.reduceLT, Nat.reduceGT, Nat.reduceBEq, Option.isSome_some, ne_eq, Int.reduceEq, not_false_eq_true, bin_quo, bin_rem, List.length_cons, List.length_nil, List.map_cons, List.map_nil, List.append_nil, List.cons_append, List.nil_append, List.take_succ_cons, List.take_zero, List.drop_succ_cons, List.drop_zero, Nat.zero_add, Nat.add_zero, Nat.zero_le, Nat.le_refl, decide_true, decide_false, Bool.not_true, Bool.not_false, stepW, opE, intV, parV, boxE, loadE, partE, faddrE, fieldE, checkE, extractE, resultsE, resEs, resE, buildE, fillE, splice, if_true, if_false, Bool.false_eq_true, true_and, and_true, AV.cells, okA, oneA, fzs, fz, opTmp, Option.bind_some, Option.map_some, List.getElem?_cons_zero, List.getElem?_cons_succ, and_self, canonR, canon, canons, shift, shifts, pushAll, tys63, onceA, postU, postV, hok, s1, optNat, Option.map_some, Option.map_none, len_one, len_sl, ha]; repeat' ((first | refine guard_dec (fun _ => ?_) (fun _ => ?_) | refine cond_dec (fun _ => ?_) (fun _ => ?_) | refine guard_ndec (fun _ => ?_) (fun _ => ?_) | refine cond_ndec (fun _ => ?_) (fun _ => ?_) | refine guard_split (fun _ => ?_) (fun _ => ?_) | refine cond_split (fun _ => ?_) (fun _ => ?_)) <;> simp only [↓pre, post, ↓reduceIte, Nat.reduceEqDiff, Nat.reduceAdd, Nat.reduceMul, Nat.reduceSub, Nat.reduceLeDiff, Nat.reduceMod, Nat.reduceDiv, reduceCtorEq, Nat.reduceLT, Nat.reduceGT, Nat.reduceBEq, Option.isSome_some, ne_eq, Int.reduceEq, not_false_eq_true, bin_quo, bin_rem, List.length_cons, List.length_nil, List.map_cons, List.map_nil, List.append_nil, List.cons_append, List.nil_append, List.take_succ_cons, List.take_zero, List.drop_succ_cons, List.drop_zero, Nat.zero_add, Nat.add_zero, Nat.zero_le, Nat.le_refl, decide_true, decide_false, Bool.not_true, Bool.not_false, stepW, opE, intV, parV, boxE, loadE, partE, faddrE, fieldE, checkE, extractE, resultsE, resEs, resE, buildE, fillE, splice, if_true, if_false, Bool.false_eq_true, true_and, and_true, AV.cells, okA, oneA, fzs, fz, opTmp, Option.bind_some, Option.map_some, List.getElem?_cons_zero, List.getElem?_cons_succ, and_self, canonR, canon, canons, shift, shifts, pushAll, tys63, onceA, postU, postV, hok, s1, optNat, Option.map_some, Option.map_none, len_one, len_sl, ha, *])
theorem insert_end_room {m : Mem} {b n k : Nat} {cells : List AV} {sp : List AV} {u u' : AV} (hb : m.at_ b = some ⟨cells ++ sp, EL, .flat, true⟩) (hl : cells.length = n * 2) (hk : n < k) (hsp : sp.length = (k - n) * 2) (hn : n ≤ 1000000000) :
    OSpec Try.prog 63 [.sl b 0 n k true, intV n, .tree 1 1 [u, u'] true] m (fun v m' => v = .sl b 0 (n + 1) k true ∧ m' = m.put b (some ⟨insC cells n [u, u'] ++ sp.drop 2, EL, .flat, true⟩)) := by
  refine ospec_of_body follows Try.func63 (by unfold Try.f63; rfl) (by unfold Try.f63; simp) onceA (by unfold Try.f63; simp) (by kernel_rfl) ?_; unfold Try.f63
  obtain ⟨v1, s1⟩ := cut_any (b := b) (f := true) (Nat.le_refl n) (Nat.le_of_lt hk)
  have hok : ∀ off k f, slOk Try.prog m 30 (.sl b off n k f) = true := fun off k f => slOk_ents hb
  have ha : appE Try.prog EL m (.sl b 0 n k true) (.tree 1 1 [u, u'] true) = some ⟨.sl b 0 (n + 1) k true, m.put b (some ⟨insC cells n [u, u'] ++ sp.drop 2, EL, .flat, true⟩), none⟩ := by
    have hs := srcT1a (P := Try.prog) (m := m) (el := EL) (f := true) (u := u) (u' := u')
    have hc : (k == n) = false := by simp; omega
    have ht : Tw.tight (AV.sl b 0 n k true) 1 = false := by simp [Tw.tight]; omega
    simp only [appE, szE_ent, byE_ent, zeroE_ent, hs, slView, hb, Option.bind_some, hc, Bool.and_false, ht]
    rw [if_pos ⟨by omega, by omega, rfl⟩]
    simp only [Bool.false_eq_true, if_false]
    rw [if_neg (by rw [List.length_append, hl]; omega), if_pos ⟨trivial, trivial, by omega, by rw [List.length_append, hl]; omega⟩]
    have : splice (cells ++ sp) (0 + n * 2) [u, u'] = insC cells n [u, u'] ++ sp.drop 2 := by
      match sp, hsp with
      | [], h => simp at h; omega
      | [_], h => simp at h; omega
      | x :: y :: sp, _ =>
        have := splice_mid cells [x, y] sp [u, u'] (0 + n * 2) (by omega) rfl
        simp only [List.append_assoc, List.cons_append, List.nil_append] at this
        rw [this]
        simp [insC, List.take_of_length_le, List.drop_of_length_le, hl]
    rw [this]
    rfl
  simp only [↓pre, post, ↓reduceIte, Nat.reduceEqDiff, Nat.reduceAdd, Nat.reduceMul, Nat.reduceSub, Nat.reduceLeDiff, Nat.reduceMod, Nat.reduceDiv, reduceCtorEq, Nat.reduceLT, Nat.reduceGT, Nat.reduceBEq, Option.isSome_some, ne_eq, Int.reduceEq, not_false_eq_true, bin_quo, bin_rem, List.length_cons, List.length_nil, List.map_cons, List.map_nil, List.append_nil, List.cons_append, List.nil_append, List.take_succ_cons, List.take_zero, List.drop_succ_cons, List.drop_zero, Nat.zero_add, Nat.add_zero, Nat.zero_le, Nat.le_refl, decide_true, decide_false, Bool.not_true, Bool.not_false, stepW, opE, intV, parV, boxE, loadE, partE, faddrE, fieldE, checkE, extractE, resultsE, resEs, resE, buildE, fillE, splice, if_true, if_false, Bool.false_eq_true, true_and, and_true, AV.cells, okA, oneA, fzs, fz, opTmp, Option.bind_some, Option.map_some, List.getElem?_cons_zero, List.getElem?_cons_succ, and_self, canonR, canon, canons, shift, shifts, pushAll, tys63, onceA, postU, postV, hok, s1, optNat, Option.map_some, Option.map_none, len_one, len_sl, ha]; repeat' ((first | refine guard_dec (fun _ => ?_) (fun _ => ?_) | refine cond_dec (fun _ => ?_) (fun _ => ?_) | refine guard_ndec (fun _ => ?_) (fun _ => ?_) | refine cond_ndec (fun _ => ?_) (fun _ => ?_) | refine guard_split (fun _ => ?_) (fun _ => ?_) | refine cond_split (fun _ => ?_) (fun _ => ?_)) <;> simp only [↓pre, post, ↓reduceIte, Nat.reduceEqDiff, Nat.reduceAdd, Nat.reduceMul, Nat.reduceSub, Nat.reduceLeDiff, Nat.reduceMod, Nat.reduceDiv, reduceCtorEq, Nat.reduceLT, Nat.reduceGT, Nat.reduceBEq, Option.isSome_some, ne_eq, Int.reduceEq, not_false_eq_true, bin_quo, bin_rem, List.length_cons, List.length_nil, List.map_cons, List.map_nil, List.append_nil, List.cons_append, List.nil_append, List.take_succ_cons, List.take_zero, List.drop_succ_cons, List.drop_zero, Nat.zero_add, Nat.add_zero, Nat.zero_le, Nat.le_refl, decide_true, decide_false, Bool.not_true, Bool.not_false, stepW, opE, intV, parV, boxE, loadE, partE, faddrE, fieldE, checkE, extractE, resultsE, resEs, resE, buildE, fillE, splice, if_true, if_false, Bool.false_eq_true, true_and, and_true, AV.cells, okA, oneA, fzs, fz, opTmp, Option.bind_some, Option.map_some, List.getElem?_cons_zero, List.getElem?_cons_succ, and_self, canonR, canon, canons, shift, shifts, pushAll, tys63, onceA, postU, postV, hok, s1, optNat, Option.map_some, Option.map_none, len_one, len_sl, ha, *])
theorem copy_rule {P : Program} {m : Mem} {t t2 ty el : TypeId} {x y : AV} (h : elE P t = some el) : builtinE P m #[t, t2] ty [x, y] .copy = copyE P el m x y := by simp [builtinE, h]
/-- copy into a row of one's own -/
theorem copy_eval {m : Mem} {b off len c : Nat} {f : Bool} {cells : List AV} {x : AV} {new : List AV} {cnt : Nat} (hb : m.at_ b = some ⟨cells, EL, .flat, true⟩) (hs : srcE Try.prog EL 2 m x = some (new, cnt)) (hc : off + len * 2 ≤ cells.length) {r : List AV} {q : Nat} (hq : min cnt len = q) (hr : splice cells off (new.take (q * 2)) = r) :
    copyE Try.prog EL m (.sl b off len c f) x = some ⟨intV q, m.put b (some ⟨r, EL, .flat, true⟩), none⟩ := by
  simp only [copyE, szE_ent, hs, hb, Option.bind_some]
  rw [if_pos ⟨trivial, trivial, hc⟩, hq, hr]
  rfl
theorem insert_mid_room {m : Mem} {b n k i : Nat} {A B sp : List AV} {u u' : AV} (hb : m.at_ b = some ⟨A ++ B ++ sp, EL, .flat, true⟩) (hA : A.length = i * 2) (hB : B.length = (n - i) * 2) (hi : i < n) (hk : n < k) (hsp : sp.length = (k - n) * 2) (hn : n ≤ 1000000000) :
    OSpec Try.prog 63 [.sl b 0 n k true, intV i, .tree 1 1 [u, u'] true] m (fun v m' => v = .sl b 0 (n + 1) k true ∧ m' = (m.put b (some ⟨A ++ B.take 2 ++ B ++ sp.drop 2, EL, .flat, true⟩)).put b (some ⟨A ++ [u, u'] ++ B ++ sp.drop 2, EL, .flat, true⟩)) := by
  refine ospec_of_body follows Try.func63 (by unfold Try.f63; rfl) (by unfold Try.f63; simp) onceA (by unfold Try.f63; simp) (by kernel_rfl) ?_; unfold Try.f63
  obtain ⟨v1, s1⟩ := cut_any (b := b) (f := true) (Nat.le_of_lt hi) (Nat.le_of_lt hk)
  have hok : ∀ off k f, slOk Try.prog m 30 (.sl b off n k f) = true := fun off k f => slOk_ents hb
  have hok2 : ∀ off n k f, slOk Try.prog m 30 (.sl b off n k f) = true := fun off n k f => slOk_ents hb
  have hne : ¬ ((i : Int) = (n : Int)) := by omega
  have hcap : ¬ ((k : Int) < ((n + 1 : Nat) : Int)) := by omega
  have w1 := wrap_succ (n := n) (by omega)
  have w2 := wrap_succ (n := i) (by omega)
  have hx := overlaps_x (off := (i + 1) * 2) (n := n + 1 - (i + 1)) (c := k - (i + 1)) (f := true) (f' := true) (u := u) (us := [u']) hb rfl rfl
  have s2 : sliceE Try.prog 30 none (some (n + 1)) none (.sl b 0 n k true) = some (.sl b 0 (n + 1) k true) := by
    simp only [sliceE, elE_ents, szE_ent, cutE, Option.isNone_none, Option.isSome_none, Bool.false_and, Bool.false_eq_true, if_false, Option.bind_some, Option.getD_some, Option.getD_none, Bool.or_false]
    rw [if_pos (by omega), if_neg (by omega)]
    simp
  have s3 := cut_lo (b := b) (n := n + 1) (i := i + 1) (f := true) (k := k) hb (by omega) (by omega)
  have s4 := cut_lo (b := b) (n := n + 1) (i := i) (f := true) (k := k) hb (by omega) (by omega)
  replace hk := Hid.mk hk
  replace hi := Hid.mk hi
  simp only [↓pre, post, ↓reduceIte, Nat.reduceEqDiff, Nat.reduceAdd, Nat.reduceMul, Nat.reduceSub, Nat.reduceLeDiff, Nat.reduceMod, Nat.reduceDiv, reduceCtorEq, Nat.reduceLT, Nat.reduceGT, Nat.reduceBEq, Option.isSome_some, ne_eq, Int.reduceEq, not_false_eq_true, bin_quo, bin_rem, List.length_cons, List.length_nil, List.map_cons, List.map_nil, List.append_nil, List.cons_append, List.nil_append, List.take_succ_cons, List.take_zero, List.drop_succ_cons, List.drop_zero, Nat.zero_add, Nat.add_zero, Nat.zero_le, Nat.le_refl, decide_true, decide_false, Bool.not_true, Bool.not_false, stepW, opE, intV, parV, boxE, loadE, partE, faddrE, fieldE, checkE, extractE, resultsE, resEs, resE, buildE, fillE, splice, if_true, if_false, Bool.false_eq_true, true_and, and_true, AV.cells, okA, oneA, fzs, fz, opTmp, Option.bind_some, Option.map_some, List.getElem?_cons_zero, List.getElem?_cons_succ, and_self, canonR, canon, canons, shift, shifts, pushAll, tys63, onceA, postU, postV, hok, hok2, s1, s2, s3, s4, optNat, Option.map_some, Option.map_none, len_one, len_sl, hne, cap_rule elE_ents, capE, w1, w2, hcap]; repeat' ((first | refine guard_dec (fun _ => ?_) (fun _ => ?_) | refine cond_dec (fun _ => ?_) (fun _ => ?_) | refine guard_ndec (fun _ => ?_) (fun _ => ?_) | refine cond_ndec (fun _ => ?_) (fun _ => ?_) | refine guard_split (fun _ => ?_) (fun _ => ?_) | refine cond_split (fun _ => ?_) (fun _ => ?_)) <;> simp only [↓pre, post, ↓reduceIte, Nat.reduceEqDiff, Nat.reduceAdd, Nat.reduceMul, Nat.reduceSub, Nat.reduceLeDiff, Nat.reduceMod, Nat.reduceDiv, reduceCtorEq, Nat.reduceLT, Nat.reduceGT, Nat.reduceBEq, Option.isSome_some, ne_eq, Int.reduceEq, not_false_eq_true, bin_quo, bin_rem, List.length_cons, List.length_nil, List.map_cons, List.map_nil, List.append_nil, List.cons_append, List.nil_append, List.take_succ_cons, List.take_zero, List.drop_succ_cons, List.drop_zero, Nat.zero_add, Nat.add_zero, Nat.zero_le, Nat.le_refl, decide_true, decide_false, Bool.not_true, Bool.not_false, stepW, opE, intV, parV, boxE, loadE, partE, faddrE, fieldE, checkE, extractE, resultsE, resEs, resE, buildE, fillE, splice, if_true, if_false, Bool.false_eq_true, true_and, and_true, AV.cells, okA, oneA, fzs, fz, opTmp, Option.bind_some, Option.map_some, List.getElem?_cons_zero, List.getElem?_cons_succ, and_self, canonR, canon, canons, shift, shifts, pushAll, tys63, onceA, postU, postV, hok, hok2, s1, s2, s3, s4, optNat, Option.map_some, Option.map_none, len_one, len_sl, hne, cap_rule elE_ents, capE, w1, w2, hcap, *])
  refine call_x hx ?_
  have hm1 : (m.put b (some ⟨A ++ B.take 2 ++ B ++ sp.drop 2, EL, .flat, true⟩)).at_ b = some ⟨A ++ B.take 2 ++ B ++ sp.drop 2, EL, .flat, true⟩ := by simp [Mem.put]
  have hBt : (B.take 2).length = 2 := by have := hi.out; rw [List.length_take]; omega
  have hsrc : srcE Try.prog EL 2 m (.sl b (i * 2) (n + 1 - i) (k - i) true) = some (B ++ sp.take 2, n + 1 - i) := by
    have hi := hi.out
    have hk := hk.out
    have e : (A ++ B ++ sp).drop (i * 2) = B ++ sp := by rw [← hA, List.append_assoc, List.drop_left]
    have e2 : (B ++ sp).take ((n + 1 - i) * 2) = B ++ sp.take 2 := by
      rw [show (n + 1 - i) * 2 = B.length + 2 by omega, List.take_length_add_append]
    simp only [srcE, slView, hb, Option.bind_some, e]
    rw [if_pos (by rw [List.length_append]; omega), e2]
  have hc1 := copy_eval (len := n + 1 - (i + 1)) (c := k - (i + 1)) (f := true) (q := n - i) (off := (i + 1) * 2) (r := A ++ B.take 2 ++ B ++ sp.drop 2) hb hsrc (by have := hk.out; have := hi.out; simp only [List.length_append]; omega) (by have := hi.out; omega) (by
    have e1 : (B ++ sp.take 2).take ((n - i) * 2) = B := by rw [← hB, List.take_left]
    have hi := hi.out
    have hk := hk.out
    rw [e1]
    have e2 : A ++ B ++ sp = (A ++ B.take 2) ++ (B.drop 2 ++ sp.take 2) ++ sp.drop 2 := by
      have a1 : B = B.take 2 ++ B.drop 2 := (List.take_append_drop 2 B).symm
      have a2 : sp = sp.take 2 ++ sp.drop 2 := (List.take_append_drop 2 sp).symm
      conv => lhs; rw [a1, a2]
      simp only [List.append_assoc]
    rw [e2]
    exact splice_mid _ _ _ _ _ (by rw [List.length_append, hBt]; omega) (by rw [List.length_append, List.length_drop, List.length_take]; omega))
  have hokm : ∀ off n k f, slOk Try.prog (m.put b (some ⟨A ++ B.take 2 ++ B ++ sp.drop 2, EL, .flat, true⟩)) 30 (.sl b off n k f) = true := fun off n k f => slOk_ents hm1
  have hc2 := copy_eval (len := n + 1 - i) (c := k - i) (f := true) (q := 1) (off := i * 2) (x := .tree 1 1 [u, u'] true) (r := A ++ [u, u'] ++ B ++ sp.drop 2) hm1 srcT1a (by have := hk.out; have := hi.out; simp only [List.length_append]; omega) (by have := hi.out; omega) (by
    have := splice_mid A (B.take 2) (B ++ sp.drop 2) [u, u'] (i * 2) hA.symm (by rw [hBt]; rfl)
    simp only [List.append_assoc] at this ⊢
    exact this)
  simp only [↓pre, post, ↓reduceIte, Nat.reduceEqDiff, Nat.reduceAdd, Nat.reduceMul, Nat.reduceSub, Nat.reduceLeDiff, Nat.reduceMod, Nat.reduceDiv, reduceCtorEq, Nat.reduceLT, Nat.reduceGT, Nat.reduceBEq, Option.isSome_some, ne_eq, Int.reduceEq, not_false_eq_true, bin_quo, bin_rem, List.length_cons, List.length_nil, List.map_cons, List.map_nil, List.append_nil, List.cons_append, List.nil_append, List.take_succ_cons, List.take_zero, List.drop_succ_cons, List.drop_zero, Nat.zero_add, Nat.add_zero, Nat.zero_le, Nat.le_refl, decide_true, decide_false, Bool.not_true, Bool.not_false, stepW, opE, intV, parV, boxE, loadE, partE, faddrE, fieldE, checkE, extractE, resultsE, resEs, resE, buildE, fillE, splice, if_true, if_false, Bool.false_eq_true, true_and, and_true, AV.cells, okA, oneA, fzs, fz, opTmp, Option.bind_some, Option.map_some, List.getElem?_cons_zero, List.getElem?_cons_succ, and_self, canonR, canon, canons, shift, shifts, pushAll, tys63, onceA, postU, postV, hok, hok2, s1, s2, s3, s4, optNat, Option.map_some, Option.map_none, len_one, len_sl, hne, cap_rule elE_ents, capE, w1, w2, hcap, copy_rule elE_ents, hc1]; repeat' ((first | refine guard_dec (fun _ => ?_) (fun _ => ?_) | refine cond_dec (fun _ => ?_) (fun _ => ?_) | refine guard_ndec (fun _ => ?_) (fun _ => ?_) | refine cond_ndec (fun _ => ?_) (fun _ => ?_) | refine guard_split (fun _ => ?_) (fun _ => ?_) | refine cond_split (fun _ => ?_) (fun _ => ?_)) <;> simp only [↓pre, post, ↓reduceIte, Nat.reduceEqDiff, Nat.reduceAdd, Nat.reduceMul, Nat.reduceSub, Nat.reduceLeDiff, Nat.reduceMod, Nat.reduceDiv, reduceCtorEq, Nat.reduceLT, Nat.reduceGT, Nat.reduceBEq, Option.isSome_some, ne_eq, Int.reduceEq, not_false_eq_true, bin_quo, bin_rem, List.length_cons, List.length_nil, List.map_cons, List.map_nil, List.append_nil, List.cons_append, List.nil_append, List.take_succ_cons, List.take_zero, List.drop_succ_cons, List.drop_zero, Nat.zero_add, Nat.add_zero, Nat.zero_le, Nat.le_refl, decide_true, decide_false, Bool.not_true, Bool.not_false, stepW, opE, intV, parV, boxE, loadE, partE, faddrE, fieldE, checkE, extractE, resultsE, resEs, resE, buildE, fillE, splice, if_true, if_false, Bool.false_eq_true, true_and, and_true, AV.cells, okA, oneA, fzs, fz, opTmp, Option.bind_some, Option.map_some, List.getElem?_cons_zero, List.getElem?_cons_succ, and_self, canonR, canon, canons, shift, shifts, pushAll, tys63, onceA, postU, postV, hok, hok2, s1, s2, s3, s4, optNat, Option.map_some, Option.map_none, len_one, len_sl, hne, cap_rule elE_ents, capE, w1, w2, hcap, copy_rule elE_ents, hc1, *])
  refine contW_fixed (by kernel_rfl) ?_
  simp only [↓pre, post, ↓reduceIte, Nat.reduceEqDiff, Nat.reduceAdd, Nat.reduceMul, Nat.reduceSub, Nat.reduceLeDiff, Nat.reduceMod, Nat.reduceDiv, reduceCtorEq, Nat.reduceLT, Nat.reduceGT, Nat.reduceBEq, Option.isSome_some, ne_eq, Int.reduceEq, not_false_eq_true, bin_quo, bin_rem, List.length_cons, List.length_nil, List.map_cons, List.map_nil, List.append_nil, List.cons_append, List.nil_append, List.take_succ_cons, List.take_zero, List.drop_succ_cons, List.drop_zero, Nat.zero_add, Nat.add_zero, Nat.zero_le, Nat.le_refl, decide_true, decide_false, Bool.not_true, Bool.not_false, stepW, opE, intV, parV, boxE, loadE, partE, faddrE, fieldE, checkE, extractE, resultsE, resEs, resE, buildE, fillE, splice, if_true, if_false, Bool.false_eq_true, true_and, and_true, AV.cells, okA, oneA, fzs, fz, opTmp, Option.bind_some, Option.map_some, List.getElem?_cons_zero, List.getElem?_cons_succ, and_self, canonR, canon, canons, shift, shifts, pushAll, tys63, onceA, postU, postV, hokm, s4, optNat, Option.map_some, Option.map_none, copy_rule elE_ents, hc2]; repeat' ((first | refine guard_dec (fun _ => ?_) (fun _ => ?_) | refine cond_dec (fun _ => ?_) (fun _ => ?_) | refine guard_ndec (fun _ => ?_) (fun _ => ?_) | refine cond_ndec (fun _ => ?_) (fun _ => ?_) | refine guard_split (fun _ => ?_) (fun _ => ?_) | refine cond_split (fun _ => ?_) (fun _ => ?_)) <;> simp only [↓pre, post, ↓reduceIte, Nat.reduceEqDiff, Nat.reduceAdd, Nat.reduceMul, Nat.reduceSub, Nat.reduceLeDiff, Nat.reduceMod, Nat.reduceDiv, reduceCtorEq, Nat.reduceLT, Nat.reduceGT, Nat.reduceBEq, Option.isSome_some, ne_eq, Int.reduceEq, not_false_eq_true, bin_quo, bin_rem, List.length_cons, List.length_nil, List.map_cons, List.map_nil, List.append_nil, List.cons_append, List.nil_append, List.take_succ_cons, List.take_zero, List.drop_succ_cons, List.drop_zero, Nat.zero_add, Nat.add_zero, Nat.zero_le, Nat.le_refl, decide_true, decide_false, Bool.not_true, Bool.not_false, stepW, opE, intV, parV, boxE, loadE, partE, faddrE, fieldE, checkE, extractE, resultsE, resEs, resE, buildE, fillE, splice, if_true, if_false, Bool.false_eq_true, true_and, and_true, AV.cells, okA, oneA, fzs, fz, opTmp, Option.bind_some, Option.map_some, List.getElem?_cons_zero, List.getElem?_cons_succ, and_self, canonR, canon, canons, shift, shifts, pushAll, tys63, onceA, postU, postV, hokm, s4, optNat, Option.map_some, Option.map_none, copy_rule elE_ents, hc2, *])
theorem appz_rule {P : Program} {m : Mem} {t t2 ty el : TypeId} {s x : AV} (h : elE P t = some el) (h2 : notInt P t2 = false) (h3 : isInt P t2 = true) : builtinE P m #[t, t2] ty [s, x] .append = (natOf x).bind fun n => appZ P el m s n := by simp [builtinE, h, h2, h3]
theorem insert_mid_full {m : Mem} {b n i : Nat} {A B : List AV} {u u' : AV} (hbn : b < m.next) (hb : m.at_ b = some ⟨A ++ B, EL, .flat, true⟩) (hA : A.length = i * 2) (hB : B.length = (n - i) * 2) (hi : i < n) (hn : n ≤ 1000000000) :
    OSpec Try.prog 63 [.sl b 0 n n true, intV i, .tree 1 1 [u, u'] true] m (fun v m' => v = .sl m.next 0 (n + 1) (n + 1) false ∧ ∃ c1 c2, m' = ((m.push c1).put m.next c2).put m.next (some ⟨A ++ [u, u'] ++ B, EL, .flat, true⟩)) := by
  refine ospec_of_body follows Try.func63 (by unfold Try.f63; rfl) (by unfold Try.f63; simp) onceA (by unfold Try.f63; simp) (by kernel_rfl) ?_; unfold Try.f63
  have hok : ∀ off n k f, slOk Try.prog m 30 (.sl b off n k f) = true := fun off n k f => slOk_ents hb
  have hne : ¬ ((i : Int) = (n : Int)) := by omega
  have hcap : (n : Int) < ((n + 1 : Nat) : Int) := by omega
  have w1 := wrap_succ (n := n) (by omega)
  have w2 := wrap_succ (n := i) (by omega)
  have w3 : IntKind.i64.wrap (((n + 1 : Nat) : Int) - (i : Int)) = ((n + 1 - i : Nat) : Int) := by
    rw [show ((n + 1 : Nat) : Int) - (i : Int) = ((n + 1 - i : Nat) : Int) by omega]; exact wrap_nat (by omega)
  have s2 : sliceE Try.prog 30 none (some i) none (.sl b 0 n n true) = some (.sl b 0 i n true) := by
    simp only [sliceE, elE_ents, szE_ent, cutE, Option.isNone_none, Option.isSome_none, Bool.false_and, Bool.false_eq_true, if_false, Option.bind_some, Option.getD_some, Option.getD_none, Bool.or_false]
    rw [if_pos (by omega), if_neg (by omega)]
    simp
  generalize hZ : zcells [.string .empty, .int .i64 0] ((n + 1 - i) * 2) = Z
  have hZl : Z.length = (n + 1 - i) * 2 := by rw [← hZ]; simp [zcells]
  have ha : appZ Try.prog EL m (.sl b 0 i n true) (n + 1 - i) = some ⟨.sl m.next 0 (n + 1) (n + 1) false, m.push ⟨A ++ Z, EL, .flat, true⟩, none⟩ := by
    have e : i + (n + 1 - i) = n + 1 := by omega
    have hc : (n == i) = false := by simp; omega
    have ht : Tw.tight (AV.sl b 0 i n true) (n + 1 - i) = true := by simp [Tw.tight]; omega
    have e2 : (A ++ B).take (i * 2) = A := by rw [← hA, List.take_left]
    simp only [appZ, szE_ent, byE_ent, zeroE_ent, slView, hb, Option.bind_some, List.drop_zero, e, e2, hZ]
    rw [if_pos ⟨by omega, by omega, rfl, by omega, .inr ht, by rw [List.length_append]; omega⟩]
    rfl
  have hnb : (m.push ⟨A ++ Z, EL, .flat, true⟩).at_ m.next = some ⟨A ++ Z, EL, .flat, true⟩ := by simp [Mem.push]
  have hob : (m.push ⟨A ++ Z, EL, .flat, true⟩).at_ b = some ⟨A ++ B, EL, .flat, true⟩ := by rw [push_at, if_neg (by omega)]; exact hb
  have hok1 : ∀ off n k f, slOk Try.prog (m.push ⟨A ++ Z, EL, .flat, true⟩) 30 (.sl m.next off n k f) = true := fun off n k f => slOk_ents hnb
  have s3 := cut_lo (b := m.next) (n := n + 1) (i := i) (f := false) (k := n + 1) hnb (by omega) (by omega)
  have hc1 := copy_eval (len := n + 1 - i) (c := n + 1 - i) (f := false) (q := 1) (off := i * 2) (x := .tree 1 1 [u, u'] true) (r := A ++ [u, u'] ++ Z.drop 2) hnb srcT1a (by rw [List.length_append]; omega) (by omega) (by
    have := splice_mid A (Z.take 2) (Z.drop 2) [u, u'] (i * 2) hA.symm (by rw [List.length_take]; simp; omega)
    rw [List.append_assoc, List.take_append_drop] at this
    exact this)
  have hnb2 : ((m.push ⟨A ++ Z, EL, .flat, true⟩).put m.next (some ⟨A ++ [u, u'] ++ Z.drop 2, EL, .flat, true⟩)).at_ m.next = some ⟨A ++ [u, u'] ++ Z.drop 2, EL, .flat, true⟩ := by simp [Mem.put]
  have hob2 : ((m.push ⟨A ++ Z, EL, .flat, true⟩).put m.next (some ⟨A ++ [u, u'] ++ Z.drop 2, EL, .flat, true⟩)).at_ b = some ⟨A ++ B, EL, .flat, true⟩ := by rw [put_at, if_neg (by omega)]; exact hob
  have hok2 : ∀ off n k f, slOk Try.prog ((m.push ⟨A ++ Z, EL, .flat, true⟩).put m.next (some ⟨A ++ [u, u'] ++ Z.drop 2, EL, .flat, true⟩)) 30 (.sl m.next off n k f) = true := fun off n k f => slOk_ents hnb2
  have hok3 : ∀ off n k f, slOk Try.prog ((m.push ⟨A ++ Z, EL, .flat, true⟩).put m.next (some ⟨A ++ [u, u'] ++ Z.drop 2, EL, .flat, true⟩)) 30 (.sl b off n k f) = true := fun off n k f => slOk_ents hob2
  have s4 := cut_lo (b := m.next) (n := n + 1) (i := i + 1) (f := false) (k := n + 1) hnb (by omega) (by omega)
  have s5 := cut_lo (b := b) (n := n) (i := i) (f := true) (k := n) hb (by omega) (by omega)
  have hsrc : srcE Try.prog EL 2 ((m.push ⟨A ++ Z, EL, .flat, true⟩).put m.next (some ⟨A ++ [u, u'] ++ Z.drop 2, EL, .flat, true⟩)) (.sl b (i * 2) (n - i) (n - i) true) = some (B, n - i) := by
    have e : (A ++ B).drop (i * 2) = B := by rw [← hA, List.drop_left]
    simp only [srcE, slView, hob2, Option.bind_some, e]
    rw [if_pos (by omega), ← hB, List.take_length]
  have hc2 := copy_eval (len := n + 1 - (i + 1)) (c := n + 1 - (i + 1)) (f := false) (q := n - i) (off := (i + 1) * 2) (r := A ++ [u, u'] ++ B) hnb2 hsrc (by simp only [List.length_append, List.length_drop, List.length_cons, List.length_nil]; omega) (by omega) (by
    have h1 : B.take ((n - i) * 2) = B := by rw [← hB, List.take_length]
    have := splice_mid (A ++ [u, u']) (Z.drop 2) [] B ((i + 1) * 2) (by simp [hA]; omega) (by rw [List.length_drop]; omega)
    rw [List.append_nil, List.append_nil] at this
    rw [h1]; exact this)
  replace hi := Hid.mk hi
  simp only [↓pre, post, ↓reduceIte, Nat.reduceEqDiff, Nat.reduceAdd, Nat.reduceMul, Nat.reduceSub, Nat.reduceLeDiff, Nat.reduceMod, Nat.reduceDiv, reduceCtorEq, Nat.reduceLT, Nat.reduceGT, Nat.reduceBEq, Option.isSome_some, ne_eq, Int.reduceEq, not_false_eq_true, bin_quo, bin_rem, List.length_cons, List.length_nil, List.map_cons, List.map_nil, List.append_nil, List.cons_append, List.nil_append, List.take_succ_cons, List.take_zero, List.drop_succ_cons, List.drop_zero, Nat.zero_add, Nat.add_zero, Nat.zero_le, Nat.le_refl, decide_true, decide_false, Bool.not_true, Bool.not_false, stepW, opE, intV, parV, boxE, loadE, partE, faddrE, fieldE, checkE, extractE, resultsE, resEs, resE, buildE, fillE, splice, if_true, if_false, Bool.false_eq_true, true_and, and_true, AV.cells, okA, oneA, fzs, fz, opTmp, Option.bind_some, Option.map_some, List.getElem?_cons_zero, List.getElem?_cons_succ, and_self, canonR, canon, canons, shift, shifts, pushAll, tys63, onceA, postU, hok, hok1, hok2, hok3, s2, s3, s4, s5, optNat, Option.map_some, Option.map_none, len_one, len_sl, hne, cap_rule elE_ents, capE, w1, w2, w3, hcap, copy_rule elE_ents, hc1, hc2, appz_rule (P := Try.prog) (t := 30) (t2 := 3) elE_ents (by kernel_rfl) (by kernel_rfl), ha]; repeat' ((first | refine guard_dec (fun _ => ?_) (fun _ => ?_) | refine cond_dec (fun _ => ?_) (fun _ => ?_) | refine guard_ndec (fun _ => ?_) (fun _ => ?_) | refine cond_ndec (fun _ => ?_) (fun _ => ?_) | refine guard_split (fun _ => ?_) (fun _ => ?_) | refine cond_split (fun _ => ?_) (fun _ => ?_)) <;> simp only [↓pre, post, ↓reduceIte, Nat.reduceEqDiff, Nat.reduceAdd, Nat.reduceMul, Nat.reduceSub, Nat.reduceLeDiff, Nat.reduceMod, Nat.reduceDiv, reduceCtorEq, Nat.reduceLT, Nat.reduceGT, Nat.reduceBEq, Option.isSome_some, ne_eq, Int.reduceEq, not_false_eq_true, bin_quo, bin_rem, List.length_cons, List.length_nil, List.map_cons, List.map_nil, List.append_nil, List.cons_append, List.nil_append, List.take_succ_cons, List.take_zero, List.drop_succ_cons, List.drop_zero, Nat.zero_add, Nat.add_zero, Nat.zero_le, Nat.le_refl, decide_true, decide_false, Bool.not_true, Bool.not_false, stepW, opE, intV, parV, boxE, loadE, partE, faddrE, fieldE, checkE, extractE, resultsE, resEs, resE, buildE, fillE, splice, if_true, if_false, Bool.false_eq_true, true_and, and_true, AV.cells, okA, oneA, fzs, fz, opTmp, Option.bind_some, Option.map_some, List.getElem?_cons_zero, List.getElem?_cons_succ, and_self, canonR, canon, canons, shift, shifts, pushAll, tys63, onceA, postU, hok, hok1, hok2, hok3, s2, s3, s4, s5, optNat, Option.map_some, Option.map_none, len_one, len_sl, hne, cap_rule elE_ents, capE, w1, w2, w3, hcap, copy_rule elE_ents, hc1, hc2, appz_rule (P := Try.prog) (t := 30) (t2 := 3) elE_ents (by kernel_rfl) (by kernel_rfl), ha, *])
  refine contW_fixed (by kernel_rfl) ?_
  simp only [↓pre, post, ↓reduceIte, Nat.reduceEqDiff, Nat.reduceAdd, Nat.reduceMul, Nat.reduceSub, Nat.reduceLeDiff, Nat.reduceMod, Nat.reduceDiv, reduceCtorEq, Nat.reduceLT, Nat.reduceGT, Nat.reduceBEq, Option.isSome_some, ne_eq, Int.reduceEq, not_false_eq_true, bin_quo, bin_rem, List.length_cons, List.length_nil, List.map_cons, List.map_nil, List.append_nil, List.cons_append, List.nil_append, List.take_succ_cons, List.take_zero, List.drop_succ_cons, List.drop_zero, Nat.zero_add, Nat.add_zero, Nat.zero_le, Nat.le_refl, decide_true, decide_false, Bool.not_true, Bool.not_false, stepW, opE, intV, parV, boxE, loadE, partE, faddrE, fieldE, checkE, extractE, resultsE, resEs, resE, buildE, fillE, splice, if_true, if_false, Bool.false_eq_true, true_and, and_true, AV.cells, okA, oneA, fzs, fz, opTmp, Option.bind_some, Option.map_some, List.getElem?_cons_zero, List.getElem?_cons_succ, and_self, canonR, canon, canons, shift, shifts, pushAll, tys63, onceA, postU]; repeat' ((first | refine guard_dec (fun _ => ?_) (fun _ => ?_) | refine cond_dec (fun _ => ?_) (fun _ => ?_) | refine guard_ndec (fun _ => ?_) (fun _ => ?_) | refine cond_ndec (fun _ => ?_) (fun _ => ?_) | refine guard_split (fun _ => ?_) (fun _ => ?_) | refine cond_split (fun _ => ?_) (fun _ => ?_)) <;> simp only [↓pre, post, ↓reduceIte, Nat.reduceEqDiff, Nat.reduceAdd, Nat.reduceMul, Nat.reduceSub, Nat.reduceLeDiff, Nat.reduceMod, Nat.reduceDiv, reduceCtorEq, Nat.reduceLT, Nat.reduceGT, Nat.reduceBEq, Option.isSome_some, ne_eq, Int.reduceEq, not_false_eq_true, bin_quo, bin_rem, List.length_cons, List.length_nil, List.map_cons, List.map_nil, List.append_nil, List.cons_append, List.nil_append, List.take_succ_cons, List.take_zero, List.drop_succ_cons, List.drop_zero, Nat.zero_add, Nat.add_zero, Nat.zero_le, Nat.le_refl, decide_true, decide_false, Bool.not_true, Bool.not_false, stepW, opE, intV, parV, boxE, loadE, partE, faddrE, fieldE, checkE, extractE, resultsE, resEs, resE, buildE, fillE, splice, if_true, if_false, Bool.false_eq_true, true_and, and_true, AV.cells, okA, oneA, fzs, fz, opTmp, Option.bind_some, Option.map_some, List.getElem?_cons_zero, List.getElem?_cons_succ, and_self, canonR, canon, canons, shift, shifts, pushAll, tys63, onceA, postU, *])
  exact ⟨_, _, rfl⟩
/-- where the new row lies at last -/
def InsQ (m : Mem) (b n : Nat) (r : List AV) (v : AV) (m' : Mem) : Prop := v = .sl m.next 0 (n + 1) (n + 1) false ∧ m' = (m.put b none).push ⟨r, EL, .flat, true⟩
theorem put_put {m : Mem} {b : Nat} {x y : Option Blk} : (m.put b x).put b y = m.put b y := mem_ext rfl fun j => by simp only [put_at]; split <;> rfl
/-- slices.Insert of one entry into a row of one's own -/
theorem insert_own {m : Mem} {b n i : Nat} {cells : List AV} {u u' : AV} (hbn : b < m.next) (hb : m.at_ b = some ⟨cells, EL, .flat, true⟩) (hl : cells.length = n * 2) (hi : i ≤ n) (hn : n ≤ 1000000000) :
    OSpec Try.prog 63 [.sl b 0 n n false, intV i, .tree 1 1 [u, u'] true] m (InsQ m b n (insC cells i [u, u'])) := by
  refine ospec_reveal (i := 0) (sz := 2) rfl hb szE_ent (by omega) (fun k sp hk _ hsp h1 => ?_) (by kernel_rfl)
  simp only [List.set_cons_zero]
  have hcl : (insC cells i [u, u']).length = (n + 1) * 2 := by simp [insC, hl]; omega
  -- what a row that stays where it is comes to
  have stay : ∀ (M : Mem) (x : List AV), M.at_ b = some ⟨insC cells i [u, u'] ++ x, EL, .flat, true⟩ → M.next = m.next → (∀ j, j ≠ b → M.at_ j = m.at_ j) → n + 1 ≤ k → ∃ v' m2, Gets Try.prog M (.sl b 0 (n + 1) k true) m2 v' ∧ InsQ m b n (insC cells i [u, u']) v' m2 := by
    intro M x hM hMn hMo hk1
    have g1 := gets_cut (P := Try.prog) (j := (n + 1) * 2) (c' := n + 1) (n := n + 1) (c := k) (off := 0) (f := true) hM (Nat.le_refl _) hk1
    rw [← hcl, List.take_left] at g1
    have g2 := gets_move (P := Try.prog) (m := M.put b (some ⟨insC cells i [u, u'], EL, .flat, true⟩)) (b := b) (off := 0) (n := n + 1) (c := n + 1) (f := false) (k := ⟨insC cells i [u, u'], EL, .flat, true⟩) (by simp [Mem.put]) rfl
    refine ⟨_, _, g1.trans g2, ?_, ?_⟩
    · rw [put_next, hMn]
    · refine mem_ext (by simp only [push_next, put_next, hMn]) fun j => ?_
      by_cases e1 : j = m.next
      · simp [push_at, put_at, put_next, hMn, e1]
      · by_cases e2 : j = b
        · simp [push_at, put_at, put_next, hMn, e2]
        · simp [push_at, put_at, put_next, hMn, e1, e2, hMo j e2]
  -- a row made anew
  have anew : ∀ (M : Mem), M.at_ m.next = some ⟨insC cells i [u, u'], EL, .flat, true⟩ → M.next = m.next + 1 → (∀ j, j ≠ b → j ≠ m.next → M.at_ j = m.at_ j) → ∃ v' m2, Gets Try.prog M (.sl m.next 0 (n + 1) (n + 1) false) m2 v' ∧ InsQ m b n (insC cells i [u, u']) v' m2 := by
    intro M hM hMn hMo
    refine ⟨_, _, gets_drop M _ b, rfl, ?_⟩
    refine mem_ext (by simp only [push_next, put_next, hMn]) fun j => ?_
    by_cases e1 : j = m.next
    · subst e1
      simp [push_at, put_at, put_next, hM, Nat.ne_of_gt hbn]
    · by_cases e2 : j = b
      · subst e2
        simp [push_at, put_at, put_next, e1]
      · simp [push_at, put_at, put_next, e1, e2, hMo j e2 e1]
  have hM : (m.put b (some ⟨cells ++ sp.map .val, EL, .flat, true⟩)).at_ b = some ⟨cells ++ sp.map .val, EL, .flat, true⟩ := by simp [Mem.put]
  have hMo : ∀ j, j ≠ b → (m.put b (some ⟨cells ++ sp.map .val, EL, .flat, true⟩)).at_ j = m.at_ j := fun j hj => by rw [put_at, if_neg hj]
  by_cases hin : i = n
  · subst hin
    by_cases hkn : k = i
    · subst hkn
      have hsp0 : sp = [] := List.eq_nil_of_length_eq_zero (by rw [hsp]; simp)
      subst hsp0
      simp only [List.map_nil, List.append_nil] at hM hMo ⊢
      refine ospec_gets (insert_end_full hM hl hn) ?_
      rintro v m1 ⟨rfl, rfl⟩
      exact anew _ (by simp [push_at, put_next]) rfl (fun j e1 e2 => by rw [push_at, if_neg (by rw [put_next]; exact e2)]; exact hMo j e1)
    · refine ospec_gets (insert_end_room (sp := sp.map .val) hM hl (by omega) (by rw [List.length_map, hsp]) hn) ?_
      rintro v m1 ⟨rfl, rfl⟩
      rw [put_put]
      exact stay _ _ (by rw [put_at, if_pos rfl]) rfl (fun j e => by rw [put_at, if_neg e]) (by omega)
  · have hAB : cells = cells.take (i * 2) ++ cells.drop (i * 2) := (List.take_append_drop _ _).symm
    have hA : (cells.take (i * 2)).length = i * 2 := by rw [List.length_take]; omega
    have hB : (cells.drop (i * 2)).length = (n - i) * 2 := by rw [List.length_drop]; omega
    by_cases hkn : k = n
    · subst hkn
      have hsp0 : sp = [] := List.eq_nil_of_length_eq_zero (by rw [hsp]; simp)
      subst hsp0
      simp only [List.map_nil, List.append_nil] at hM hMo ⊢
      rw [← put_next (m := m) (b := b) (y := some ⟨cells, EL, .flat, true⟩)] at hbn
      refine ospec_gets (insert_mid_full (A := cells.take (i * 2)) (B := cells.drop (i * 2)) hbn (by rw [← hAB]; exact hM) hA hB (by omega) hn) ?_
      rintro v m1 ⟨rfl, c1, c2, rfl⟩
      exact anew _ (by simp [put_at, put_next, insC]) rfl (fun j e1 e2 => by rw [put_at, if_neg (by rw [put_next]; exact e2), put_at, if_neg (by rw [put_next]; exact e2), push_at, if_neg (by rw [put_next]; exact e2)]; exact hMo j e1)
    · refine ospec_gets (insert_mid_room (A := cells.take (i * 2)) (B := cells.drop (i * 2)) (sp := sp.map .val) (by rw [← hAB]; exact hM) hA hB (by omega) (by omega) (by rw [List.length_map, hsp]) hn) ?_
      rintro v m1 ⟨rfl, rfl⟩
      rw [put_put, put_put]
      exact stay _ _ (by rw [put_at, if_pos rfl]; rfl) rfl (fun j e => by rw [put_at, if_neg e]) (by omega)
/-- slices.Insert of one entry into nothing -/
theorem insert_nil {m : Mem} {u u' : AV} : OSpec Try.prog 63 [nilS, intV 0, .tree 1 1 [u, u'] true] m (fun v m' => v = .sl m.next 0 1 1 false ∧ m' = m.push ⟨[u, u'], EL, .flat, true⟩) := by
  refine ospec_of_body follows Try.func63 (by unfold Try.f63; rfl) (by unfold Try.f63; simp) onceA (by unfold Try.f63; simp) (by kernel_rfl) ?_; unfold Try.f63
  have hs := srcT1a (P := Try.prog) (m := m) (el := EL) (f := true) (u := u) (u' := u')
  have ha : appE Try.prog EL m (.val (.slice none 0 0)) (.tree 1 1 [u, u'] true) = some ⟨.sl m.next 0 1 1 false, m.push ⟨[u, u'], EL, .flat, true⟩, none⟩ := by
    simp [appE, szE_ent, byE_ent, zeroE_ent, hs, slView, outV]
  have s1 : sliceE Try.prog 30 (some 0) none none (.val (.slice none 0 0)) = some nilS := by simp [sliceE, elE_ents, szE_ent, cutE]
  have hok : slOk Try.prog m 30 (.val (.slice none 0 0)) = true := rfl
  have hl : lenE Try.prog 30 (.val (.slice none 0 0)) = some (.val (.int .i64 0)) := by simp [lenE, elE_ents, slLen, intV]
  have hz : natOf (.val (.int .i64 0)) = some 0 := rfl
  unfold nilS at *
  simp only [↓pre, post, ↓reduceIte, Nat.reduceEqDiff, Nat.reduceAdd, Nat.reduceMul, Nat.reduceSub, Nat.reduceLeDiff, Nat.reduceMod, Nat.reduceDiv, reduceCtorEq, Nat.reduceLT, Nat.reduceGT, Nat.reduceBEq, Option.isSome_some, ne_eq, Int.reduceEq, not_false_eq_true, bin_quo, bin_rem, List.length_cons, List.length_nil, List.map_cons, List.map_nil, List.append_nil, List.cons_append, List.nil_append, List.take_succ_cons, List.take_zero, List.drop_succ_cons, List.drop_zero, Nat.zero_add, Nat.add_zero, Nat.zero_le, Nat.le_refl, decide_true, decide_false, Bool.not_true, Bool.not_false, stepW, opE, intV, parV, boxE, loadE, partE, faddrE, fieldE, checkE, extractE, resultsE, resEs, resE, buildE, fillE, splice, if_true, if_false, Bool.false_eq_true, true_and, and_true, AV.cells, okA, oneA, fzs, fz, opTmp, Option.bind_some, Option.map_some, List.getElem?_cons_zero, List.getElem?_cons_succ, and_self, canonR, canon, canons, shift, shifts, pushAll, tys63, onceA, postU, postV, hok, s1, hz, optNat, Option.map_some, Option.map_none, len_one, hl, ha]; repeat' ((first | refine guard_dec (fun _ => ?_) (fun _ => ?_) | refine cond_dec (fun _ => ?_) (fun _ => ?_) | refine guard_ndec (fun _ => ?_) (fun _ => ?_) | refine cond_ndec (fun _ => ?_) (fun _ => ?_) | refine guard_split (fun _ => ?_) (fun _ => ?_) | refine cond_split (fun _ => ?_) (fun _ => ?_)) <;> simp only [↓pre, post, ↓reduceIte, Nat.reduceEqDiff, Nat.reduceAdd, Nat.reduceMul, Nat.reduceSub, Nat.reduceLeDiff, Nat.reduceMod, Nat.reduceDiv, reduceCtorEq, Nat.reduceLT, Nat.reduceGT, Nat.reduceBEq, Option.isSome_some, ne_eq, Int.reduceEq, not_false_eq_true, bin_quo, bin_rem, List.length_cons, List.length_nil, List.map_cons, List.map_nil, List.append_nil, List.cons_append, List.nil_append, List.take_succ_cons, List.take_zero, List.drop_succ_cons, List.drop_zero, Nat.zero_add, Nat.add_zero, Nat.zero_le, Nat.le_refl, decide_true, decide_false, Bool.not_true, Bool.not_false, stepW, opE, intV, parV, boxE, loadE, partE, faddrE, fieldE, checkE, extractE, resultsE, resEs, resE, buildE, fillE, splice, if_true, if_false, Bool.false_eq_true, true_and, and_true, AV.cells, okA, oneA, fzs, fz, opTmp, Option.bind_some, Option.map_some, List.getElem?_cons_zero, List.getElem?_cons_succ, and_self, canonR, canon, canons, shift, shifts, pushAll, tys63, onceA, postU, postV, hok, s1, hz, optNat, Option.map_some, Option.map_none, len_one, hl, ha, *])
theorem ospec_weaken {f : FuncId} {args : List AV} {m : Mem} {Q Q' : AV → Mem → Prop} (h : OSpec Try.prog f args m Q) (hq : ∀ v m1, Q v m1 → Q' v m1) : OSpec Try.prog f args m Q' :=
  ospec_gets h fun v m1 hQ => ⟨v, m1, Gets.refl _ _, hq v m1 hQ⟩
/-- slices.Delete of one entry of a row of one's own -/
theorem delete_own {m : Mem} {b n i : Nat} {A B : List AV} {u u' : AV} (hb : m.at_ b = some ⟨A ++ [u, u'] ++ B, EL, .flat, true⟩) (hA : A.length = i * 2) (hB : B.length = (n - (i + 1)) * 2) (hi : i < n) (hn : n ≤ 1000000000) :
    OSpec Try.prog 67 [.sl b 0 n n false, intV i, intV ((i + 1 : Nat) : Int)] m (fun v m' => v = .sl b 0 (n - 1) n false ∧ m'.next = m.next ∧ (∀ j, j ≠ b → m'.at_ j = m.at_ j) ∧ ∃ x, m'.at_ b = some ⟨A ++ B ++ x, EL, .flat, true⟩) := by
  refine ospec_of_body follows Try.func67 (by unfold Try.f67; rfl) (by unfold Try.f67; simp) onceA (by unfold Try.f67; simp) (by kernel_rfl) ?_; unfold Try.f67
  have hok : ∀ off n k f, slOk Try.prog m 30 (.sl b off n k f) = true := fun off n k f => slOk_ents hb
  have hne : ¬ ((i : Int) = ((i + 1 : Nat) : Int)) := by omega
  have s1 : sliceE Try.prog 30 (some i) (some (i + 1)) (some n) (.sl b 0 n n false) = some (.sl b (0 + i * 2) 1 (n - i) true) := by
    simp only [sliceE, elE_ents, szE_ent, cutE, Option.isNone_some, Option.isSome_some, Bool.and_false, Bool.false_eq_true, if_false, Option.bind_some, Option.getD_some, Bool.or_true]
    rw [if_pos (by omega), if_neg (by omega), show i + 1 - i = 1 by omega]
  have s2 : sliceE Try.prog 30 none (some i) none (.sl b 0 n n false) = some (.sl b 0 i n false) := by
    simp only [sliceE, elE_ents, szE_ent, cutE, Option.isNone_none, Option.isSome_none, Bool.false_and, Bool.false_eq_true, if_false, Option.bind_some, Option.getD_some, Option.getD_none, Bool.or_false]
    rw [if_pos (by omega), if_neg (by omega)]
    simp
  -- what stands behind
  obtain ⟨x, s3, hx⟩ : ∃ x, sliceE Try.prog 30 (some (i + 1)) none none (.sl b 0 n n false) = some x ∧ srcE Try.prog EL 2 m x = some (B, n - (i + 1)) := by
    by_cases he : i + 1 = n
    · refine ⟨.emp (n - (i + 1)) false, ?_, ?_⟩
      · simp only [sliceE, elE_ents, szE_ent, cutE, Option.isNone_none, Option.isSome_none, Bool.false_and, Bool.false_eq_true, if_false, Option.bind_some, Option.getD_some, Option.getD_none, Bool.or_false]
        rw [if_pos (by omega), if_pos ⟨he, by omega⟩]
      · have : B = [] := List.eq_nil_of_length_eq_zero (by omega)
        subst this
        simp [srcE, slView]; omega
    · refine ⟨.sl b (0 + (i + 1) * 2) (n - (i + 1)) (n - (i + 1)) false, ?_, ?_⟩
      · simp only [sliceE, elE_ents, szE_ent, cutE, Option.isNone_none, Option.isSome_none, Bool.false_and, Bool.false_eq_true, if_false, Option.bind_some, Option.getD_some, Option.getD_none, Bool.or_false]
        rw [if_pos (by omega), if_neg (by omega)]
      · have e : (A ++ [u, u'] ++ B).drop (0 + (i + 1) * 2) = B := by
          rw [show 0 + (i + 1) * 2 = (A ++ [u, u']).length by simp [hA]; omega, List.drop_left]
        simp only [srcE, slView, hb, Option.bind_some, e]
        rw [if_pos (by omega), ← hB, List.take_length]
  -- append in place
  obtain ⟨R, hR1, hR2⟩ : ∃ R, splice (A ++ [u, u'] ++ B) (0 + i * 2) B = A ++ B ++ R ∧ R.length = 2 := by
    have e : [u, u'] ++ B = ([u, u'] ++ B).take B.length ++ ([u, u'] ++ B).drop B.length := (List.take_append_drop _ _).symm
    refine ⟨([u, u'] ++ B).drop B.length, ?_, by simp; omega⟩
    have h := splice_mid A (([u, u'] ++ B).take B.length) (([u, u'] ++ B).drop B.length) B (0 + i * 2) (by omega) (by rw [List.length_take, List.length_append]; omega)
    rw [List.append_assoc, List.take_append_drop, ← List.append_assoc] at h
    exact h
  have ha : ∃ m1, appE Try.prog EL m (.sl b 0 i n false) x = some ⟨.sl b 0 (n - 1) n false, m1, none⟩ ∧ m1.next = m.next ∧ (∀ j, j ≠ b → m1.at_ j = m.at_ j) ∧ m1.at_ b = some ⟨A ++ B ++ R, EL, .flat, true⟩ := by
    refine ⟨m.put b (some ⟨A ++ B ++ R, EL, .flat, true⟩), ?_, rfl, fun j hj => by rw [put_at, if_neg hj], by simp [Mem.put]⟩
    have ht : Tw.tight (AV.sl b 0 i n false) (n - (i + 1)) = false := rfl
    simp only [appE, szE_ent, byE_ent, zeroE_ent, hx, slView, hb, Option.bind_some, Bool.false_and, ht]
    rw [if_pos ⟨by omega, by omega, rfl⟩]
    simp only [Bool.false_eq_true, if_false]
    rw [if_neg (by simp [hA, hB]), if_pos ⟨trivial, trivial, by omega, by simp [hA, hB]; omega⟩, hR1, show i + (n - (i + 1)) = n - 1 by omega]
    rfl
  obtain ⟨m1, ha, hm1n, hm1o, hm1⟩ := ha
  have hok1 : ∀ off n k f, slOk Try.prog m1 30 (.sl b off n k f) = true := fun off n k f => slOk_ents hm1
  have s4 : sliceE Try.prog 30 (some (n - 1)) (some n) none (.sl b 0 (n - 1) n false) = some (.sl b ((n - 1) * 2) 1 (n - (n - 1)) false) := by
    simp only [sliceE, elE_ents, szE_ent, cutE, Option.isNone_some, Option.isSome_none, Bool.false_and, Bool.false_eq_true, if_false, Option.bind_some, Option.getD_some, Option.getD_none, Bool.or_false]
    rw [if_pos (by omega), if_neg (by omega), show n - (n - 1) = 1 by omega, Nat.zero_add]
  obtain ⟨m2, hcl, hm2n, hm2o, y, hm2⟩ : ∃ m2, clearE Try.prog EL m1 (.sl b ((n - 1) * 2) 1 (n - (n - 1)) false) = some ⟨undefA, m2, none⟩ ∧ m2.next = m1.next ∧ (∀ j, j ≠ b → m2.at_ j = m1.at_ j) ∧ ∃ y, m2.at_ b = some ⟨A ++ B ++ y, EL, .flat, true⟩ := by
    refine ⟨m1.put b (some ⟨splice (A ++ B ++ R) ((n - 1) * 2) (zcells [.string .empty, .int .i64 0] (1 * 2)), EL, .flat, true⟩), ?_, rfl, fun j hj => by rw [put_at, if_neg hj], zcells [.string .empty, .int .i64 0] (1 * 2), ?_⟩
    · simp only [clearE, szE_ent, zeroE_ent, hm1, Option.bind_some]
      rw [if_neg (by decide), if_pos ⟨trivial, trivial, rfl, by simp [hA, hB, hR2]; omega⟩]
      rfl
    · have := splice_mid (A ++ B) R [] (zcells [.string .empty, .int .i64 0] (1 * 2)) ((n - 1) * 2) (by simp [hA, hB]; omega) (by simp [zcells, hR2])
      simp only [List.append_nil] at this
      rw [this]; simp [Mem.put]
  have hcr : ∀ (m : Mem) (ty : TypeId) (x : AV), builtinE Try.prog m #[30] ty [x] .clear = clearE Try.prog EL m x := fun m ty x => by simp [builtinE, elE_ents]
  replace hi := Hid.mk hi
  replace hm1n := Hid.mk hm1n
  replace hm2n := Hid.mk hm2n
  replace hm1o := Hid.mk hm1o
  replace hm2o := Hid.mk hm2o
  replace hm2 := Hid.mk hm2
  simp only [↓pre, post, ↓reduceIte, Nat.reduceEqDiff, Nat.reduceAdd, Nat.reduceMul, Nat.reduceSub, Nat.reduceLeDiff, Nat.reduceMod, Nat.reduceDiv, reduceCtorEq, Nat.reduceLT, Nat.reduceGT, Nat.reduceBEq, Option.isSome_some, ne_eq, Int.reduceEq, not_false_eq_true, bin_quo, bin_rem, List.length_cons, List.length_nil, List.map_cons, List.map_nil, List.append_nil, List.cons_append, List.nil_append, List.take_succ_cons, List.take_zero, List.drop_succ_cons, List.drop_zero, Nat.zero_add, Nat.add_zero, Nat.zero_le, Nat.le_refl, decide_true, decide_false, Bool.not_true, Bool.not_false, stepW, opE, intV, parV, boxE, loadE, partE, faddrE, fieldE, checkE, extractE, resultsE, resEs, resE, buildE, fillE, splice, if_true, if_false, Bool.false_eq_true, true_and, and_true, AV.cells, okA, oneA, fzs, fz, opTmp, Option.bind_some, Option.map_some, List.getElem?_cons_zero, List.getElem?_cons_succ, and_self, canonR, canon, canons, shift, shifts, pushAll, tys67, onceA, postU, postV, hok, hok1, s1, s2, s3, s4, optNat, Option.map_some, Option.map_none, len_sl, hne, ha, hcl, hcr]; repeat' ((first | refine guard_dec (fun _ => ?_) (fun _ => ?_) | refine cond_dec (fun _ => ?_) (fun _ => ?_) | refine guard_ndec (fun _ => ?_) (fun _ => ?_) | refine cond_ndec (fun _ => ?_) (fun _ => ?_) | refine guard_split (fun _ => ?_) (fun _ => ?_) | refine cond_split (fun _ => ?_) (fun _ => ?_)) <;> simp only [↓pre, post, ↓reduceIte, Nat.reduceEqDiff, Nat.reduceAdd, Nat.reduceMul, Nat.reduceSub, Nat.reduceLeDiff, Nat.reduceMod, Nat.reduceDiv, reduceCtorEq, Nat.reduceLT, Nat.reduceGT, Nat.reduceBEq, Option.isSome_some, ne_eq, Int.reduceEq, not_false_eq_true, bin_quo, bin_rem, List.length_cons, List.length_nil, List.map_cons, List.map_nil, List.append_nil, List.cons_append, List.nil_append, List.take_succ_cons, List.take_zero, List.drop_succ_cons, List.drop_zero, Nat.zero_add, Nat.add_zero, Nat.zero_le, Nat.le_refl, decide_true, decide_false, Bool.not_true, Bool.not_false, stepW, opE, intV, parV, boxE, loadE, partE, faddrE, fieldE, checkE, extractE, resultsE, resEs, resE, buildE, fillE, splice, if_true, if_false, Bool.false_eq_true, true_and, and_true, AV.cells, okA, oneA, fzs, fz, opTmp, Option.bind_some, Option.map_some, List.getElem?_cons_zero, List.getElem?_cons_succ, and_self, canonR, canon, canons, shift, shifts, pushAll, tys67, onceA, postU, postV, hok, hok1, s1, s2, s3, s4, optNat, Option.map_some, Option.map_none, len_sl, hne, ha, hcl, hcr, *])
  refine contW_fixed (by kernel_rfl) ?_
  simp only [↓pre, post, ↓reduceIte, Nat.reduceEqDiff, Nat.reduceAdd, Nat.reduceMul, Nat.reduceSub, Nat.reduceLeDiff, Nat.reduceMod, Nat.reduceDiv, reduceCtorEq, Nat.reduceLT, Nat.reduceGT, Nat.reduceBEq, Option.isSome_some, ne_eq, Int.reduceEq, not_false_eq_true, bin_quo, bin_rem, List.length_cons, List.length_nil, List.map_cons, List.map_nil, List.append_nil, List.cons_append, List.nil_append, List.take_succ_cons, List.take_zero, List.drop_succ_cons, List.drop_zero, Nat.zero_add, Nat.add_zero, Nat.zero_le, Nat.le_refl, decide_true, decide_false, Bool.not_true, Bool.not_false, stepW, opE, intV, parV, boxE, loadE, partE, faddrE, fieldE, checkE, extractE, resultsE, resEs, resE, buildE, fillE, splice, if_true, if_false, Bool.false_eq_true, true_and, and_true, AV.cells, okA, oneA, fzs, fz, opTmp, Option.bind_some, Option.map_some, List.getElem?_cons_zero, List.getElem?_cons_succ, and_self, canonR, canon, canons, shift, shifts, pushAll, tys67, onceA, postU, postV, hok, hok1, s1, s2, s3, s4, optNat, Option.map_some, Option.map_none, len_sl, hne, ha, hcl, hcr]; repeat' ((first | refine guard_dec (fun _ => ?_) (fun _ => ?_) | refine cond_dec (fun _ => ?_) (fun _ => ?_) | refine guard_ndec (fun _ => ?_) (fun _ => ?_) | refine cond_ndec (fun _ => ?_) (fun _ => ?_) | refine guard_split (fun _ => ?_) (fun _ => ?_) | refine cond_split (fun _ => ?_) (fun _ => ?_)) <;> simp only [↓pre, post, ↓reduceIte, Nat.reduceEqDiff, Nat.reduceAdd, Nat.reduceMul, Nat.reduceSub, Nat.reduceLeDiff, Nat.reduceMod, Nat.reduceDiv, reduceCtorEq, Nat.reduceLT, Nat.reduceGT, Nat.reduceBEq, Option.isSome_some, ne_eq, Int.reduceEq, not_false_eq_true, bin_quo, bin_rem, List.length_cons, List.length_nil, List.map_cons, List.map_nil, List.append_nil, List.cons_append, List.nil_append, List.take_succ_cons, List.take_zero, List.drop_succ_cons, List.drop_zero, Nat.zero_add, Nat.add_zero, Nat.zero_le, Nat.le_refl, decide_true, decide_false, Bool.not_true, Bool.not_false, stepW, opE, intV, parV, boxE, loadE, partE, faddrE, fieldE, checkE, extractE, resultsE, resEs, resE, buildE, fillE, splice, if_true, if_false, Bool.false_eq_true, true_and, and_true, AV.cells, okA, oneA, fzs, fz, opTmp, Option.bind_some, Option.map_some, List.getElem?_cons_zero, List.getElem?_cons_succ, and_self, canonR, canon, canons, shift, shifts, pushAll, tys67, onceA, postU, postV, hok, hok1, s1, s2, s3, s4, optNat, Option.map_some, Option.map_none, len_sl, hne, ha, hcl, hcr, *])
  exact ⟨by rw [hm2n.out, hm1n.out], fun j hj => (hm2o.out j hj).trans (hm1o.out j hj), y, hm2.out⟩
end Go.Proofs.Ytenmbfplceeolaa

set_option linter.unusedVariables false
set_option linter.unusedSimpArgs false
set_option maxRecDepth 10000
namespace Go.Proofs.Ytenmbfplceeolaa
open Go Go.Tw Go.Proofs

/-! entries, plain: sorted, inserted, removed -/
theorem bl_irrefl : ∀ (a : List UInt8), Op.bytesLess a a = false
  | [] => by simp [Op.bytesLess]
  | x :: a => by simp [Op.bytesLess, bl_irrefl a]
theorem bl_tri : ∀ (a b : List UInt8), Op.bytesLess a b = false → a ≠ b → Op.bytesLess b a = true
  | [], [], _, h => absurd rfl h
  | [], _ :: _, h, _ => by simp [Op.bytesLess] at h
  | _ :: _, [], _, _ => by simp [Op.bytesLess]
  | x :: a, y :: b, h, hne => by
    simp only [Op.bytesLess, Bool.or_eq_false_iff, Bool.and_eq_false_iff, decide_eq_false_iff_not, beq_eq_false_iff_ne, ne_eq] at h
    obtain ⟨h1, h2⟩ := h
    simp only [Op.bytesLess, Bool.or_eq_true, Bool.and_eq_true, decide_eq_true_eq, beq_iff_eq]
    by_cases he : x = y
    · subst he
      rcases h2 with h2 | h2
      · exact absurd rfl h2
      · exact .inr ⟨rfl, bl_tri a b h2 (fun e => hne (by rw [e]))⟩
    · left
      rw [UInt8.lt_iff_toNat_lt] at h1 ⊢
      have : x.toNat ≠ y.toNat := fun e => he (UInt8.toNat_inj.1 e)
      omega
theorem less_irrefl (a : ByteArray) : lessB a a = false := bl_irrefl _
theorem less_tri {a b : ByteArray} (h : lessB a b = false) (hne : a ≠ b) : lessB b a = true := bl_tri _ _ h (fun e => hne (ba_ext.mp e))
def lt2 (d e : Ent) : Prop := lessB d.1 e.1 = true
theorem sorted_pw {l : List Ent} : sortedP l ↔ l.Pairwise lt2 := by
  rw [List.pairwise_iff_getElem]
  constructor
  · intro h i j hi hj hij
    exact h i j _ _ hij (List.getElem?_eq_getElem hi) (List.getElem?_eq_getElem hj)
  · intro h i j d e hij hd he
    obtain ⟨hi, rfl⟩ := List.getElem?_eq_some_iff.1 hd
    obtain ⟨hj, rfl⟩ := List.getElem?_eq_some_iff.1 he
    exact h i j hi hj hij
theorem ents_iff {w : Int} {l : List Ent} : entsOk w l = true ↔ (∀ e ∈ l, entOk w e = true) ∧ l.Pairwise lt2 := by
  constructor
  · intro h
    refine ⟨fun e he => ?_, sorted_pw.1 (sorted_of h)⟩
    obtain ⟨i, hi, rfl⟩ := List.mem_iff_getElem.1 he
    have := entsOk_of.1 h i hi
    unfold okAt at this
    rw [List.getElem?_eq_getElem hi] at this
    simp only [Bool.and_eq_true] at this
    exact this.1
  · rintro ⟨h1, h2⟩
    refine entsOk_of.2 fun i hi => ?_
    unfold okAt
    rw [List.getElem?_eq_getElem hi]
    simp only [Bool.and_eq_true]
    refine ⟨h1 _ (List.getElem_mem hi), ?_⟩
    cases i with
    | zero => rfl
    | succ i =>
      have := sorted_pw.2 h2 i (i + 1) _ _ (by omega) (List.getElem?_eq_getElem (by omega)) (List.getElem?_eq_getElem hi)
      simp only [List.getElem?_eq_getElem (show i < l.length by omega)]
      exact this
theorem pos_lt {l : List Ent} {s : ByteArray} : ∀ e ∈ l.take (posL l s), lessB e.1 s = true := by
  intro e he
  have : l.take (posL l s) = l.takeWhile fun e => lessB e.1 s := by
    unfold posL
    conv => lhs; rw [← List.takeWhile_append_dropWhile (p := fun e : Ent => lessB e.1 s) (l := l)]
    rw [List.takeWhile_append_dropWhile]
    conv => lhs; arg 2; rw [← List.takeWhile_append_dropWhile (p := fun e : Ent => lessB e.1 s) (l := l)]
    rw [List.take_left]
  rw [this] at he
  exact List.all_eq_true.1 List.all_takeWhile e he
theorem pos_ge {l : List Ent} {s : ByteArray} {e : Ent} (h : l[posL l s]? = some e) : lessB e.1 s = false := by
  have hd : l.dropWhile (fun e => lessB e.1 s) = l.drop (posL l s) := by
    unfold posL
    conv => rhs; arg 2; rw [← List.takeWhile_append_dropWhile (p := fun e : Ent => lessB e.1 s) (l := l)]
    rw [List.drop_left]
  have h2 : (l.dropWhile fun e => lessB e.1 s).head? = some e := by rw [hd, List.head?_drop, h]
  have := List.head?_dropWhile_not (fun e : Ent => lessB e.1 s) l
  rw [h2] at this
  simpa using this
theorem pos_gt {l : List Ent} {s : ByteArray} (hs : l.Pairwise lt2) (hn : isL l s = false) : ∀ e ∈ l.drop (posL l s), lessB s e.1 = true := by
  intro e he
  obtain ⟨i, hi, rfl⟩ := List.mem_iff_getElem.1 he
  rw [List.getElem_drop]
  rw [List.length_drop] at hi
  have hp : posL l s < l.length := by omega
  have h0 : lessB s l[posL l s].1 = true := by
    have h1 := pos_ge (List.getElem?_eq_getElem hp)
    refine less_tri h1 fun e => ?_
    unfold isL at hn
    rw [List.getElem?_eq_getElem hp] at hn
    simp [e] at hn
  by_cases h : i = 0
  · subst h; exact h0
  · exact less_trans h0 (List.pairwise_iff_getElem.1 hs (posL l s) (posL l s + i) hp (by omega) (by omega))
theorem ins_sorted {l : List Ent} {a : Ent} (hs : l.Pairwise lt2) (hn : isL l a.1 = false) : (insL l (posL l a.1) a).Pairwise lt2 := by
  unfold insL
  rw [List.pairwise_append]
  have h0 : (l.take (posL l a.1) ++ l.drop (posL l a.1)).Pairwise lt2 := by rw [List.take_append_drop]; exact hs
  rw [List.pairwise_append] at h0
  refine ⟨h0.1, List.pairwise_cons.2 ⟨fun e he => pos_gt hs hn e he, h0.2.1⟩, fun d hd e he => ?_⟩
  rcases List.mem_cons.1 he with rfl | he
  · exact pos_lt d hd
  · exact h0.2.2 d hd e he
theorem ins_ok {w : Int} {l : List Ent} {a : Ent} (h : entsOk w l = true) (ha : entOk w a = true) (hn : isL l a.1 = false) : entsOk w (insL l (posL l a.1) a) = true := by
  obtain ⟨h1, h2⟩ := ents_iff.1 h
  refine ents_iff.2 ⟨fun e he => ?_, ins_sorted h2 hn⟩
  unfold insL at he
  rcases List.mem_append.1 he with he | he
  · exact h1 e (List.mem_of_mem_take he)
  · rcases List.mem_cons.1 he with rfl | he
    · exact ha
    · exact h1 e (List.mem_of_mem_drop he)
theorem chk_ok {k r c w : Int} {l : List Ent} (h1 : mayB k r c w = true) (h2 : entsOk w l = true) : chk k r c w l = if mI k c < (longN l : Int) then 3 else 0 := by
  simp only [chk, h1, h2, if_true]
theorem call_one {P : Program} {d : Bool} {f : FuncId} {args : List AV} {m m' : Mem} {r : AV} {K : Out → Prop} (h : OSpec P f args m (fun v m1 => v = r ∧ m1 = m')) (hk : K ⟨r, m', none⟩) : callW P d f args m K := .inr (.inr (.inl ⟨r, m', h, hk⟩))
/-- the answers dir gives: a row of its own, or nil -/
def entsOwn (l : List Ent) (e : Int) : Res := ⟨.tup [.sl 0 0 l.length l.length false, intV e], [(EL, entCells l)]⟩
theorem delete_own2 {m : Mem} {b n i : Nat} {A B : List AV} {u u' : AV} (hb : m.at_ b = some ⟨A ++ [u, u'] ++ B, EL, .flat, true⟩) (hA : A.length = i * 2) (hB : B.length = (n - (i + 1)) * 2) (hi : i < n) (hn : n ≤ 1000000000) :
    OSpec Try.prog 67 [.sl b 0 n n false, intV i, intV ((i + 1 : Nat) : Int)] m (fun v m' => v = .sl b 0 (n - 1) (n - 1) false ∧ m' = m.put b (some ⟨A ++ B, EL, .flat, true⟩)) := by
  refine ospec_gets (delete_own hb hA hB hi hn) ?_
  rintro v m1 ⟨rfl, h1, h2, x, h3⟩
  have g := gets_cut (P := Try.prog) (j := (n - 1) * 2) (c' := n - 1) (n := n - 1) (c := n) (off := 0) (f := false) h3 (Nat.le_refl _) (by omega)
  refine ⟨_, _, g, rfl, mem_ext (by rw [put_next, put_next]; exact h1) fun j => ?_⟩
  have e : (A ++ B ++ x).take ((n - 1) * 2) = A ++ B := by
    rw [show (n - 1) * 2 = (A ++ B).length by simp [hA, hB]; omega, List.take_left]
  rw [e]
  by_cases hj : j = b
  · simp [put_at, hj]
  · simp [put_at, hj, h2 j hj]
theorem dir_Remove (k r c w : Int) (v : AV) (l : List Ent) (x : List AV) (s : ByteArray) (hv : RdSl v l.length (entCells l ++ x)) (hl : longN l ≤ 1000000000000) (hn : l.length ≤ 1000000000) (hs : s.size ≤ 1000000000000) : FSpec Try.prog 21 [parV k r c w, v, strV s] (if remE k r c w l s = 0 then entsOwn (remL l (posL l s)) 0 else entsRes [] (remE k r c w l s)) := by
  refine fspec_of_body follows Try.func21 (by unfold Try.f21; rfl) (by unfold Try.f21; simp) onceA (by unfold Try.f21; simp) (by kernel_rfl) ?_; unfold Try.f21
  have hp := hv.plain
  by_cases hc : namedE k r c w l s = 0
  · have hc0 : chk k r c w l = 0 := by
      unfold namedE at hc
      split at hc
      · assumption
      · exact hc
    have hso := sorted_of (chk_zero hc0).2.1
    replace hc0 := Hid.mk hc0
    cases hq : isL l s with
    | false =>
      have he : remE k r c w l s = 8 := by simp [remE, hc, hq]
      rw [if_neg (by rw [he]; decide), he]
      simp only [↓pre, post, ↓reduceIte, Nat.reduceEqDiff, Nat.reduceAdd, Nat.reduceMul, Nat.reduceSub, Nat.reduceLeDiff, Nat.reduceMod, Nat.reduceDiv, reduceCtorEq, Nat.reduceLT, Nat.reduceGT, Nat.reduceBEq, Option.isSome_some, ne_eq, Int.reduceEq, not_false_eq_true, bin_quo, bin_rem, List.length_cons, List.length_nil, List.map_cons, List.map_nil, List.append_nil, List.cons_append, List.nil_append, List.take_succ_cons, List.take_zero, List.drop_succ_cons, List.drop_zero, Nat.zero_add, Nat.add_zero, Nat.zero_le, Nat.le_refl, decide_true, decide_false, Bool.not_true, Bool.not_false, stepW, opE, intV, parV, boxE, loadE, partE, faddrE, fieldE, checkE, extractE, resultsE, resEs, resE, buildE, fillE, splice, if_true, if_false, Bool.false_eq_true, true_and, and_true, AV.cells, okA, oneA, fzs, fz, opTmp, Option.bind_some, Option.map_some, List.getElem?_cons_zero, List.getElem?_cons_succ, and_self, canonR, canon, canons, shift, shifts, pushAll, tys21, onceA, postU, hc, hq, boolV, Bool.false_eq_true, findT]; repeat' ((first | refine guard_dec (fun _ => ?_) (fun _ => ?_) | refine cond_dec (fun _ => ?_) (fun _ => ?_) | refine guard_ndec (fun _ => ?_) (fun _ => ?_) | refine cond_ndec (fun _ => ?_) (fun _ => ?_) | refine guard_split (fun _ => ?_) (fun _ => ?_) | refine cond_split (fun _ => ?_) (fun _ => ?_) | refine call_plain (dir_Find _ _ _ _ _ _ _ _ hv hl (by omega) hs) (by first | rfl | simp only [plains, plain, Bool.and_true, Bool.and_self, *]) ?_) <;> simp only [↓pre, post, ↓reduceIte, Nat.reduceEqDiff, Nat.reduceAdd, Nat.reduceMul, Nat.reduceSub, Nat.reduceLeDiff, Nat.reduceMod, Nat.reduceDiv, reduceCtorEq, Nat.reduceLT, Nat.reduceGT, Nat.reduceBEq, Option.isSome_some, ne_eq, Int.reduceEq, not_false_eq_true, bin_quo, bin_rem, List.length_cons, List.length_nil, List.map_cons, List.map_nil, List.append_nil, List.cons_append, List.nil_append, List.take_succ_cons, List.take_zero, List.drop_succ_cons, List.drop_zero, Nat.zero_add, Nat.add_zero, Nat.zero_le, Nat.le_refl, decide_true, decide_false, Bool.not_true, Bool.not_false, stepW, opE, intV, parV, boxE, loadE, partE, faddrE, fieldE, checkE, extractE, resultsE, resEs, resE, buildE, fillE, splice, if_true, if_false, Bool.false_eq_true, true_and, and_true, AV.cells, okA, oneA, fzs, fz, opTmp, Option.bind_some, Option.map_some, List.getElem?_cons_zero, List.getElem?_cons_succ, and_self, canonR, canon, canons, shift, shifts, pushAll, tys21, onceA, postU, hc, hq, boolV, Bool.false_eq_true, findT, *])
      rfl
    | true =>
      have he : remE k r c w l s = 0 := by simp [remE, hc, hq]
      rw [if_pos he]
      have hlt : posL l s < l.length := by
        unfold isL at hq
        split at hq
        · rename_i d hd; exact (List.getElem?_eq_some_iff.1 hd).1
        · cases hq
      have w1 := wrap_succ (n := posL l s) (by omega)
      replace hso := Hid.mk hso
      have hcl : l.length * 2 ≤ (entCells l ++ x).length := by rw [List.length_append, entCells_len]; omega
      have htk : (entCells l ++ x).take (l.length * 2) = entCells l := by rw [entCells_take l x _ (Nat.le_refl _), List.take_length]
      simp only [↓pre, post, ↓reduceIte, Nat.reduceEqDiff, Nat.reduceAdd, Nat.reduceMul, Nat.reduceSub, Nat.reduceLeDiff, Nat.reduceMod, Nat.reduceDiv, reduceCtorEq, Nat.reduceLT, Nat.reduceGT, Nat.reduceBEq, Option.isSome_some, ne_eq, Int.reduceEq, not_false_eq_true, bin_quo, bin_rem, List.length_cons, List.length_nil, List.map_cons, List.map_nil, List.append_nil, List.cons_append, List.nil_append, List.take_succ_cons, List.take_zero, List.drop_succ_cons, List.drop_zero, Nat.zero_add, Nat.add_zero, Nat.zero_le, Nat.le_refl, decide_true, decide_false, Bool.not_true, Bool.not_false, stepW, opE, intV, parV, boxE, loadE, partE, faddrE, fieldE, checkE, extractE, resultsE, resEs, resE, buildE, fillE, splice, if_true, if_false, Bool.false_eq_true, true_and, and_true, AV.cells, okA, oneA, fzs, fz, opTmp, Option.bind_some, Option.map_some, List.getElem?_cons_zero, List.getElem?_cons_succ, and_self, canonR, canon, canons, shift, shifts, pushAll, tys21, onceA, postU, postV, hc, hq, boolV, findT, w1]; repeat' ((first | refine guard_dec (fun _ => ?_) (fun _ => ?_) | refine cond_dec (fun _ => ?_) (fun _ => ?_) | refine guard_ndec (fun _ => ?_) (fun _ => ?_) | refine cond_ndec (fun _ => ?_) (fun _ => ?_) | refine guard_split (fun _ => ?_) (fun _ => ?_) | refine cond_split (fun _ => ?_) (fun _ => ?_) | refine call_plain (dir_Find _ _ _ _ _ _ _ _ hv hl (by omega) hs) (by first | rfl | simp only [plains, plain, Bool.and_true, Bool.and_self, *]) ?_ | refine call_plain (dir_search _ _ _ _ hv (by omega) hso.out) (by first | rfl | simp only [plains, plain, Bool.and_true, Bool.and_self, *]) ?_ | refine call_plain (clone_tree hv (by omega) hn hcl) (by first | rfl | simp only [plains, plain, Bool.and_true, Bool.and_self, *]) ?_) <;> simp only [↓pre, post, ↓reduceIte, Nat.reduceEqDiff, Nat.reduceAdd, Nat.reduceMul, Nat.reduceSub, Nat.reduceLeDiff, Nat.reduceMod, Nat.reduceDiv, reduceCtorEq, Nat.reduceLT, Nat.reduceGT, Nat.reduceBEq, Option.isSome_some, ne_eq, Int.reduceEq, not_false_eq_true, bin_quo, bin_rem, List.length_cons, List.length_nil, List.map_cons, List.map_nil, List.append_nil, List.cons_append, List.nil_append, List.take_succ_cons, List.take_zero, List.drop_succ_cons, List.drop_zero, Nat.zero_add, Nat.add_zero, Nat.zero_le, Nat.le_refl, decide_true, decide_false, Bool.not_true, Bool.not_false, stepW, opE, intV, parV, boxE, loadE, partE, faddrE, fieldE, checkE, extractE, resultsE, resEs, resE, buildE, fillE, splice, if_true, if_false, Bool.false_eq_true, true_and, and_true, AV.cells, okA, oneA, fzs, fz, opTmp, Option.bind_some, Option.map_some, List.getElem?_cons_zero, List.getElem?_cons_succ, and_self, canonR, canon, canons, shift, shifts, pushAll, tys21, onceA, postU, postV, hc, hq, boolV, findT, w1, *])
      obtain ⟨t, z, hsr⟩ : ∃ t z, l[posL l s]? = some (t, z) := ⟨_, _, List.getElem?_eq_getElem hlt⟩
      have hsplit : entCells l = entCells (l.take (posL l s)) ++ [strV t, intV z] ++ entCells (l.drop (posL l s + 1)) := by
        have : l = l.take (posL l s) ++ (t, z) :: l.drop (posL l s + 1) := by
          conv => lhs; rw [← List.take_append_drop (posL l s) l]
          congr 1
          rw [List.drop_eq_getElem_cons hlt]
          congr 1
          have := List.getElem?_eq_getElem hlt
          rw [hsr] at this
          exact (Option.some.inj this).symm
        conv => lhs; rw [this]
        rw [entCells_app]
        simp [entCells]
      have hrem : (remL l (posL l s)).length = l.length - 1 := by simp [remL]; omega
      refine call_one (delete_own2 (m := Mem.empty.push ⟨entCells l, EL, .flat, true⟩) (b := 0) (A := entCells (l.take (posL l s))) (B := entCells (l.drop (posL l s + 1))) (u := strV t) (u' := intV z) (by rw [hsplit]; rfl) (by rw [entCells_len, List.length_take]; omega) (by rw [entCells_len, List.length_drop]) hlt hn) ?_
      simp only [↓pre, post, ↓reduceIte, Nat.reduceEqDiff, Nat.reduceAdd, Nat.reduceMul, Nat.reduceSub, Nat.reduceLeDiff, Nat.reduceMod, Nat.reduceDiv, reduceCtorEq, Nat.reduceLT, Nat.reduceGT, Nat.reduceBEq, Option.isSome_some, ne_eq, Int.reduceEq, not_false_eq_true, bin_quo, bin_rem, List.length_cons, List.length_nil, List.map_cons, List.map_nil, List.append_nil, List.cons_append, List.nil_append, List.take_succ_cons, List.take_zero, List.drop_succ_cons, List.drop_zero, Nat.zero_add, Nat.add_zero, Nat.zero_le, Nat.le_refl, decide_true, decide_false, Bool.not_true, Bool.not_false, stepW, opE, intV, parV, boxE, loadE, partE, faddrE, fieldE, checkE, extractE, resultsE, resEs, resE, buildE, fillE, splice, if_true, if_false, Bool.false_eq_true, true_and, and_true, AV.cells, okA, oneA, fzs, fz, opTmp, Option.bind_some, Option.map_some, List.getElem?_cons_zero, List.getElem?_cons_succ, and_self, canonR, canon, canons, shift, shifts, pushAll, tys21, onceA, postU, postV, boolV]
      rw [← hrem]
      simp only [Mem.empty, put_at, push_at, entsOwn, if_true, entCells_app, remL, intV]
      rfl
  · have he : remE k r c w l s = namedE k r c w l s := by simp [remE, hc]
    rw [if_neg (by rw [he]; exact hc), he]
    simp only [↓pre, post, ↓reduceIte, Nat.reduceEqDiff, Nat.reduceAdd, Nat.reduceMul, Nat.reduceSub, Nat.reduceLeDiff, Nat.reduceMod, Nat.reduceDiv, reduceCtorEq, Nat.reduceLT, Nat.reduceGT, Nat.reduceBEq, Option.isSome_some, ne_eq, Int.reduceEq, not_false_eq_true, bin_quo, bin_rem, List.length_cons, List.length_nil, List.map_cons, List.map_nil, List.append_nil, List.cons_append, List.nil_append, List.take_succ_cons, List.take_zero, List.drop_succ_cons, List.drop_zero, Nat.zero_add, Nat.add_zero, Nat.zero_le, Nat.le_refl, decide_true, decide_false, Bool.not_true, Bool.not_false, stepW, opE, intV, parV, boxE, loadE, partE, faddrE, fieldE, checkE, extractE, resultsE, resEs, resE, buildE, fillE, splice, if_true, if_false, Bool.false_eq_true, true_and, and_true, AV.cells, okA, oneA, fzs, fz, opTmp, Option.bind_some, Option.map_some, List.getElem?_cons_zero, List.getElem?_cons_succ, and_self, canonR, canon, canons, shift, shifts, pushAll, tys21, onceA, postU, hc, boolV, findT]; repeat' ((first | refine guard_dec (fun _ => ?_) (fun _ => ?_) | refine cond_dec (fun _ => ?_) (fun _ => ?_) | refine guard_ndec (fun _ => ?_) (fun _ => ?_) | refine cond_ndec (fun _ => ?_) (fun _ => ?_) | refine guard_split (fun _ => ?_) (fun _ => ?_) | refine cond_split (fun _ => ?_) (fun _ => ?_) | refine call_plain (dir_Find _ _ _ _ _ _ _ _ hv hl (by omega) hs) (by first | rfl | simp only [plains, plain, Bool.and_true, Bool.and_self, *]) ?_) <;> simp only [↓pre, post, ↓reduceIte, Nat.reduceEqDiff, Nat.reduceAdd, Nat.reduceMul, Nat.reduceSub, Nat.reduceLeDiff, Nat.reduceMod, Nat.reduceDiv, reduceCtorEq, Nat.reduceLT, Nat.reduceGT, Nat.reduceBEq, Option.isSome_some, ne_eq, Int.reduceEq, not_false_eq_true, bin_quo, bin_rem, List.length_cons, List.length_nil, List.map_cons, List.map_nil, List.append_nil, List.cons_append, List.nil_append, List.take_succ_cons, List.take_zero, List.drop_succ_cons, List.drop_zero, Nat.zero_add, Nat.add_zero, Nat.zero_le, Nat.le_refl, decide_true, decide_false, Bool.not_true, Bool.not_false, stepW, opE, intV, parV, boxE, loadE, partE, faddrE, fieldE, checkE, extractE, resultsE, resEs, resE, buildE, fillE, splice, if_true, if_false, Bool.false_eq_true, true_and, and_true, AV.cells, okA, oneA, fzs, fz, opTmp, Option.bind_some, Option.map_some, List.getElem?_cons_zero, List.getElem?_cons_succ, and_self, canonR, canon, canons, shift, shifts, pushAll, tys21, onceA, postU, hc, boolV, findT, *])
    rfl
theorem ins_len (l : List Ent) (p : Nat) (a : Ent) : (insL l p a).length = l.length + 1 := by simp [insL]; omega
theorem insC_ents (l : List Ent) (p : Nat) (hp : p ≤ l.length) (s : ByteArray) (z : Int) : insC (entCells l) p [strV s, intV z] = entCells (insL l p (s, z)) := by
  have h1 := entCells_take l [] p hp
  have h2 := entCells_drop l [] p hp
  rw [List.append_nil] at h1 h2
  rw [insC, h1, h2, insL, entCells_app]
  simp [entCells]
/-- what Clone and Insert come to -/
theorem add_tail (k r c w : Int) (l : List Ent) (m : Mem) (hl : longN l ≤ 1000000000000) (hn : l.length ≤ 1000000000) {b : Nat} (hb : m.at_ b = some ⟨entCells l, EL, .flat, true⟩) (hlen : 0 < l.length) : ∃ av, lends 3 m [parV k r c w, .sl b 0 l.length l.length false] = some [parV k r c w, av] ∧ FSpec Try.prog 31 [parV k r c w, av] ⟨intV (chk k r c w l), []⟩ := by
  refine ⟨.tree l.length l.length (entCells l) false, ?_, dir_Check _ _ _ _ _ l [] ⟨.inr (.inr ⟨_, _, by rw [List.append_nil], Nat.le_refl _⟩)⟩ hl (by omega)⟩
  have h1 := (plain_lend (m := m) 3 (parV k r c w) rfl).1
  unfold lends
  rw [h1]
  unfold lends
  unfold lends
  unfold lend
  simp [hb]
theorem dir_Add (k r c w : Int) (v : AV) (l : List Ent) (x : List AV) (s : ByteArray) (z : Int) (hv : RdSl v l.length (entCells l ++ x)) (hl : longN l ≤ 100000000000) (hn : l.length ≤ 100000000) (hs : s.size ≤ 100000000000) : FSpec Try.prog 18 [parV k r c w, v, .agg [strV s, intV z]] (if addE k r c w l (s, z) = 0 then entsOwn (insL l (posL l s) (s, z)) 0 else entsRes [] (addE k r c w l (s, z))) := by
  refine fspec_of_body follows Try.func18 (by unfold Try.f18; rfl) (by unfold Try.f18; simp) onceA (by unfold Try.f18; simp) (by kernel_rfl) ?_; unfold Try.f18
  have hp := hv.plain
  by_cases hc : chk k r c w l = 0
  · have hck := chk_zero hc
    replace hck := Hid.mk hck
    cases ho : entOk w (s, z) with
    | false =>
      have he : addE k r c w l (s, z) = 220 := by simp [addE, hc, ho]
      rw [if_neg (by rw [he]; decide), he]
      simp only [↓pre, post, ↓reduceIte, Nat.reduceEqDiff, Nat.reduceAdd, Nat.reduceMul, Nat.reduceSub, Nat.reduceLeDiff, Nat.reduceMod, Nat.reduceDiv, reduceCtorEq, Nat.reduceLT, Nat.reduceGT, Nat.reduceBEq, Option.isSome_some, ne_eq, Int.reduceEq, not_false_eq_true, bin_quo, bin_rem, List.length_cons, List.length_nil, List.map_cons, List.map_nil, List.append_nil, List.cons_append, List.nil_append, List.take_succ_cons, List.take_zero, List.drop_succ_cons, List.drop_zero, Nat.zero_add, Nat.add_zero, Nat.zero_le, Nat.le_refl, decide_true, decide_false, Bool.not_true, Bool.not_false, stepW, opE, intV, parV, boxE, loadE, partE, faddrE, fieldE, checkE, extractE, resultsE, resEs, resE, buildE, fillE, splice, if_true, if_false, Bool.false_eq_true, true_and, and_true, AV.cells, okA, oneA, fzs, fz, opTmp, Option.bind_some, Option.map_some, List.getElem?_cons_zero, List.getElem?_cons_succ, and_self, canonR, canon, canons, shift, shifts, pushAll, tys18, onceA, postU, hc, ho, boolV]; repeat' ((first | refine guard_dec (fun _ => ?_) (fun _ => ?_) | refine cond_dec (fun _ => ?_) (fun _ => ?_) | refine guard_ndec (fun _ => ?_) (fun _ => ?_) | refine cond_ndec (fun _ => ?_) (fun _ => ?_) | refine guard_split (fun _ => ?_) (fun _ => ?_) | refine cond_split (fun _ => ?_) (fun _ => ?_) | refine call_plain (dir_Check _ _ _ _ _ _ _ hv (by omega) (by omega)) (by first | rfl | simp only [plains, plain, Bool.and_true, Bool.and_self, *]) ?_ | refine call_plain (dir_may _ _ _ _ _ _ (by omega)) (by first | rfl | simp only [plains, plain, Bool.and_true, Bool.and_self, *]) ?_) <;> simp only [↓pre, post, ↓reduceIte, Nat.reduceEqDiff, Nat.reduceAdd, Nat.reduceMul, Nat.reduceSub, Nat.reduceLeDiff, Nat.reduceMod, Nat.reduceDiv, reduceCtorEq, Nat.reduceLT, Nat.reduceGT, Nat.reduceBEq, Option.isSome_some, ne_eq, Int.reduceEq, not_false_eq_true, bin_quo, bin_rem, List.length_cons, List.length_nil, List.map_cons, List.map_nil, List.append_nil, List.cons_append, List.nil_append, List.take_succ_cons, List.take_zero, List.drop_succ_cons, List.drop_zero, Nat.zero_add, Nat.add_zero, Nat.zero_le, Nat.le_refl, decide_true, decide_false, Bool.not_true, Bool.not_false, stepW, opE, intV, parV, boxE, loadE, partE, faddrE, fieldE, checkE, extractE, resultsE, resEs, resE, buildE, fillE, splice, if_true, if_false, Bool.false_eq_true, true_and, and_true, AV.cells, okA, oneA, fzs, fz, opTmp, Option.bind_some, Option.map_some, List.getElem?_cons_zero, List.getElem?_cons_succ, and_self, canonR, canon, canons, shift, shifts, pushAll, tys18, onceA, postU, hc, ho, boolV, *])
      rfl
    | true =>
      have hso := sorted_of hck.out.2.1
      replace hso := Hid.mk hso
      cases hq : isL l s with
      | true =>
        have he : addE k r c w l (s, z) = 7 := by simp [addE, hc, ho, hq]
        rw [if_neg (by rw [he]; decide), he]
        simp only [↓pre, post, ↓reduceIte, Nat.reduceEqDiff, Nat.reduceAdd, Nat.reduceMul, Nat.reduceSub, Nat.reduceLeDiff, Nat.reduceMod, Nat.reduceDiv, reduceCtorEq, Nat.reduceLT, Nat.reduceGT, Nat.reduceBEq, Option.isSome_some, ne_eq, Int.reduceEq, not_false_eq_true, bin_quo, bin_rem, List.length_cons, List.length_nil, List.map_cons, List.map_nil, List.append_nil, List.cons_append, List.nil_append, List.take_succ_cons, List.take_zero, List.drop_succ_cons, List.drop_zero, Nat.zero_add, Nat.add_zero, Nat.zero_le, Nat.le_refl, decide_true, decide_false, Bool.not_true, Bool.not_false, stepW, opE, intV, parV, boxE, loadE, partE, faddrE, fieldE, checkE, extractE, resultsE, resEs, resE, buildE, fillE, splice, if_true, if_false, Bool.false_eq_true, true_and, and_true, AV.cells, okA, oneA, fzs, fz, opTmp, Option.bind_some, Option.map_some, List.getElem?_cons_zero, List.getElem?_cons_succ, and_self, canonR, canon, canons, shift, shifts, pushAll, tys18, onceA, postU, hc, ho, hq, boolV]; repeat' ((first | refine guard_dec (fun _ => ?_) (fun _ => ?_) | refine cond_dec (fun _ => ?_) (fun _ => ?_) | refine guard_ndec (fun _ => ?_) (fun _ => ?_) | refine cond_ndec (fun _ => ?_) (fun _ => ?_) | refine guard_split (fun _ => ?_) (fun _ => ?_) | refine cond_split (fun _ => ?_) (fun _ => ?_) | refine call_plain (dir_Check _ _ _ _ _ _ _ hv (by omega) (by omega)) (by first | rfl | simp only [plains, plain, Bool.and_true, Bool.and_self, *]) ?_ | refine call_plain (dir_may _ _ _ _ _ _ (by omega)) (by first | rfl | simp only [plains, plain, Bool.and_true, Bool.and_self, *]) ?_ | refine call_plain (dir_search _ _ _ _ hv (by omega) hso.out) (by first | rfl | simp only [plains, plain, Bool.and_true, Bool.and_self, *]) ?_) <;> simp only [↓pre, post, ↓reduceIte, Nat.reduceEqDiff, Nat.reduceAdd, Nat.reduceMul, Nat.reduceSub, Nat.reduceLeDiff, Nat.reduceMod, Nat.reduceDiv, reduceCtorEq, Nat.reduceLT, Nat.reduceGT, Nat.reduceBEq, Option.isSome_some, ne_eq, Int.reduceEq, not_false_eq_true, bin_quo, bin_rem, List.length_cons, List.length_nil, List.map_cons, List.map_nil, List.append_nil, List.cons_append, List.nil_append, List.take_succ_cons, List.take_zero, List.drop_succ_cons, List.drop_zero, Nat.zero_add, Nat.add_zero, Nat.zero_le, Nat.le_refl, decide_true, decide_false, Bool.not_true, Bool.not_false, stepW, opE, intV, parV, boxE, loadE, partE, faddrE, fieldE, checkE, extractE, resultsE, resEs, resE, buildE, fillE, splice, if_true, if_false, Bool.false_eq_true, true_and, and_true, AV.cells, okA, oneA, fzs, fz, opTmp, Option.bind_some, Option.map_some, List.getElem?_cons_zero, List.getElem?_cons_succ, and_self, canonR, canon, canons, shift, shifts, pushAll, tys18, onceA, postU, hc, ho, hq, boolV, *])
        rfl
      | false =>
        have hbT := fun m : Mem => buildT1a (P := Try.prog) (m := m) (t := 30) (a := .string s) (b := .int .i64 z) rfl rfl (by kernel_rfl) (by kernel_rfl)
        have hins := ins_ok hck.out.2.1 ho hq
        have hchk : chk k r c w (insL l (posL l s) (s, z)) = addE k r c w l (s, z) := by
          rw [chk_ok hck.out.1 hins]
          simp [addE, hc, ho, hq]
        have hll : longN (insL l (posL l s) (s, z)) ≤ 1000000000000 := by rw [longN_ins]; simp only; omega
        have hil := ins_len l (posL l s) (s, z)
        have hple := posL_le l s
        -- behind Insert
        replace hins := Hid.mk hins
        replace hll := Hid.mk hll
        replace hil := Hid.mk hil
        replace hple := Hid.mk hple
        by_cases hl0 : l = []
        · subst hl0
          have hple := hple.out
          have hp0 : posL [] s = 0 := rfl
          by_cases hvn : v = nilS
          · subst hvn
            simp only [↓pre, post, ↓reduceIte, Nat.reduceEqDiff, Nat.reduceAdd, Nat.reduceMul, Nat.reduceSub, Nat.reduceLeDiff, Nat.reduceMod, Nat.reduceDiv, reduceCtorEq, Nat.reduceLT, Nat.reduceGT, Nat.reduceBEq, Option.isSome_some, ne_eq, Int.reduceEq, not_false_eq_true, bin_quo, bin_rem, List.length_cons, List.length_nil, List.map_cons, List.map_nil, List.append_nil, List.cons_append, List.nil_append, List.take_succ_cons, List.take_zero, List.drop_succ_cons, List.drop_zero, Nat.zero_add, Nat.add_zero, Nat.zero_le, Nat.le_refl, decide_true, decide_false, Bool.not_true, Bool.not_false, stepW, opE, intV, parV, boxE, loadE, partE, faddrE, fieldE, checkE, extractE, resultsE, resEs, resE, buildE, fillE, splice, if_true, if_false, Bool.false_eq_true, true_and, and_true, AV.cells, okA, oneA, fzs, fz, opTmp, Option.bind_some, Option.map_some, List.getElem?_cons_zero, List.getElem?_cons_succ, and_self, canonR, canon, canons, shift, shifts, pushAll, tys18, onceA, postU, hc, ho, hq, boolV]; repeat' ((first | refine guard_dec (fun _ => ?_) (fun _ => ?_) | refine cond_dec (fun _ => ?_) (fun _ => ?_) | refine guard_ndec (fun _ => ?_) (fun _ => ?_) | refine cond_ndec (fun _ => ?_) (fun _ => ?_) | refine guard_split (fun _ => ?_) (fun _ => ?_) | refine cond_split (fun _ => ?_) (fun _ => ?_) | refine call_plain (dir_Check _ _ _ _ _ _ _ hv (by omega) (by omega)) (by first | rfl | simp only [plains, plain, Bool.and_true, Bool.and_self, *]) ?_ | refine call_plain (dir_may _ _ _ _ _ _ (by omega)) (by first | rfl | simp only [plains, plain, Bool.and_true, Bool.and_self, *]) ?_ | refine call_plain (dir_search _ _ _ _ hv (by omega) hso.out) (by first | rfl | simp only [plains, plain, Bool.and_true, Bool.and_self, *]) ?_ | refine call_plain (clone_nil) (by first | rfl | simp only [plains, plain, Bool.and_true, Bool.and_self, *]) ?_) <;> simp only [↓pre, post, ↓reduceIte, Nat.reduceEqDiff, Nat.reduceAdd, Nat.reduceMul, Nat.reduceSub, Nat.reduceLeDiff, Nat.reduceMod, Nat.reduceDiv, reduceCtorEq, Nat.reduceLT, Nat.reduceGT, Nat.reduceBEq, Option.isSome_some, ne_eq, Int.reduceEq, not_false_eq_true, bin_quo, bin_rem, List.length_cons, List.length_nil, List.map_cons, List.map_nil, List.append_nil, List.cons_append, List.nil_append, List.take_succ_cons, List.take_zero, List.drop_succ_cons, List.drop_zero, Nat.zero_add, Nat.add_zero, Nat.zero_le, Nat.le_refl, decide_true, decide_false, Bool.not_true, Bool.not_false, stepW, opE, intV, parV, boxE, loadE, partE, faddrE, fieldE, checkE, extractE, resultsE, resEs, resE, buildE, fillE, splice, if_true, if_false, Bool.false_eq_true, true_and, and_true, AV.cells, okA, oneA, fzs, fz, opTmp, Option.bind_some, Option.map_some, List.getElem?_cons_zero, List.getElem?_cons_succ, and_self, canonR, canon, canons, shift, shifts, pushAll, tys18, onceA, postU, hc, ho, hq, boolV, *])
            refine call_one (insert_nil (m := Mem.empty) (u := strV s) (u' := intV z)) ?_
            refine contW_fixed (by kernel_rfl) ?_
            obtain ⟨av, h1, h2⟩ := add_tail k r c w (insL [] (posL [] s) (s, z)) (Mem.empty.push ⟨[strV s, intV z], EL, .flat, true⟩) hll.out (by rw [hil.out]; simp) (b := Mem.empty.next) (by simp [push_at, insL, entCells]) (by rw [hil.out]; simp)
            rw [hil.out] at h1
            simp only [↓pre, post, ↓reduceIte, Nat.reduceEqDiff, Nat.reduceAdd, Nat.reduceMul, Nat.reduceSub, Nat.reduceLeDiff, Nat.reduceMod, Nat.reduceDiv, reduceCtorEq, Nat.reduceLT, Nat.reduceGT, Nat.reduceBEq, Option.isSome_some, ne_eq, Int.reduceEq, not_false_eq_true, bin_quo, bin_rem, List.length_cons, List.length_nil, List.map_cons, List.map_nil, List.append_nil, List.cons_append, List.nil_append, List.take_succ_cons, List.take_zero, List.drop_succ_cons, List.drop_zero, Nat.zero_add, Nat.add_zero, Nat.zero_le, Nat.le_refl, decide_true, decide_false, Bool.not_true, Bool.not_false, stepW, opE, intV, parV, boxE, loadE, partE, faddrE, fieldE, checkE, extractE, resultsE, resEs, resE, buildE, fillE, splice, if_true, if_false, Bool.false_eq_true, true_and, and_true, AV.cells, okA, oneA, fzs, fz, opTmp, Option.bind_some, Option.map_some, List.getElem?_cons_zero, List.getElem?_cons_succ, and_self, canonR, canon, canons, shift, shifts, pushAll, tys18, onceA, postU, postV, hc, ho, hq, boolV]
            rw [hchk] at h2
            refine call_lent h2 h1 rfl rfl ?_
            by_cases he : addE k r c w [] (s, z) = 0
            · rw [if_pos he]
              simp only [↓pre, post, ↓reduceIte, Nat.reduceEqDiff, Nat.reduceAdd, Nat.reduceMul, Nat.reduceSub, Nat.reduceLeDiff, Nat.reduceMod, Nat.reduceDiv, reduceCtorEq, Nat.reduceLT, Nat.reduceGT, Nat.reduceBEq, Option.isSome_some, ne_eq, Int.reduceEq, not_false_eq_true, bin_quo, bin_rem, List.length_cons, List.length_nil, List.map_cons, List.map_nil, List.append_nil, List.cons_append, List.nil_append, List.take_succ_cons, List.take_zero, List.drop_succ_cons, List.drop_zero, Nat.zero_add, Nat.add_zero, Nat.zero_le, Nat.le_refl, decide_true, decide_false, Bool.not_true, Bool.not_false, stepW, opE, intV, parV, boxE, loadE, partE, faddrE, fieldE, checkE, extractE, resultsE, resEs, resE, buildE, fillE, splice, if_true, if_false, Bool.false_eq_true, true_and, and_true, AV.cells, okA, oneA, fzs, fz, opTmp, Option.bind_some, Option.map_some, List.getElem?_cons_zero, List.getElem?_cons_succ, and_self, canonR, canon, canons, shift, shifts, pushAll, tys18, onceA, postU, postV, he, boolV]
              simp [Mem.empty, put_at, push_at, push_next, put_next, entsOwn, insL, entCells, intV, shift]
            · rw [if_neg he]
              simp only [↓pre, post, ↓reduceIte, Nat.reduceEqDiff, Nat.reduceAdd, Nat.reduceMul, Nat.reduceSub, Nat.reduceLeDiff, Nat.reduceMod, Nat.reduceDiv, reduceCtorEq, Nat.reduceLT, Nat.reduceGT, Nat.reduceBEq, Option.isSome_some, ne_eq, Int.reduceEq, not_false_eq_true, bin_quo, bin_rem, List.length_cons, List.length_nil, List.map_cons, List.map_nil, List.append_nil, List.cons_append, List.nil_append, List.take_succ_cons, List.take_zero, List.drop_succ_cons, List.drop_zero, Nat.zero_add, Nat.add_zero, Nat.zero_le, Nat.le_refl, decide_true, decide_false, Bool.not_true, Bool.not_false, stepW, opE, intV, parV, boxE, loadE, partE, faddrE, fieldE, checkE, extractE, resultsE, resEs, resE, buildE, fillE, splice, if_true, if_false, Bool.false_eq_true, true_and, and_true, AV.cells, okA, oneA, fzs, fz, opTmp, Option.bind_some, Option.map_some, List.getElem?_cons_zero, List.getElem?_cons_succ, and_self, canonR, canon, canons, shift, shifts, pushAll, tys18, onceA, postU, postV, he, boolV]; repeat' ((first | refine guard_dec (fun _ => ?_) (fun _ => ?_) | refine cond_dec (fun _ => ?_) (fun _ => ?_) | refine guard_ndec (fun _ => ?_) (fun _ => ?_) | refine cond_ndec (fun _ => ?_) (fun _ => ?_) | refine guard_split (fun _ => ?_) (fun _ => ?_) | refine cond_split (fun _ => ?_) (fun _ => ?_)) <;> simp only [↓pre, post, ↓reduceIte, Nat.reduceEqDiff, Nat.reduceAdd, Nat.reduceMul, Nat.reduceSub, Nat.reduceLeDiff, Nat.reduceMod, Nat.reduceDiv, reduceCtorEq, Nat.reduceLT, Nat.reduceGT, Nat.reduceBEq, Option.isSome_some, ne_eq, Int.reduceEq, not_false_eq_true, bin_quo, bin_rem, List.length_cons, List.length_nil, List.map_cons, List.map_nil, List.append_nil, List.cons_append, List.nil_append, List.take_succ_cons, List.take_zero, List.drop_succ_cons, List.drop_zero, Nat.zero_add, Nat.add_zero, Nat.zero_le, Nat.le_refl, decide_true, decide_false, Bool.not_true, Bool.not_false, stepW, opE, intV, parV, boxE, loadE, partE, faddrE, fieldE, checkE, extractE, resultsE, resEs, resE, buildE, fillE, splice, if_true, if_false, Bool.false_eq_true, true_and, and_true, AV.cells, okA, oneA, fzs, fz, opTmp, Option.bind_some, Option.map_some, List.getElem?_cons_zero, List.getElem?_cons_succ, and_self, canonR, canon, canons, shift, shifts, pushAll, tys18, onceA, postU, postV, he, boolV, *])
              rfl
          · simp only [↓pre, post, ↓reduceIte, Nat.reduceEqDiff, Nat.reduceAdd, Nat.reduceMul, Nat.reduceSub, Nat.reduceLeDiff, Nat.reduceMod, Nat.reduceDiv, reduceCtorEq, Nat.reduceLT, Nat.reduceGT, Nat.reduceBEq, Option.isSome_some, ne_eq, Int.reduceEq, not_false_eq_true, bin_quo, bin_rem, List.length_cons, List.length_nil, List.map_cons, List.map_nil, List.append_nil, List.cons_append, List.nil_append, List.take_succ_cons, List.take_zero, List.drop_succ_cons, List.drop_zero, Nat.zero_add, Nat.add_zero, Nat.zero_le, Nat.le_refl, decide_true, decide_false, Bool.not_true, Bool.not_false, stepW, opE, intV, parV, boxE, loadE, partE, faddrE, fieldE, checkE, extractE, resultsE, resEs, resE, buildE, fillE, splice, if_true, if_false, Bool.false_eq_true, true_and, and_true, AV.cells, okA, oneA, fzs, fz, opTmp, Option.bind_some, Option.map_some, List.getElem?_cons_zero, List.getElem?_cons_succ, and_self, canonR, canon, canons, shift, shifts, pushAll, tys18, onceA, postU, hc, ho, hq, boolV]; repeat' ((first | refine guard_dec (fun _ => ?_) (fun _ => ?_) | refine cond_dec (fun _ => ?_) (fun _ => ?_) | refine guard_ndec (fun _ => ?_) (fun _ => ?_) | refine cond_ndec (fun _ => ?_) (fun _ => ?_) | refine guard_split (fun _ => ?_) (fun _ => ?_) | refine cond_split (fun _ => ?_) (fun _ => ?_) | refine call_plain (dir_Check _ _ _ _ _ _ _ hv (by omega) (by omega)) (by first | rfl | simp only [plains, plain, Bool.and_true, Bool.and_self, *]) ?_ | refine call_plain (dir_may _ _ _ _ _ _ (by omega)) (by first | rfl | simp only [plains, plain, Bool.and_true, Bool.and_self, *]) ?_ | refine call_plain (dir_search _ _ _ _ hv (by omega) hso.out) (by first | rfl | simp only [plains, plain, Bool.and_true, Bool.and_self, *]) ?_ | refine call_plain (clone_zero hv hvn) (by first | rfl | simp only [plains, plain, Bool.and_true, Bool.and_self, *]) ?_) <;> simp only [↓pre, post, ↓reduceIte, Nat.reduceEqDiff, Nat.reduceAdd, Nat.reduceMul, Nat.reduceSub, Nat.reduceLeDiff, Nat.reduceMod, Nat.reduceDiv, reduceCtorEq, Nat.reduceLT, Nat.reduceGT, Nat.reduceBEq, Option.isSome_some, ne_eq, Int.reduceEq, not_false_eq_true, bin_quo, bin_rem, List.length_cons, List.length_nil, List.map_cons, List.map_nil, List.append_nil, List.cons_append, List.nil_append, List.take_succ_cons, List.take_zero, List.drop_succ_cons, List.drop_zero, Nat.zero_add, Nat.add_zero, Nat.zero_le, Nat.le_refl, decide_true, decide_false, Bool.not_true, Bool.not_false, stepW, opE, intV, parV, boxE, loadE, partE, faddrE, fieldE, checkE, extractE, resultsE, resEs, resE, buildE, fillE, splice, if_true, if_false, Bool.false_eq_true, true_and, and_true, AV.cells, okA, oneA, fzs, fz, opTmp, Option.bind_some, Option.map_some, List.getElem?_cons_zero, List.getElem?_cons_succ, and_self, canonR, canon, canons, shift, shifts, pushAll, tys18, onceA, postU, hc, ho, hq, boolV, *])
            refine contW_fixed (by kernel_rfl) ?_
            simp only [↓pre, post, ↓reduceIte, Nat.reduceEqDiff, Nat.reduceAdd, Nat.reduceMul, Nat.reduceSub, Nat.reduceLeDiff, Nat.reduceMod, Nat.reduceDiv, reduceCtorEq, Nat.reduceLT, Nat.reduceGT, Nat.reduceBEq, Option.isSome_some, ne_eq, Int.reduceEq, not_false_eq_true, bin_quo, bin_rem, List.length_cons, List.length_nil, List.map_cons, List.map_nil, List.append_nil, List.cons_append, List.nil_append, List.take_succ_cons, List.take_zero, List.drop_succ_cons, List.drop_zero, Nat.zero_add, Nat.add_zero, Nat.zero_le, Nat.le_refl, decide_true, decide_false, Bool.not_true, Bool.not_false, stepW, opE, intV, parV, boxE, loadE, partE, faddrE, fieldE, checkE, extractE, resultsE, resEs, resE, buildE, fillE, splice, if_true, if_false, Bool.false_eq_true, true_and, and_true, AV.cells, okA, oneA, fzs, fz, opTmp, Option.bind_some, Option.map_some, List.getElem?_cons_zero, List.getElem?_cons_succ, and_self, canonR, canon, canons, shift, shifts, pushAll, tys18, onceA, postU, postV, hc, ho, hq, boolV, hbT]
            refine call_one (insert_end_full (m := Mem.empty.push ⟨[], EL, .flat, true⟩) (b := 0) (n := 0) (cells := []) (u := strV s) (u' := intV z) rfl rfl (by omega)) ?_
            refine contW_fixed (by kernel_rfl) ?_
            obtain ⟨av, h1, h2⟩ := add_tail k r c w (insL [] (posL [] s) (s, z)) ((Mem.empty.push ⟨[], EL, .flat, true⟩).push ⟨insC [] 0 [strV s, intV z], EL, .flat, true⟩) hll.out (by rw [hil.out]; simp) (b := (Mem.empty.push ⟨[], EL, .flat, true⟩).next) (by simp [push_at, put_next, insL, insC, entCells]) (by rw [hil.out]; simp)
            rw [hil.out] at h1
            simp only [↓pre, post, ↓reduceIte, Nat.reduceEqDiff, Nat.reduceAdd, Nat.reduceMul, Nat.reduceSub, Nat.reduceLeDiff, Nat.reduceMod, Nat.reduceDiv, reduceCtorEq, Nat.reduceLT, Nat.reduceGT, Nat.reduceBEq, Option.isSome_some, ne_eq, Int.reduceEq, not_false_eq_true, bin_quo, bin_rem, List.length_cons, List.length_nil, List.map_cons, List.map_nil, List.append_nil, List.cons_append, List.nil_append, List.take_succ_cons, List.take_zero, List.drop_succ_cons, List.drop_zero, Nat.zero_add, Nat.add_zero, Nat.zero_le, Nat.le_refl, decide_true, decide_false, Bool.not_true, Bool.not_false, stepW, opE, intV, parV, boxE, loadE, partE, faddrE, fieldE, checkE, extractE, resultsE, resEs, resE, buildE, fillE, splice, if_true, if_false, Bool.false_eq_true, true_and, and_true, AV.cells, okA, oneA, fzs, fz, opTmp, Option.bind_some, Option.map_some, List.getElem?_cons_zero, List.getElem?_cons_succ, and_self, canonR, canon, canons, shift, shifts, pushAll, tys18, onceA, postU, postV, hc, ho, hq, boolV]
            rw [hchk] at h2
            refine call_lent h2 h1 rfl rfl ?_
            by_cases he : addE k r c w [] (s, z) = 0
            · rw [if_pos he]
              simp only [↓pre, post, ↓reduceIte, Nat.reduceEqDiff, Nat.reduceAdd, Nat.reduceMul, Nat.reduceSub, Nat.reduceLeDiff, Nat.reduceMod, Nat.reduceDiv, reduceCtorEq, Nat.reduceLT, Nat.reduceGT, Nat.reduceBEq, Option.isSome_some, ne_eq, Int.reduceEq, not_false_eq_true, bin_quo, bin_rem, List.length_cons, List.length_nil, List.map_cons, List.map_nil, List.append_nil, List.cons_append, List.nil_append, List.take_succ_cons, List.take_zero, List.drop_succ_cons, List.drop_zero, Nat.zero_add, Nat.add_zero, Nat.zero_le, Nat.le_refl, decide_true, decide_false, Bool.not_true, Bool.not_false, stepW, opE, intV, parV, boxE, loadE, partE, faddrE, fieldE, checkE, extractE, resultsE, resEs, resE, buildE, fillE, splice, if_true, if_false, Bool.false_eq_true, true_and, and_true, AV.cells, okA, oneA, fzs, fz, opTmp, Option.bind_some, Option.map_some, List.getElem?_cons_zero, List.getElem?_cons_succ, and_self, canonR, canon, canons, shift, shifts, pushAll, tys18, onceA, postU, postV, he, boolV]
              simp [Mem.empty, put_at, push_at, push_next, put_next, entsOwn, insL, insC, entCells, intV, shift]
            · rw [if_neg he]
              simp only [↓pre, post, ↓reduceIte, Nat.reduceEqDiff, Nat.reduceAdd, Nat.reduceMul, Nat.reduceSub, Nat.reduceLeDiff, Nat.reduceMod, Nat.reduceDiv, reduceCtorEq, Nat.reduceLT, Nat.reduceGT, Nat.reduceBEq, Option.isSome_some, ne_eq, Int.reduceEq, not_false_eq_true, bin_quo, bin_rem, List.length_cons, List.length_nil, List.map_cons, List.map_nil, List.append_nil, List.cons_append, List.nil_append, List.take_succ_cons, List.take_zero, List.drop_succ_cons, List.drop_zero, Nat.zero_add, Nat.add_zero, Nat.zero_le, Nat.le_refl, decide_true, decide_false, Bool.not_true, Bool.not_false, stepW, opE, intV, parV, boxE, loadE, partE, faddrE, fieldE, checkE, extractE, resultsE, resEs, resE, buildE, fillE, splice, if_true, if_false, Bool.false_eq_true, true_and, and_true, AV.cells, okA, oneA, fzs, fz, opTmp, Option.bind_some, Option.map_some, List.getElem?_cons_zero, List.getElem?_cons_succ, and_self, canonR, canon, canons, shift, shifts, pushAll, tys18, onceA, postU, postV, he, boolV]; repeat' ((first | refine guard_dec (fun _ => ?_) (fun _ => ?_) | refine cond_dec (fun _ => ?_) (fun _ => ?_) | refine guard_ndec (fun _ => ?_) (fun _ => ?_) | refine cond_ndec (fun _ => ?_) (fun _ => ?_) | refine guard_split (fun _ => ?_) (fun _ => ?_) | refine cond_split (fun _ => ?_) (fun _ => ?_)) <;> simp only [↓pre, post, ↓reduceIte, Nat.reduceEqDiff, Nat.reduceAdd, Nat.reduceMul, Nat.reduceSub, Nat.reduceLeDiff, Nat.reduceMod, Nat.reduceDiv, reduceCtorEq, Nat.reduceLT, Nat.reduceGT, Nat.reduceBEq, Option.isSome_some, ne_eq, Int.reduceEq, not_false_eq_true, bin_quo, bin_rem, List.length_cons, List.length_nil, List.map_cons, List.map_nil, List.append_nil, List.cons_append, List.nil_append, List.take_succ_cons, List.take_zero, List.drop_succ_cons, List.drop_zero, Nat.zero_add, Nat.add_zero, Nat.zero_le, Nat.le_refl, decide_true, decide_false, Bool.not_true, Bool.not_false, stepW, opE, intV, parV, boxE, loadE, partE, faddrE, fieldE, checkE, extractE, resultsE, resEs, resE, buildE, fillE, splice, if_true, if_false, Bool.false_eq_true, true_and, and_true, AV.cells, okA, oneA, fzs, fz, opTmp, Option.bind_some, Option.map_some, List.getElem?_cons_zero, List.getElem?_cons_succ, and_self, canonR, canon, canons, shift, shifts, pushAll, tys18, onceA, postU, postV, he, boolV, *])
              rfl
        · have hpos : 0 < l.length := by
            cases l with
            | nil => exact absurd rfl hl0
            | cons _ _ => simp
          have hcl : l.length * 2 ≤ (entCells l ++ x).length := by rw [List.length_append, entCells_len]; omega
          have htk : (entCells l ++ x).take (l.length * 2) = entCells l := by rw [entCells_take l x _ (Nat.le_refl _), List.take_length]
          replace hl0 := Hid.mk hl0
          simp only [↓pre, post, ↓reduceIte, Nat.reduceEqDiff, Nat.reduceAdd, Nat.reduceMul, Nat.reduceSub, Nat.reduceLeDiff, Nat.reduceMod, Nat.reduceDiv, reduceCtorEq, Nat.reduceLT, Nat.reduceGT, Nat.reduceBEq, Option.isSome_some, ne_eq, Int.reduceEq, not_false_eq_true, bin_quo, bin_rem, List.length_cons, List.length_nil, List.map_cons, List.map_nil, List.append_nil, List.cons_append, List.nil_append, List.take_succ_cons, List.take_zero, List.drop_succ_cons, List.drop_zero, Nat.zero_add, Nat.add_zero, Nat.zero_le, Nat.le_refl, decide_true, decide_false, Bool.not_true, Bool.not_false, stepW, opE, intV, parV, boxE, loadE, partE, faddrE, fieldE, checkE, extractE, resultsE, resEs, resE, buildE, fillE, splice, if_true, if_false, Bool.false_eq_true, true_and, and_true, AV.cells, okA, oneA, fzs, fz, opTmp, Option.bind_some, Option.map_some, List.getElem?_cons_zero, List.getElem?_cons_succ, and_self, canonR, canon, canons, shift, shifts, pushAll, tys18, onceA, postU, hc, ho, hq, boolV]; repeat' ((first | refine guard_dec (fun _ => ?_) (fun _ => ?_) | refine cond_dec (fun _ => ?_) (fun _ => ?_) | refine guard_ndec (fun _ => ?_) (fun _ => ?_) | refine cond_ndec (fun _ => ?_) (fun _ => ?_) | refine guard_split (fun _ => ?_) (fun _ => ?_) | refine cond_split (fun _ => ?_) (fun _ => ?_) | refine call_plain (dir_Check _ _ _ _ _ _ _ hv (by omega) (by omega)) (by first | rfl | simp only [plains, plain, Bool.and_true, Bool.and_self, *]) ?_ | refine call_plain (dir_may _ _ _ _ _ _ (by omega)) (by first | rfl | simp only [plains, plain, Bool.and_true, Bool.and_self, *]) ?_ | refine call_plain (dir_search _ _ _ _ hv (by omega) hso.out) (by first | rfl | simp only [plains, plain, Bool.and_true, Bool.and_self, *]) ?_ | refine call_plain (clone_tree hv hpos (by omega) hcl) (by first | rfl | simp only [plains, plain, Bool.and_true, Bool.and_self, *]) ?_) <;> simp only [↓pre, post, ↓reduceIte, Nat.reduceEqDiff, Nat.reduceAdd, Nat.reduceMul, Nat.reduceSub, Nat.reduceLeDiff, Nat.reduceMod, Nat.reduceDiv, reduceCtorEq, Nat.reduceLT, Nat.reduceGT, Nat.reduceBEq, Option.isSome_some, ne_eq, Int.reduceEq, not_false_eq_true, bin_quo, bin_rem, List.length_cons, List.length_nil, List.map_cons, List.map_nil, List.append_nil, List.cons_append, List.nil_append, List.take_succ_cons, List.take_zero, List.drop_succ_cons, List.drop_zero, Nat.zero_add, Nat.add_zero, Nat.zero_le, Nat.le_refl, decide_true, decide_false, Bool.not_true, Bool.not_false, stepW, opE, intV, parV, boxE, loadE, partE, faddrE, fieldE, checkE, extractE, resultsE, resEs, resE, buildE, fillE, splice, if_true, if_false, Bool.false_eq_true, true_and, and_true, AV.cells, okA, oneA, fzs, fz, opTmp, Option.bind_some, Option.map_some, List.getElem?_cons_zero, List.getElem?_cons_succ, and_self, canonR, canon, canons, shift, shifts, pushAll, tys18, onceA, postU, hc, ho, hq, boolV, *])
          refine contW_fixed (by kernel_rfl) ?_
          simp only [↓pre, post, ↓reduceIte, Nat.reduceEqDiff, Nat.reduceAdd, Nat.reduceMul, Nat.reduceSub, Nat.reduceLeDiff, Nat.reduceMod, Nat.reduceDiv, reduceCtorEq, Nat.reduceLT, Nat.reduceGT, Nat.reduceBEq, Option.isSome_some, ne_eq, Int.reduceEq, not_false_eq_true, bin_quo, bin_rem, List.length_cons, List.length_nil, List.map_cons, List.map_nil, List.append_nil, List.cons_append, List.nil_append, List.take_succ_cons, List.take_zero, List.drop_succ_cons, List.drop_zero, Nat.zero_add, Nat.add_zero, Nat.zero_le, Nat.le_refl, decide_true, decide_false, Bool.not_true, Bool.not_false, stepW, opE, intV, parV, boxE, loadE, partE, faddrE, fieldE, checkE, extractE, resultsE, resEs, resE, buildE, fillE, splice, if_true, if_false, Bool.false_eq_true, true_and, and_true, AV.cells, okA, oneA, fzs, fz, opTmp, Option.bind_some, Option.map_some, List.getElem?_cons_zero, List.getElem?_cons_succ, and_self, canonR, canon, canons, shift, shifts, pushAll, tys18, onceA, postU, postV, hc, ho, hq, boolV, htk, hbT]
          refine call_one (insert_own (b := 0) (n := l.length) (i := posL l s) (cells := entCells l) (u := strV s) (u' := intV z) (by simp [push_next, Mem.empty]) rfl (entCells_len l) hple.out (by omega)) ?_
          refine contW_fixed (by kernel_rfl) ?_
          rw [insC_ents l _ hple.out]
          obtain ⟨av, h1, h2⟩ := add_tail k r c w (insL l (posL l s) (s, z)) (((Mem.empty.push ⟨entCells l, EL, .flat, true⟩).put 0 none).push ⟨entCells (insL l (posL l s) (s, z)), EL, .flat, true⟩) hll.out (by rw [hil.out]; omega) (b := (Mem.empty.push ⟨entCells l, EL, .flat, true⟩).next) (by simp [push_at, put_next]) (by rw [hil.out]; omega)
          rw [hil.out] at h1
          simp only [↓pre, post, ↓reduceIte, Nat.reduceEqDiff, Nat.reduceAdd, Nat.reduceMul, Nat.reduceSub, Nat.reduceLeDiff, Nat.reduceMod, Nat.reduceDiv, reduceCtorEq, Nat.reduceLT, Nat.reduceGT, Nat.reduceBEq, Option.isSome_some, ne_eq, Int.reduceEq, not_false_eq_true, bin_quo, bin_rem, List.length_cons, List.length_nil, List.map_cons, List.map_nil, List.append_nil, List.cons_append, List.nil_append, List.take_succ_cons, List.take_zero, List.drop_succ_cons, List.drop_zero, Nat.zero_add, Nat.add_zero, Nat.zero_le, Nat.le_refl, decide_true, decide_false, Bool.not_true, Bool.not_false, stepW, opE, intV, parV, boxE, loadE, partE, faddrE, fieldE, checkE, extractE, resultsE, resEs, resE, buildE, fillE, splice, if_true, if_false, Bool.false_eq_true, true_and, and_true, AV.cells, okA, oneA, fzs, fz, opTmp, Option.bind_some, Option.map_some, List.getElem?_cons_zero, List.getElem?_cons_succ, and_self, canonR, canon, canons, shift, shifts, pushAll, tys18, onceA, postU, postV, hc, ho, hq, boolV]
          rw [hchk] at h2
          refine call_lent h2 h1 rfl rfl ?_
          by_cases he : addE k r c w l (s, z) = 0
          · rw [if_pos he]
            simp only [↓pre, post, ↓reduceIte, Nat.reduceEqDiff, Nat.reduceAdd, Nat.reduceMul, Nat.reduceSub, Nat.reduceLeDiff, Nat.reduceMod, Nat.reduceDiv, reduceCtorEq, Nat.reduceLT, Nat.reduceGT, Nat.reduceBEq, Option.isSome_some, ne_eq, Int.reduceEq, not_false_eq_true, bin_quo, bin_rem, List.length_cons, List.length_nil, List.map_cons, List.map_nil, List.append_nil, List.cons_append, List.nil_append, List.take_succ_cons, List.take_zero, List.drop_succ_cons, List.drop_zero, Nat.zero_add, Nat.add_zero, Nat.zero_le, Nat.le_refl, decide_true, decide_false, Bool.not_true, Bool.not_false, stepW, opE, intV, parV, boxE, loadE, partE, faddrE, fieldE, checkE, extractE, resultsE, resEs, resE, buildE, fillE, splice, if_true, if_false, Bool.false_eq_true, true_and, and_true, AV.cells, okA, oneA, fzs, fz, opTmp, Option.bind_some, Option.map_some, List.getElem?_cons_zero, List.getElem?_cons_succ, and_self, canonR, canon, canons, shift, shifts, pushAll, tys18, onceA, postU, postV, he, boolV]
            simp [Mem.empty, put_at, push_at, push_next, put_next, entsOwn, hil.out, intV, shift]
          · rw [if_neg he]
            simp only [↓pre, post, ↓reduceIte, Nat.reduceEqDiff, Nat.reduceAdd, Nat.reduceMul, Nat.reduceSub, Nat.reduceLeDiff, Nat.reduceMod, Nat.reduceDiv, reduceCtorEq, Nat.reduceLT, Nat.reduceGT, Nat.reduceBEq, Option.isSome_some, ne_eq, Int.reduceEq, not_false_eq_true, bin_quo, bin_rem, List.length_cons, List.length_nil, List.map_cons, List.map_nil, List.append_nil, List.cons_append, List.nil_append, List.take_succ_cons, List.take_zero, List.drop_succ_cons, List.drop_zero, Nat.zero_add, Nat.add_zero, Nat.zero_le, Nat.le_refl, decide_true, decide_false, Bool.not_true, Bool.not_false, stepW, opE, intV, parV, boxE, loadE, partE, faddrE, fieldE, checkE, extractE, resultsE, resEs, resE, buildE, fillE, splice, if_true, if_false, Bool.false_eq_true, true_and, and_true, AV.cells, okA, oneA, fzs, fz, opTmp, Option.bind_some, Option.map_some, List.getElem?_cons_zero, List.getElem?_cons_succ, and_self, canonR, canon, canons, shift, shifts, pushAll, tys18, onceA, postU, postV, he, boolV]; repeat' ((first | refine guard_dec (fun _ => ?_) (fun _ => ?_) | refine cond_dec (fun _ => ?_) (fun _ => ?_) | refine guard_ndec (fun _ => ?_) (fun _ => ?_) | refine cond_ndec (fun _ => ?_) (fun _ => ?_) | refine guard_split (fun _ => ?_) (fun _ => ?_) | refine cond_split (fun _ => ?_) (fun _ => ?_)) <;> simp only [↓pre, post, ↓reduceIte, Nat.reduceEqDiff, Nat.reduceAdd, Nat.reduceMul, Nat.reduceSub, Nat.reduceLeDiff, Nat.reduceMod, Nat.reduceDiv, reduceCtorEq, Nat.reduceLT, Nat.reduceGT, Nat.reduceBEq, Option.isSome_some, ne_eq, Int.reduceEq, not_false_eq_true, bin_quo, bin_rem, List.length_cons, List.length_nil, List.map_cons, List.map_nil, List.append_nil, List.cons_append, List.nil_append, List.take_succ_cons, List.take_zero, List.drop_succ_cons, List.drop_zero, Nat.zero_add, Nat.add_zero, Nat.zero_le, Nat.le_refl, decide_true, decide_false, Bool.not_true, Bool.not_false, stepW, opE, intV, parV, boxE, loadE, partE, faddrE, fieldE, checkE, extractE, resultsE, resEs, resE, buildE, fillE, splice, if_true, if_false, Bool.false_eq_true, true_and, and_true, AV.cells, okA, oneA, fzs, fz, opTmp, Option.bind_some, Option.map_some, List.getElem?_cons_zero, List.getElem?_cons_succ, and_self, canonR, canon, canons, shift, shifts, pushAll, tys18, onceA, postU, postV, he, boolV, *])
            rfl
  · have he : addE k r c w l (s, z) = chk k r c w l := by simp [addE, hc]
    rw [if_neg (by rw [he]; exact hc), he]
    simp only [↓pre, post, ↓reduceIte, Nat.reduceEqDiff, Nat.reduceAdd, Nat.reduceMul, Nat.reduceSub, Nat.reduceLeDiff, Nat.reduceMod, Nat.reduceDiv, reduceCtorEq, Nat.reduceLT, Nat.reduceGT, Nat.reduceBEq, Option.isSome_some, ne_eq, Int.reduceEq, not_false_eq_true, bin_quo, bin_rem, List.length_cons, List.length_nil, List.map_cons, List.map_nil, List.append_nil, List.cons_append, List.nil_append, List.take_succ_cons, List.take_zero, List.drop_succ_cons, List.drop_zero, Nat.zero_add, Nat.add_zero, Nat.zero_le, Nat.le_refl, decide_true, decide_false, Bool.not_true, Bool.not_false, stepW, opE, intV, parV, boxE, loadE, partE, faddrE, fieldE, checkE, extractE, resultsE, resEs, resE, buildE, fillE, splice, if_true, if_false, Bool.false_eq_true, true_and, and_true, AV.cells, okA, oneA, fzs, fz, opTmp, Option.bind_some, Option.map_some, List.getElem?_cons_zero, List.getElem?_cons_succ, and_self, canonR, canon, canons, shift, shifts, pushAll, tys18, onceA, postU, hc, boolV]; repeat' ((first | refine guard_dec (fun _ => ?_) (fun _ => ?_) | refine cond_dec (fun _ => ?_) (fun _ => ?_) | refine guard_ndec (fun _ => ?_) (fun _ => ?_) | refine cond_ndec (fun _ => ?_) (fun _ => ?_) | refine guard_split (fun _ => ?_) (fun _ => ?_) | refine cond_split (fun _ => ?_) (fun _ => ?_) | refine call_plain (dir_Check _ _ _ _ _ _ _ hv (by omega) (by omega)) (by first | rfl | simp only [plains, plain, Bool.and_true, Bool.and_self, *]) ?_) <;> simp only [↓pre, post, ↓reduceIte, Nat.reduceEqDiff, Nat.reduceAdd, Nat.reduceMul, Nat.reduceSub, Nat.reduceLeDiff, Nat.reduceMod, Nat.reduceDiv, reduceCtorEq, Nat.reduceLT, Nat.reduceGT, Nat.reduceBEq, Option.isSome_some, ne_eq, Int.reduceEq, not_false_eq_true, bin_quo, bin_rem, List.length_cons, List.length_nil, List.map_cons, List.map_nil, List.append_nil, List.cons_append, List.nil_append, List.take_succ_cons, List.take_zero, List.drop_succ_cons, List.drop_zero, Nat.zero_add, Nat.add_zero, Nat.zero_le, Nat.le_refl, decide_true, decide_false, Bool.not_true, Bool.not_false, stepW, opE, intV, parV, boxE, loadE, partE, faddrE, fieldE, checkE, extractE, resultsE, resEs, resE, buildE, fillE, splice, if_true, if_false, Bool.false_eq_true, true_and, and_true, AV.cells, okA, oneA, fzs, fz, opTmp, Option.bind_some, Option.map_some, List.getElem?_cons_zero, List.getElem?_cons_succ, and_self, canonR, canon, canons, shift, shifts, pushAll, tys18, onceA, postU, hc, boolV, *])
    rfl
end Go.Proofs.Ytenmbfplceeolaa

set_option linter.unusedVariables false
set_option linter.unusedSimpArgs false
set_option maxRecDepth 10000
namespace Go.Proofs.Ytenmbfplceeolaa
open Go Go.Tw Go.Proofs

def entOf (n : Nat) (r : List UInt8) : Ent := (⟨(r.take n).toArray⟩, (((r.getD n 0).toNat * 256 + (r.getD (n + 1) 0).toNat : Nat) : Int))
def parseL (bs : List UInt8) : Option (List Ent) := match bs with
  | [] => some []
  | n :: r => if h : r.length < n.toNat + 2 then none else (parseL (r.drop (n.toNat + 2))).map (entOf n.toNat r :: ·)
  termination_by bs.length
  decreasing_by simp only [List.length_drop, List.length_cons]; omega
theorem parse_nil : parseL [] = some [] := by rw [parseL]
theorem parse_bad {n : UInt8} {r : List UInt8} (h : r.length < n.toNat + 2) : parseL (n :: r) = none := by rw [parseL, dif_pos h]
theorem parse_cons {n : UInt8} {r : List UInt8} (h : ¬ r.length < n.toNat + 2) : parseL (n :: r) = (parseL (r.drop (n.toNat + 2))).map (entOf n.toNat r :: ·) := by rw [parseL, dif_neg h]
theorem entOf_size {n : Nat} {r : List UInt8} (h : n ≤ r.length) : (entOf n r).1.size = n := by
  simp [entOf, ByteArray.size, h]
theorem parse_enc : ∀ (k : Nat) (bs : List UInt8) (l : List Ent), bs.length ≤ k → parseL bs = some l → enc l = bs
  | _, [], l, _, h => by rw [parse_nil] at h; cases h; rfl
  | 0, _ :: _, _, hk, _ => by simp at hk
  | k + 1, n :: r, l, hk, h => by
    by_cases hb : r.length < n.toNat + 2
    · rw [parse_bad hb] at h; cases h
    · rw [parse_cons hb] at h
      obtain ⟨l', h1, rfl⟩ := Option.map_eq_some_iff.1 h
      have ih := parse_enc k _ l' (by simp only [List.length_drop, List.length_cons] at hk ⊢; omega) h1
      have e : enc (entOf n.toNat r :: l') = encE (entOf n.toNat r) ++ enc l' := by simp [enc]
      rw [e, ih, encE, entOf_size (by omega)]
      have hr : r = r.take n.toNat ++ r.getD n.toNat 0 :: r.getD (n.toNat + 1) 0 :: r.drop (n.toNat + 2) := by
        conv => lhs; rw [← List.take_append_drop n.toNat r]
        congr 1
        rw [List.drop_eq_getElem_cons (by omega), List.drop_eq_getElem_cons (by omega)]
        simp [List.getD_eq_getElem?_getD, List.getElem?_eq_getElem (show n.toNat < r.length by omega), List.getElem?_eq_getElem (show n.toNat + 1 < r.length by omega)]
      have ha := (r.getD n.toNat 0).toNat_lt
      have hb := (r.getD (n.toNat + 1) 0).toNat_lt
      simp only [entOf, Int.toNat_natCast]
      have e1 : ((r.getD n.toNat 0).toNat * 256 + (r.getD (n.toNat + 1) 0).toNat) / 256 = (r.getD n.toNat 0).toNat := by omega
      have e2 : UInt8.ofNat ((r.getD n.toNat 0).toNat * 256 + (r.getD (n.toNat + 1) 0).toNat) = r.getD (n.toNat + 1) 0 := by
        apply UInt8.toNat_inj.1
        simp only [UInt8.toNat_ofNat']
        omega
      rw [e1, e2]
      simp only [UInt8.ofNat_toNat, List.cons_append, List.append_assoc, List.nil_append]
      rw [← hr]
theorem parse_long {bs : List UInt8} {l : List Ent} (h : parseL bs = some l) : longN l = bs.length := by
  rw [← enc_len, parse_enc _ bs l (Nat.le_refl _) h]
theorem parse_num {bs : List UInt8} {l : List Ent} (h : parseL bs = some l) : l.length ≤ bs.length := by
  have := parse_long h
  have h2 : ∀ l : List Ent, l.length ≤ longN l := by
    intro l
    induction l with
    | nil => simp
    | cons a l ih => simp only [longN, List.map_cons, List.sum_cons, List.length_cons] at ih ⊢; omega
  have := h2 l
  omega
theorem enc_parse : ∀ (l : List Ent), (∀ e ∈ l, e.1.size < 256 ∧ 0 ≤ e.2 ∧ e.2 < 65536) → parseL (enc l) = some l
  | [], _ => parse_nil
  | e :: l, h => by
    obtain ⟨h1, h2, h3⟩ := h e (by simp)
    have ih := enc_parse l (fun d hd => h d (by simp [hd]))
    have e0 : enc (e :: l) = encE e ++ enc l := by simp [enc]
    have en : (UInt8.ofNat e.1.size).toNat = e.1.size := by simp; omega
    have hl := size_len e.1
    rw [e0, encE, List.cons_append, parse_cons (by simp only [en, List.length_append, List.length_cons, hl]; omega), en]
    have ed : (e.1.data.toList ++ [UInt8.ofNat (e.2.toNat / 256), UInt8.ofNat e.2.toNat] ++ enc l).drop (e.1.size + 2) = enc l := by
      rw [show e.1.size + 2 = (e.1.data.toList ++ [UInt8.ofNat (e.2.toNat / 256), UInt8.ofNat e.2.toNat]).length by simp only [List.length_append, hl, List.length_cons, List.length_nil], List.drop_left]
    rw [ed, ih]
    simp only [Option.map_some, Option.some.injEq, List.cons.injEq, and_true]
    obtain ⟨⟨a⟩, z⟩ := e
    simp only at h1 h2 h3 en hl ⊢
    have ez : (UInt8.ofNat (z.toNat / 256)).toNat * 256 + (UInt8.ofNat z.toNat).toNat = z.toNat := by
      simp only [UInt8.toNat_ofNat']; omega
    simp only [entOf, List.append_assoc]
    have g1 : (a.toList ++ ([UInt8.ofNat (z.toNat / 256), UInt8.ofNat z.toNat] ++ enc l)).getD (ByteArray.mk a).size 0 = UInt8.ofNat (z.toNat / 256) := by
      rw [List.getD_eq_getElem?_getD, List.getElem?_append_right (by omega), hl]; simp
    have g2 : (a.toList ++ ([UInt8.ofNat (z.toNat / 256), UInt8.ofNat z.toNat] ++ enc l)).getD ((ByteArray.mk a).size + 1) 0 = UInt8.ofNat z.toNat := by
      rw [List.getD_eq_getElem?_getD, List.getElem?_append_right (by omega), hl]; simp
    rw [g1, g2, ez, ← hl, List.take_left]
    simp
    omega
def prsE (k r c w : Int) (bs : List UInt8) : Int := if mayB k r c w = true then (if mI k c < (bs.length : Int) then 3 else (match parseL bs with | some l => (if entsOk w l = true then 0 else 220) | none => 220)) else 2
def prsL (bs : List UInt8) : List Ent := (parseL bs).getD []
end Go.Proofs.Ytenmbfplceeolaa

set_option linter.unusedVariables false
set_option linter.unusedSimpArgs false
set_option maxRecDepth 10000
namespace Go.Proofs.Ytenmbfplceeolaa
open Go Go.Tw Go.Proofs

theorem bytesA_drop (bs : List UInt8) (x : List AV) (k : Nat) (hk : k ≤ bs.length) : (bytesA bs ++ x).drop k = bytesA (bs.drop k) ++ x := by
  rw [List.drop_append_of_le_length (by simpa [bytesA] using hk)]
  simp [bytesA]
theorem name_conv {m : Mem} {v : AV} {n : Nat} {r : List UInt8} {x : List AV} (hv : RdSl v n (bytesA r ++ x)) (h : n ≤ r.length) : convE Try.prog m 29 9 v = some ⟨.val (.string (entOf n r).1), m, none⟩ := by
  have hr : r = r.take n ++ r.drop n := (List.take_append_drop n r).symm
  have e : bytesA r ++ x = (r.take n).map byteV ++ (bytesA (r.drop n) ++ x) := by
    conv => lhs; rw [hr]
    unfold bytesA
    rw [List.map_append, List.append_assoc]
  have hl : (r.take n).length = n := by rw [List.length_take]; omega
  have hv2 : RdSl v (r.take n).length ((r.take n).map byteV ++ (bytesA (r.drop n) ++ x)) := by rw [hl, ← e]; exact hv
  exact hv2.str (P := Try.prog) (m := m) (el := 5) (src := 29) (dst := 9) (by kernel_rfl) (by kernel_rfl) (by kernel_rfl) (by kernel_rfl)
theorem dir_Parse (k r c w : Int) (v : AV) (bs : List UInt8) (x : List AV) (hv : RdSl v bs.length (bytesA bs ++ x)) (hn : bs.length ≤ 1000000000) : FSpec Try.prog 19 [parV k r c w, v] (if prsE k r c w bs = 0 then entsRes (prsL bs) 0 else entsRes [] (prsE k r c w bs)) := by
  refine fspec_of_body follows Try.func19 (by unfold Try.f19; rfl) (by unfold Try.f19; simp) onceA (by unfold Try.f19; simp) (by kernel_rfl) ?_; unfold Try.f19
  have hp := hv.plain
  cases h : mayB k r c w with
  | false =>
    have he : prsE k r c w bs = 2 := by simp [prsE, h]
    rw [if_neg (by rw [he]; decide), he]
    simp only [↓pre, post, ↓reduceIte, Nat.reduceEqDiff, Nat.reduceAdd, Nat.reduceMul, Nat.reduceSub, Nat.reduceLeDiff, Nat.reduceMod, Nat.reduceDiv, reduceCtorEq, Nat.reduceLT, Nat.reduceGT, Nat.reduceBEq, Option.isSome_some, ne_eq, Int.reduceEq, not_false_eq_true, bin_quo, bin_rem, List.length_cons, List.length_nil, List.map_cons, List.map_nil, List.append_nil, List.cons_append, List.nil_append, List.take_succ_cons, List.take_zero, List.drop_succ_cons, List.drop_zero, Nat.zero_add, Nat.add_zero, Nat.zero_le, Nat.le_refl, decide_true, decide_false, Bool.not_true, Bool.not_false, stepW, opE, intV, parV, boxE, loadE, partE, faddrE, fieldE, checkE, extractE, resultsE, resEs, resE, buildE, fillE, splice, if_true, if_false, Bool.false_eq_true, true_and, and_true, AV.cells, okA, oneA, fzs, fz, opTmp, Option.bind_some, Option.map_some, List.getElem?_cons_zero, List.getElem?_cons_succ, and_self, canonR, canon, canons, shift, shifts, pushAll, tys19, onceA, postU, h, Bool.false_eq_true]; repeat' ((first | refine guard_dec (fun _ => ?_) (fun _ => ?_) | refine cond_dec (fun _ => ?_) (fun _ => ?_) | refine guard_ndec (fun _ => ?_) (fun _ => ?_) | refine cond_ndec (fun _ => ?_) (fun _ => ?_) | refine guard_split (fun _ => ?_) (fun _ => ?_) | refine cond_split (fun _ => ?_) (fun _ => ?_) | refine call_plain (layout_Most _ _ _ _) (by first | rfl | simp only [plains, plain, Bool.and_true, Bool.and_self, *]) ?_) <;> simp only [↓pre, post, ↓reduceIte, Nat.reduceEqDiff, Nat.reduceAdd, Nat.reduceMul, Nat.reduceSub, Nat.reduceLeDiff, Nat.reduceMod, Nat.reduceDiv, reduceCtorEq, Nat.reduceLT, Nat.reduceGT, Nat.reduceBEq, Option.isSome_some, ne_eq, Int.reduceEq, not_false_eq_true, bin_quo, bin_rem, List.length_cons, List.length_nil, List.map_cons, List.map_nil, List.append_nil, List.cons_append, List.nil_append, List.take_succ_cons, List.take_zero, List.drop_succ_cons, List.drop_zero, Nat.zero_add, Nat.add_zero, Nat.zero_le, Nat.le_refl, decide_true, decide_false, Bool.not_true, Bool.not_false, stepW, opE, intV, parV, boxE, loadE, partE, faddrE, fieldE, checkE, extractE, resultsE, resEs, resE, buildE, fillE, splice, if_true, if_false, Bool.false_eq_true, true_and, and_true, AV.cells, okA, oneA, fzs, fz, opTmp, Option.bind_some, Option.map_some, List.getElem?_cons_zero, List.getElem?_cons_succ, and_self, canonR, canon, canons, shift, shifts, pushAll, tys19, onceA, postU, h, Bool.false_eq_true, *])
    rfl
  | true =>
    by_cases hbig : mI k c < (bs.length : Int)
    · have he : prsE k r c w bs = 3 := by simp [prsE, h, hbig]
      rw [if_neg (by rw [he]; decide), he]
      simp only [↓pre, post, ↓reduceIte, Nat.reduceEqDiff, Nat.reduceAdd, Nat.reduceMul, Nat.reduceSub, Nat.reduceLeDiff, Nat.reduceMod, Nat.reduceDiv, reduceCtorEq, Nat.reduceLT, Nat.reduceGT, Nat.reduceBEq, Option.isSome_some, ne_eq, Int.reduceEq, not_false_eq_true, bin_quo, bin_rem, List.length_cons, List.length_nil, List.map_cons, List.map_nil, List.append_nil, List.cons_append, List.nil_append, List.take_succ_cons, List.take_zero, List.drop_succ_cons, List.drop_zero, Nat.zero_add, Nat.add_zero, Nat.zero_le, Nat.le_refl, decide_true, decide_false, Bool.not_true, Bool.not_false, stepW, opE, intV, parV, boxE, loadE, partE, faddrE, fieldE, checkE, extractE, resultsE, resEs, resE, buildE, fillE, splice, if_true, if_false, Bool.false_eq_true, true_and, and_true, AV.cells, okA, oneA, fzs, fz, opTmp, Option.bind_some, Option.map_some, List.getElem?_cons_zero, List.getElem?_cons_succ, and_self, canonR, canon, canons, shift, shifts, pushAll, tys19, onceA, postU, h, hv.len', hbig]; repeat' ((first | refine guard_dec (fun _ => ?_) (fun _ => ?_) | refine cond_dec (fun _ => ?_) (fun _ => ?_) | refine guard_ndec (fun _ => ?_) (fun _ => ?_) | refine cond_ndec (fun _ => ?_) (fun _ => ?_) | refine guard_split (fun _ => ?_) (fun _ => ?_) | refine cond_split (fun _ => ?_) (fun _ => ?_) | refine call_plain (layout_Most _ _ _ _) (by first | rfl | simp only [plains, plain, Bool.and_true, Bool.and_self, *]) ?_) <;> simp only [↓pre, post, ↓reduceIte, Nat.reduceEqDiff, Nat.reduceAdd, Nat.reduceMul, Nat.reduceSub, Nat.reduceLeDiff, Nat.reduceMod, Nat.reduceDiv, reduceCtorEq, Nat.reduceLT, Nat.reduceGT, Nat.reduceBEq, Option.isSome_some, ne_eq, Int.reduceEq, not_false_eq_true, bin_quo, bin_rem, List.length_cons, List.length_nil, List.map_cons, List.map_nil, List.append_nil, List.cons_append, List.nil_append, List.take_succ_cons, List.take_zero, List.drop_succ_cons, List.drop_zero, Nat.zero_add, Nat.add_zero, Nat.zero_le, Nat.le_refl, decide_true, decide_false, Bool.not_true, Bool.not_false, stepW, opE, intV, parV, boxE, loadE, partE, faddrE, fieldE, checkE, extractE, resultsE, resEs, resE, buildE, fillE, splice, if_true, if_false, Bool.false_eq_true, true_and, and_true, AV.cells, okA, oneA, fzs, fz, opTmp, Option.bind_some, Option.map_some, List.getElem?_cons_zero, List.getElem?_cons_succ, and_self, canonR, canon, canons, shift, shifts, pushAll, tys19, onceA, postU, h, hv.len', hbig, *])
      rfl
    · have hM : (bs.length : Int) ≤ mI k c := by omega
      replace hM := Hid.mk hM
      simp only [↓pre, post, ↓reduceIte, Nat.reduceEqDiff, Nat.reduceAdd, Nat.reduceMul, Nat.reduceSub, Nat.reduceLeDiff, Nat.reduceMod, Nat.reduceDiv, reduceCtorEq, Nat.reduceLT, Nat.reduceGT, Nat.reduceBEq, Option.isSome_some, ne_eq, Int.reduceEq, not_false_eq_true, bin_quo, bin_rem, List.length_cons, List.length_nil, List.map_cons, List.map_nil, List.append_nil, List.cons_append, List.nil_append, List.take_succ_cons, List.take_zero, List.drop_succ_cons, List.drop_zero, Nat.zero_add, Nat.add_zero, Nat.zero_le, Nat.le_refl, decide_true, decide_false, Bool.not_true, Bool.not_false, stepW, opE, intV, parV, boxE, loadE, partE, faddrE, fieldE, checkE, extractE, resultsE, resEs, resE, buildE, fillE, splice, if_true, if_false, Bool.false_eq_true, true_and, and_true, AV.cells, okA, oneA, fzs, fz, opTmp, Option.bind_some, Option.map_some, List.getElem?_cons_zero, List.getElem?_cons_succ, and_self, canonR, canon, canons, shift, shifts, pushAll, tys19, onceA, postU, h, hv.len', hbig]; repeat' ((first | refine guard_dec (fun _ => ?_) (fun _ => ?_) | refine cond_dec (fun _ => ?_) (fun _ => ?_) | refine guard_ndec (fun _ => ?_) (fun _ => ?_) | refine cond_ndec (fun _ => ?_) (fun _ => ?_) | refine guard_split (fun _ => ?_) (fun _ => ?_) | refine cond_split (fun _ => ?_) (fun _ => ?_) | refine call_plain (layout_Most _ _ _ _) (by first | rfl | simp only [plains, plain, Bool.and_true, Bool.and_self, *]) ?_) <;> simp only [↓pre, post, ↓reduceIte, Nat.reduceEqDiff, Nat.reduceAdd, Nat.reduceMul, Nat.reduceSub, Nat.reduceLeDiff, Nat.reduceMod, Nat.reduceDiv, reduceCtorEq, Nat.reduceLT, Nat.reduceGT, Nat.reduceBEq, Option.isSome_some, ne_eq, Int.reduceEq, not_false_eq_true, bin_quo, bin_rem, List.length_cons, List.length_nil, List.map_cons, List.map_nil, List.append_nil, List.cons_append, List.nil_append, List.take_succ_cons, List.take_zero, List.drop_succ_cons, List.drop_zero, Nat.zero_add, Nat.add_zero, Nat.zero_le, Nat.le_refl, decide_true, decide_false, Bool.not_true, Bool.not_false, stepW, opE, intV, parV, boxE, loadE, partE, faddrE, fieldE, checkE, extractE, resultsE, resEs, resE, buildE, fillE, splice, if_true, if_false, Bool.false_eq_true, true_and, and_true, AV.cells, okA, oneA, fzs, fz, opTmp, Option.bind_some, Option.map_some, List.getElem?_cons_zero, List.getElem?_cons_succ, and_self, canonR, canon, canons, shift, shifts, pushAll, tys19, onceA, postU, h, hv.len', hbig, *])
      rw [codeW_loop]
      refine loop_intro (fun n e m => ∃ (es : List Ent) (rest : List UInt8) (v' : AV) (y : List AV), rest.length = n ∧ e 1 = v' ∧ RdSl v' rest.length (bytesA rest ++ y) ∧ e 2 = .tptr 0 [intV k, intV r, intV c, intV w] ∧ Own m EL 2 (e 8) es.length (entCells es) ∧ parseL bs = (parseL rest).map (es ++ ·) ∧ longN es + rest.length = bs.length ∧ es.length ≤ longN es) bs.length ⟨[], bs, v, x, rfl, ?_, hv, ?_, ?_, ?_, ?_, ?_⟩ ?_
      · simp [Env.set, entryE]
      · simp [Env.set, intV]
      · simp [Env.set, entCells]
        exact own_nil
      · simp
      · simp [longN]
      · simp
      · rintro n e m ⟨es, rest, v', y, hi, e1, hv', e2, ho, hpar, hlen, hpl⟩
        have hp' := hv'.plain
        replace hpar := Hid.mk hpar
        replace hlen := Hid.mk hlen
        cases rest with
        | nil =>
          have z0 : ((0 : Nat) : Int) = 0 := rfl
          have hpr : parseL bs = some es := by rw [hpar.out, parse_nil]; simp
          have hle : chk k r c w es = if entsOk w es = true then 0 else 220 := by
            have h1 := parse_long hpr
            have h2 := hM.out
            simp only [chk, h, if_true]
            split
            · rw [if_neg (by omega)]
            · rfl
          have hpe : prsE k r c w bs = chk k r c w es := by
            rw [hle]
            simp [prsE, h, hbig, hpr]
          have hpL : prsL bs = es := by simp [prsL, hpr]
          have hnum := parse_num hpr
          have hlng := parse_long hpr
          replace hpr := Hid.mk hpr
          replace hle := Hid.mk hle
          replace hlng := Hid.mk hlng
          obtain ⟨av, hlend, hrd⟩ := own_lend2 ho (a := parV k r c w) rfl
          have hck := dir_Check k r c w av es [] (by rw [List.append_nil]; exact hrd) (by have := hlng.out; omega) (by omega)
          simp only [↓pre, post, ↓reduceIte, Nat.reduceEqDiff, Nat.reduceAdd, Nat.reduceMul, Nat.reduceSub, Nat.reduceLeDiff, Nat.reduceMod, Nat.reduceDiv, reduceCtorEq, Nat.reduceLT, Nat.reduceGT, Nat.reduceBEq, Option.isSome_some, ne_eq, Int.reduceEq, not_false_eq_true, bin_quo, bin_rem, List.length_cons, List.length_nil, List.map_cons, List.map_nil, List.append_nil, List.cons_append, List.nil_append, List.take_succ_cons, List.take_zero, List.drop_succ_cons, List.drop_zero, Nat.zero_add, Nat.add_zero, Nat.zero_le, Nat.le_refl, decide_true, decide_false, Bool.not_true, Bool.not_false, stepW, opE, intV, parV, boxE, loadE, partE, faddrE, fieldE, checkE, extractE, resultsE, resEs, resE, buildE, fillE, splice, if_true, if_false, Bool.false_eq_true, true_and, and_true, AV.cells, okA, oneA, fzs, fz, opTmp, Option.bind_some, Option.map_some, List.getElem?_cons_zero, List.getElem?_cons_succ, and_self, canonR, canon, canons, shift, shifts, pushAll, tys19, onceA, postU, e1, e2, hv'.len', z0]; repeat' ((first | refine guard_dec (fun _ => ?_) (fun _ => ?_) | refine cond_dec (fun _ => ?_) (fun _ => ?_) | refine guard_ndec (fun _ => ?_) (fun _ => ?_) | refine cond_ndec (fun _ => ?_) (fun _ => ?_) | refine guard_split (fun _ => ?_) (fun _ => ?_) | refine cond_split (fun _ => ?_) (fun _ => ?_)) <;> simp only [↓pre, post, ↓reduceIte, Nat.reduceEqDiff, Nat.reduceAdd, Nat.reduceMul, Nat.reduceSub, Nat.reduceLeDiff, Nat.reduceMod, Nat.reduceDiv, reduceCtorEq, Nat.reduceLT, Nat.reduceGT, Nat.reduceBEq, Option.isSome_some, ne_eq, Int.reduceEq, not_false_eq_true, bin_quo, bin_rem, List.length_cons, List.length_nil, List.map_cons, List.map_nil, List.append_nil, List.cons_append, List.nil_append, List.take_succ_cons, List.take_zero, List.drop_succ_cons, List.drop_zero, Nat.zero_add, Nat.add_zero, Nat.zero_le, Nat.le_refl, decide_true, decide_false, Bool.not_true, Bool.not_false, stepW, opE, intV, parV, boxE, loadE, partE, faddrE, fieldE, checkE, extractE, resultsE, resEs, resE, buildE, fillE, splice, if_true, if_false, Bool.false_eq_true, true_and, and_true, AV.cells, okA, oneA, fzs, fz, opTmp, Option.bind_some, Option.map_some, List.getElem?_cons_zero, List.getElem?_cons_succ, and_self, canonR, canon, canons, shift, shifts, pushAll, tys19, onceA, postU, e1, e2, hv'.len', z0, *])
          refine call_lent hck hlend rfl rfl ?_
          by_cases he : chk k r c w es = 0
          · rw [hpe, if_pos he, hpL]
            simp only [↓pre, post, ↓reduceIte, Nat.reduceEqDiff, Nat.reduceAdd, Nat.reduceMul, Nat.reduceSub, Nat.reduceLeDiff, Nat.reduceMod, Nat.reduceDiv, reduceCtorEq, Nat.reduceLT, Nat.reduceGT, Nat.reduceBEq, Option.isSome_some, ne_eq, Int.reduceEq, not_false_eq_true, bin_quo, bin_rem, List.length_cons, List.length_nil, List.map_cons, List.map_nil, List.append_nil, List.cons_append, List.nil_append, List.take_succ_cons, List.take_zero, List.drop_succ_cons, List.drop_zero, Nat.zero_add, Nat.add_zero, Nat.zero_le, Nat.le_refl, decide_true, decide_false, Bool.not_true, Bool.not_false, stepW, opE, intV, parV, boxE, loadE, partE, faddrE, fieldE, checkE, extractE, resultsE, resEs, resE, buildE, fillE, splice, if_true, if_false, Bool.false_eq_true, true_and, and_true, AV.cells, okA, oneA, fzs, fz, opTmp, Option.bind_some, Option.map_some, List.getElem?_cons_zero, List.getElem?_cons_succ, and_self, canonR, canon, canons, shift, shifts, pushAll, tys19, onceA, postU, e1, e2, he]; repeat' ((first | refine guard_dec (fun _ => ?_) (fun _ => ?_) | refine cond_dec (fun _ => ?_) (fun _ => ?_) | refine guard_ndec (fun _ => ?_) (fun _ => ?_) | refine cond_ndec (fun _ => ?_) (fun _ => ?_) | refine guard_split (fun _ => ?_) (fun _ => ?_) | refine cond_split (fun _ => ?_) (fun _ => ?_)) <;> simp only [↓pre, post, ↓reduceIte, Nat.reduceEqDiff, Nat.reduceAdd, Nat.reduceMul, Nat.reduceSub, Nat.reduceLeDiff, Nat.reduceMod, Nat.reduceDiv, reduceCtorEq, Nat.reduceLT, Nat.reduceGT, Nat.reduceBEq, Option.isSome_some, ne_eq, Int.reduceEq, not_false_eq_true, bin_quo, bin_rem, List.length_cons, List.length_nil, List.map_cons, List.map_nil, List.append_nil, List.cons_append, List.nil_append, List.take_succ_cons, List.take_zero, List.drop_succ_cons, List.drop_zero, Nat.zero_add, Nat.add_zero, Nat.zero_le, Nat.le_refl, decide_true, decide_false, Bool.not_true, Bool.not_false, stepW, opE, intV, parV, boxE, loadE, partE, faddrE, fieldE, checkE, extractE, resultsE, resEs, resE, buildE, fillE, splice, if_true, if_false, Bool.false_eq_true, true_and, and_true, AV.cells, okA, oneA, fzs, fz, opTmp, Option.bind_some, Option.map_some, List.getElem?_cons_zero, List.getElem?_cons_succ, and_self, canonR, canon, canons, shift, shifts, pushAll, tys19, onceA, postU, e1, e2, he, *])
            rw [own_canon ho]
            rfl
          · have he2 : chk k r c w es = 220 := by
              have := hle.out
              rw [this] at he ⊢
              split at he
              · exact absurd rfl he
              · rename_i hq; rw [if_neg hq]
            rw [hpe, if_neg he, he2]
            simp only [↓pre, post, ↓reduceIte, Nat.reduceEqDiff, Nat.reduceAdd, Nat.reduceMul, Nat.reduceSub, Nat.reduceLeDiff, Nat.reduceMod, Nat.reduceDiv, reduceCtorEq, Nat.reduceLT, Nat.reduceGT, Nat.reduceBEq, Option.isSome_some, ne_eq, Int.reduceEq, not_false_eq_true, bin_quo, bin_rem, List.length_cons, List.length_nil, List.map_cons, List.map_nil, List.append_nil, List.cons_append, List.nil_append, List.take_succ_cons, List.take_zero, List.drop_succ_cons, List.drop_zero, Nat.zero_add, Nat.add_zero, Nat.zero_le, Nat.le_refl, decide_true, decide_false, Bool.not_true, Bool.not_false, stepW, opE, intV, parV, boxE, loadE, partE, faddrE, fieldE, checkE, extractE, resultsE, resEs, resE, buildE, fillE, splice, if_true, if_false, Bool.false_eq_true, true_and, and_true, AV.cells, okA, oneA, fzs, fz, opTmp, Option.bind_some, Option.map_some, List.getElem?_cons_zero, List.getElem?_cons_succ, and_self, canonR, canon, canons, shift, shifts, pushAll, tys19, onceA, postU, e1, e2, he, he2]; repeat' ((first | refine guard_dec (fun _ => ?_) (fun _ => ?_) | refine cond_dec (fun _ => ?_) (fun _ => ?_) | refine guard_ndec (fun _ => ?_) (fun _ => ?_) | refine cond_ndec (fun _ => ?_) (fun _ => ?_) | refine guard_split (fun _ => ?_) (fun _ => ?_) | refine cond_split (fun _ => ?_) (fun _ => ?_)) <;> simp only [↓pre, post, ↓reduceIte, Nat.reduceEqDiff, Nat.reduceAdd, Nat.reduceMul, Nat.reduceSub, Nat.reduceLeDiff, Nat.reduceMod, Nat.reduceDiv, reduceCtorEq, Nat.reduceLT, Nat.reduceGT, Nat.reduceBEq, Option.isSome_some, ne_eq, Int.reduceEq, not_false_eq_true, bin_quo, bin_rem, List.length_cons, List.length_nil, List.map_cons, List.map_nil, List.append_nil, List.cons_append, List.nil_append, List.take_succ_cons, List.take_zero, List.drop_succ_cons, List.drop_zero, Nat.zero_add, Nat.add_zero, Nat.zero_le, Nat.le_refl, decide_true, decide_false, Bool.not_true, Bool.not_false, stepW, opE, intV, parV, boxE, loadE, partE, faddrE, fieldE, checkE, extractE, resultsE, resEs, resE, buildE, fillE, splice, if_true, if_false, Bool.false_eq_true, true_and, and_true, AV.cells, okA, oneA, fzs, fz, opTmp, Option.bind_some, Option.map_some, List.getElem?_cons_zero, List.getElem?_cons_succ, and_self, canonR, canon, canons, shift, shifts, pushAll, tys19, onceA, postU, e1, e2, he, he2, *])
            rfl
        | cons a q =>
          have ha := a.toNat_lt
          have hlq : (a :: q).length = q.length + 1 := rfl
          have w1 : IntKind.i64.wrap (a.toNat : Int) = (a.toNat : Int) := wrap_nat (by omega)
          have w2 : IntKind.i64.wrap ((a.toNat : Int) + 3) = ((a.toNat + 3 : Nat) : Int) := by rw [← wrap_nat (n := a.toNat + 3) (by omega)]; rfl
          have hne : ¬ (((q.length + 1 : Nat) : Int) = 0) := by omega
          have hb0 := byte_at (bs := a :: q) (x := y) (i := 0) (a := a) rfl
          have hlt0 : 0 < q.length + 1 := by omega
          have hq1 : q.length + 1 ≤ bs.length := by have := hlen.out; simp only [List.length_cons] at this; omega
          by_cases hbad : q.length < a.toNat + 2
          · have hbad' : ((q.length + 1 : Nat) : Int) < ((a.toNat + 3 : Nat) : Int) := by omega
            have he : prsE k r c w bs = 220 := by
              have h1 : parseL bs = none := by rw [hpar.out, parse_bad hbad]; rfl
              simp [prsE, h, hbig, h1]
            rw [if_neg (by rw [he]; decide), he]
            replace hlq := Hid.mk hlq
            simp only [↓pre, post, ↓reduceIte, Nat.reduceEqDiff, Nat.reduceAdd, Nat.reduceMul, Nat.reduceSub, Nat.reduceLeDiff, Nat.reduceMod, Nat.reduceDiv, reduceCtorEq, Nat.reduceLT, Nat.reduceGT, Nat.reduceBEq, Option.isSome_some, ne_eq, Int.reduceEq, not_false_eq_true, bin_quo, bin_rem, List.length_cons, List.length_nil, List.map_cons, List.map_nil, List.append_nil, List.cons_append, List.nil_append, List.take_succ_cons, List.take_zero, List.drop_succ_cons, List.drop_zero, Nat.zero_add, Nat.add_zero, Nat.zero_le, Nat.le_refl, decide_true, decide_false, Bool.not_true, Bool.not_false, stepW, opE, intV, parV, boxE, loadE, partE, faddrE, fieldE, checkE, extractE, resultsE, resEs, resE, buildE, fillE, splice, if_true, if_false, Bool.false_eq_true, true_and, and_true, AV.cells, okA, oneA, fzs, fz, opTmp, Option.bind_some, Option.map_some, List.getElem?_cons_zero, List.getElem?_cons_succ, and_self, canonR, canon, canons, shift, shifts, pushAll, tys19, onceA, postU, postV, e1, e2, hv'.len', hv'.addr', hne, hb0, hlt0, w1, w2, hbad']; repeat' ((first | refine guard_dec (fun _ => ?_) (fun _ => ?_) | refine cond_dec (fun _ => ?_) (fun _ => ?_) | refine guard_ndec (fun _ => ?_) (fun _ => ?_) | refine cond_ndec (fun _ => ?_) (fun _ => ?_) | refine guard_split (fun _ => ?_) (fun _ => ?_) | refine cond_split (fun _ => ?_) (fun _ => ?_)) <;> simp only [↓pre, post, ↓reduceIte, Nat.reduceEqDiff, Nat.reduceAdd, Nat.reduceMul, Nat.reduceSub, Nat.reduceLeDiff, Nat.reduceMod, Nat.reduceDiv, reduceCtorEq, Nat.reduceLT, Nat.reduceGT, Nat.reduceBEq, Option.isSome_some, ne_eq, Int.reduceEq, not_false_eq_true, bin_quo, bin_rem, List.length_cons, List.length_nil, List.map_cons, List.map_nil, List.append_nil, List.cons_append, List.nil_append, List.take_succ_cons, List.take_zero, List.drop_succ_cons, List.drop_zero, Nat.zero_add, Nat.add_zero, Nat.zero_le, Nat.le_refl, decide_true, decide_false, Bool.not_true, Bool.not_false, stepW, opE, intV, parV, boxE, loadE, partE, faddrE, fieldE, checkE, extractE, resultsE, resEs, resE, buildE, fillE, splice, if_true, if_false, Bool.false_eq_true, true_and, and_true, AV.cells, okA, oneA, fzs, fz, opTmp, Option.bind_some, Option.map_some, List.getElem?_cons_zero, List.getElem?_cons_succ, and_self, canonR, canon, canons, shift, shifts, pushAll, tys19, onceA, postU, postV, e1, e2, hv'.len', hv'.addr', hne, hb0, hlt0, w1, w2, hbad', *])
            rfl
          · have hbad' : ¬ ((q.length + 1 : Nat) : Int) < ((a.toNat + 3 : Nat) : Int) := by omega
            have w3 : IntKind.i64.wrap (1 + (a.toNat : Int)) = ((1 + a.toNat : Nat) : Int) := by rw [← wrap_nat (n := 1 + a.toNat) (by omega)]; rfl
            have w4 : IntKind.i64.wrap (2 + (a.toNat : Int)) = ((2 + a.toNat : Nat) : Int) := by rw [← wrap_nat (n := 2 + a.toNat) (by omega)]; rfl
            obtain ⟨v1, s1, r1⟩ := hv'.slice (P := Try.prog) (t := 29) (sz := 1) (lo := some 1) (hi := some (1 + a.toNat)) (by kernel_rfl) (by simp) (by simp only [Option.getD_some, hlq]; omega)
            obtain ⟨v2, s2, r2⟩ := hv'.slice (P := Try.prog) (t := 29) (sz := 1) (lo := some (a.toNat + 3)) (hi := none) (by kernel_rfl) (by simp only [Option.getD_some, Option.getD_none, hlq]; omega) (Nat.le_refl _)
            have r1' : RdSl v1 a.toNat (bytesA q ++ y) := by
              have e1 : (some (1 + a.toNat)).getD (a :: q).length - (some 1).getD 0 = a.toNat := by simp
              rw [e1] at r1
              simpa [bytesA] using r1
            have r2' : RdSl v2 (q.drop (a.toNat + 2)).length (bytesA (q.drop (a.toNat + 2)) ++ y) := by
              have e1 : (none : Option Nat).getD (a :: q).length - (some (a.toNat + 3)).getD 0 = (q.drop (a.toNat + 2)).length := by simp
              rw [e1] at r2
              simp only [Option.getD_some, Nat.mul_one] at r2
              rw [bytesA_drop (a :: q) y (a.toNat + 3) (by rw [hlq]; omega)] at r2
              exact r2
            have hcv := fun m : Mem => name_conv (m := m) r1' (by omega)
            have hi1 : q[a.toNat]? = some (q.getD a.toNat 0) := by rw [List.getD_eq_getElem?_getD, List.getElem?_eq_getElem (by omega)]; rfl
            have hi2 : q[a.toNat + 1]? = some (q.getD (a.toNat + 1) 0) := by rw [List.getD_eq_getElem?_getD, List.getElem?_eq_getElem (by omega)]; rfl
            have hb1 := byte_at (bs := a :: q) (x := y) (i := 1 + a.toNat) (a := q.getD a.toNat 0) (by rw [Nat.add_comm]; simpa using hi1)
            have hb2 := byte_at (bs := a :: q) (x := y) (i := 2 + a.toNat) (a := q.getD (a.toNat + 1) 0) (by rw [show 2 + a.toNat = a.toNat + 1 + 1 by omega]; simpa using hi2)
            have hlt1 : 1 + a.toNat < q.length + 1 := by omega
            have hlt2 : 2 + a.toNat < q.length + 1 := by omega
            generalize hh : q.getD a.toNat 0 = x1 at hb1 hi1
            generalize hl : q.getD (a.toNat + 1) 0 = x2 at hb2 hi2
            have hx1 := x1.toNat_lt
            have hx2 := x2.toNat_lt
            have w5 : IntKind.i64.wrap (x1.toNat : Int) = (x1.toNat : Int) := wrap_nat (by omega)
            have w6 : IntKind.i64.wrap (x2.toNat : Int) = (x2.toNat : Int) := wrap_nat (by omega)
            have w7 : IntKind.i64.wrap ((x1.toNat : Int) * 2 ^ min 8 64) = ((x1.toNat * 256 : Nat) : Int) := by
              rw [show ((x1.toNat : Int) * 2 ^ min 8 64) = ((x1.toNat * 256 : Nat) : Int) by simp]; exact wrap_nat (by omega)
            have w8 : borI .i64 ((x1.toNat * 256 : Nat) : Int) (x2.toNat : Int) = ((x1.toNat * 256 + x2.toNat : Nat) : Int) := by
              rw [borI_i64 (by omega) (by omega), or_add hx2]
            have hbT := fun (m : Mem) (s : ByteArray) (z : Int) => buildT1a (P := Try.prog) (m := m) (t := 30) (a := .string s) (b := .int .i64 z) rfl rfl (by kernel_rfl) (by kernel_rfl)
            have hok := fun m : Mem => hv'.slOk (P := Try.prog) (m := m) (t := 29)
            have hent : entOf a.toNat q = ((entOf a.toNat q).1, ((x1.toNat * 256 + x2.toNat : Nat) : Int)) := by rw [← hh, ← hl]; rfl
            replace hlq := Hid.mk hlq
            replace hh := Hid.mk hh
            replace hl := Hid.mk hl
            replace hi1 := Hid.mk hi1
            replace hi2 := Hid.mk hi2
            replace hent := Hid.mk hent
            replace ho := Hid.mk ho
            simp only [↓pre, post, ↓reduceIte, Nat.reduceEqDiff, Nat.reduceAdd, Nat.reduceMul, Nat.reduceSub, Nat.reduceLeDiff, Nat.reduceMod, Nat.reduceDiv, reduceCtorEq, Nat.reduceLT, Nat.reduceGT, Nat.reduceBEq, Option.isSome_some, ne_eq, Int.reduceEq, not_false_eq_true, bin_quo, bin_rem, List.length_cons, List.length_nil, List.map_cons, List.map_nil, List.append_nil, List.cons_append, List.nil_append, List.take_succ_cons, List.take_zero, List.drop_succ_cons, List.drop_zero, Nat.zero_add, Nat.add_zero, Nat.zero_le, Nat.le_refl, decide_true, decide_false, Bool.not_true, Bool.not_false, stepW, opE, intV, parV, boxE, loadE, partE, faddrE, fieldE, checkE, extractE, resultsE, resEs, resE, buildE, fillE, splice, if_true, if_false, Bool.false_eq_true, true_and, and_true, AV.cells, okA, oneA, fzs, fz, opTmp, Option.bind_some, Option.map_some, List.getElem?_cons_zero, List.getElem?_cons_succ, and_self, canonR, canon, canons, shift, shifts, pushAll, tys19, onceA, postU, postV, postX, e1, e2, hv'.len', hv'.addr', hne, hb0, hlt0, w1, w2, hbad', w3, w4, s1, s2, hok, hcv, hb1, hb2, hlt1, hlt2, w5, w6, w7, w8, IntKind.bits, optNat, Option.map_some, Option.map_none, Nat.mul_one, hbT]; repeat' ((first | refine guard_dec (fun _ => ?_) (fun _ => ?_) | refine cond_dec (fun _ => ?_) (fun _ => ?_) | refine guard_ndec (fun _ => ?_) (fun _ => ?_) | refine cond_ndec (fun _ => ?_) (fun _ => ?_) | refine guard_split (fun _ => ?_) (fun _ => ?_) | refine cond_split (fun _ => ?_) (fun _ => ?_)) <;> simp only [↓pre, post, ↓reduceIte, Nat.reduceEqDiff, Nat.reduceAdd, Nat.reduceMul, Nat.reduceSub, Nat.reduceLeDiff, Nat.reduceMod, Nat.reduceDiv, reduceCtorEq, Nat.reduceLT, Nat.reduceGT, Nat.reduceBEq, Option.isSome_some, ne_eq, Int.reduceEq, not_false_eq_true, bin_quo, bin_rem, List.length_cons, List.length_nil, List.map_cons, List.map_nil, List.append_nil, List.cons_append, List.nil_append, List.take_succ_cons, List.take_zero, List.drop_succ_cons, List.drop_zero, Nat.zero_add, Nat.add_zero, Nat.zero_le, Nat.le_refl, decide_true, decide_false, Bool.not_true, Bool.not_false, stepW, opE, intV, parV, boxE, loadE, partE, faddrE, fieldE, checkE, extractE, resultsE, resEs, resE, buildE, fillE, splice, if_true, if_false, Bool.false_eq_true, true_and, and_true, AV.cells, okA, oneA, fzs, fz, opTmp, Option.bind_some, Option.map_some, List.getElem?_cons_zero, List.getElem?_cons_succ, and_self, canonR, canon, canons, shift, shifts, pushAll, tys19, onceA, postU, postV, postX, e1, e2, hv'.len', hv'.addr', hne, hb0, hlt0, w1, w2, hbad', w3, w4, s1, s2, hok, hcv, hb1, hb2, hlt1, hlt2, w5, w6, w7, w8, IntKind.bits, optNat, Option.map_some, Option.map_none, Nat.mul_one, hbT, *])
            refine app_ents ho.out srcT1a rfl (by have := hlen.out; omega) (fun v3 m3 ho3 hn3 => ?_)
            refine contW_fixed (by kernel_rfl) ?_
            simp only [↓pre, post, ↓reduceIte, Nat.reduceEqDiff, Nat.reduceAdd, Nat.reduceMul, Nat.reduceSub, Nat.reduceLeDiff, Nat.reduceMod, Nat.reduceDiv, reduceCtorEq, Nat.reduceLT, Nat.reduceGT, Nat.reduceBEq, Option.isSome_some, ne_eq, Int.reduceEq, not_false_eq_true, bin_quo, bin_rem, List.length_cons, List.length_nil, List.map_cons, List.map_nil, List.append_nil, List.cons_append, List.nil_append, List.take_succ_cons, List.take_zero, List.drop_succ_cons, List.drop_zero, Nat.zero_add, Nat.add_zero, Nat.zero_le, Nat.le_refl, decide_true, decide_false, Bool.not_true, Bool.not_false, stepW, opE, intV, parV, boxE, loadE, partE, faddrE, fieldE, checkE, extractE, resultsE, resEs, resE, buildE, fillE, splice, if_true, if_false, Bool.false_eq_true, true_and, and_true, AV.cells, okA, oneA, fzs, fz, opTmp, Option.bind_some, Option.map_some, List.getElem?_cons_zero, List.getElem?_cons_succ, and_self, canonR, canon, canons, shift, shifts, pushAll, tys19, onceA, postU, postV, e1, e2, hok, w2, s2, optNat, Option.map_some, Option.map_none]
            have hsz := entOf_size (n := a.toNat) (r := q) (by omega)
            have hlng : longN (es ++ [entOf a.toNat q]) = longN es + (3 + a.toNat) := by
              rw [longN_app]
              simp [longN, hsz]
            refine ⟨n - (a.toNat + 3), by simp only [List.length_cons] at hi; omega, es ++ [entOf a.toNat q], q.drop (a.toNat + 2), v2, y, ?_, ?_, r2', ?_, ?_, ?_, ?_⟩
            · rw [List.length_drop]; simp only [List.length_cons] at hi; omega
            · simp [Env.set]
            · have hcells : entCells (es ++ [entOf a.toNat q]) = entCells es ++ [.val (.string (entOf a.toNat q).1), .val (.int .i64 ((x1.toNat * 256 + x2.toNat : Nat) : Int))] := by
                rw [entCells_app, hent.out]; simp [entCells, intV]
              rw [hcells, List.length_append]
              exact ho3
            · rw [hpar.out, parse_cons hbad]
              cases parseL (q.drop (a.toNat + 2)) <;> simp
            · rw [hlng, List.length_drop]
              have := hlen.out
              simp only [List.length_cons] at this
              omega
            · rw [hlng, List.length_append]
              simp only [List.length_cons, List.length_nil]
              omega
end Go.Proofs.Ytenmbfplceeolaa
