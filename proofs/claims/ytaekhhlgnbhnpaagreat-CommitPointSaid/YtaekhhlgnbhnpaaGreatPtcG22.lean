import Derived.WalkKit
import Derived.Laws.Bits64b
import Derived.Test.YtaekhhlgnbhnpaaGreatPtcG21
set_option linter.unusedVariables false
set_option linter.unusedSimpArgs false
set_option maxRecDepth 100000
namespace Go.Proofs.YtaekhhlgnbhnpaaGreat
open Go Go.Tw Go.Proofs Go.Gf
theorem fspec_val2 {P : Program} {f : FuncId} {a b c d : Value} (hc : callable P f = true) (h : ∀ w, Calls P f #[a, b] w fun e w' => e = .returned (.tuple #[c, d]) ∧ w' = w) : FSpec P f [.val a, .val b] ⟨.tup [.val c, .val d], []⟩ := by
 refine ⟨hc, fun w I vs hI hsz hv => ?_⟩
 have hvs : vs = #[a, b] := by
   simp only [VRs, VR] at hv
   obtain ⟨⟨u, h1, h2⟩, ⟨u', h3, h4⟩, _⟩ := hv
   subst h2
   subst h4
   match vs, hsz, h1, h3 with
   | ⟨[x, y]⟩, _, h1, h3 => simp at h1 h3; simp [h1, h3]
 subst hvs
 refine (h w).mono fun e w' hq => ?_
 obtain ⟨he, hw⟩ := hq
 subst hw
 exact ⟨_, I, noneR, he, by simp only [VR, VRs]; exact ⟨_, rfl, rfl, ⟨_, rfl, rfl⟩, ⟨_, rfl, rfl⟩, trivial⟩, ⟨fun b k g o h => by simp [pushAll, pushFrom, Mem.empty] at h, fun b b' k k' g o o' h => by simp [pushAll, pushFrom, Mem.empty] at h, hI, MRs.none⟩, Step.refl _ _ _ _⟩
theorem mask_u64 (a : Nat) (ha : a ≤ 32) : bits .and .u64 (a : Int) 4294967295 = (a : Int) := by
 have h := bits_and_u64_nat a 4294967295 (by omega) (by omega)
 have e : a &&& 4294967295 = a % 4294967296 := Nat.and_two_pow_sub_one_eq_mod a 32
 rw [e, Nat.mod_eq_of_lt (by omega)] at h
 exact h
theorem wrap_u64n (a : Nat) (ha : a ≤ 32) : IntKind.u64.wrap (a : Int) = (a : Int) := by rw [IntKind.wrap_u64]; omega
set_option maxHeartbeats 1000000 in
theorem calls_mul64 (n : Nat) (hn : n ≤ 32) (w : World) : Calls Tryz.prog 332 #[.int .u64 1, .int .u64 n] w fun e w' => e = .returned (.tuple #[.int .u64 0, .int .u64 n]) ∧ w' = w := by
 go_enter Tryz.func332, Tryz.ntmps332
 go_wp2
 have m1 : bits .and .u64 1 4294967295 = 1 := mask_u64 1 (by omega)
 have m0 : bits .and .u64 0 4294967295 = 0 := mask_u64 0 (by omega)
 have mn := mask_u64 n hn
 have w0 : IntKind.u64.wrap 0 = 0 := wrap_u64n 0 (by omega)
 have wn := wrap_u64n n hn
 have dn : (n : Int) / 4294967296 = 0 := by omega
 simp only [m1, m0, mn, w0, wn, dn, Int.one_mul, Int.zero_mul, Int.mul_zero, Int.zero_ediv, Int.add_zero, Int.zero_add]
 go_ret2
 exact ⟨rfl, rfl⟩
theorem bits_Mul64 (n : Nat) (hn : n ≤ 32) : FSpec Tryz.prog 332 [.val (.int .u64 1), .val (.int .u64 n)] ⟨.tup [.val (.int .u64 0), .val (.int .u64 n)], []⟩ := fspec_val2 (by kernel_rfl) (calls_mul64 n hn)
theorem bits_Mul (n : Nat) (hn : n ≤ 32) : FSpec Tryz.prog 304 [.val (.int .u64 1), .val (.int .u64 n)] ⟨.tup [.val (.int .u64 0), .val (.int .u64 n)], []⟩ := by
 have h1 := bits_Mul64 n hn
 refine fspec_of_body follows Tryz.func304 (by unfold Tryz.f304; rfl) (by unfold Tryz.f304; simp) onceA (by unfold Tryz.f304; simp) (by kernel_rfl) ?_; unfold Tryz.f304
 simp only [↓pre, simprocAttr, parV, sx, tys304, onceA, postU, sr]
 refine call_plain (h1) (by rfl) ?_; simp only [↓pre, simprocAttr, parV, sx, tys304, onceA, postU, sr]
def repA (v : Int) (n i : Nat) : List AV := intsA (List.replicate i v ++ List.replicate (n - i) 0)
theorem repA_len (v : Int) {n i : Nat} (h : i ≤ n) : (repA v n i).length = n := by unfold repA intsA; simp; omega
theorem make_ints (m : Mem) {n : Nat} (hn : n ≤ 32) : makeE Tryz.prog m 41 n n = some ⟨.sl m.next 0 n n true, m.push ⟨repA 0 n 0, 3, .flat, true⟩, none⟩ := by
 have h1 : elE Tryz.prog 41 = some 3 := by kernel_rfl
 have h2 : szE Tryz.prog 3 = some 1 := by kernel_rfl
 have h3 : byE Tryz.prog 3 = some 8 := by kernel_rfl
 have h4 : kindT Tryz.prog 3 = .flat := by kernel_rfl
 have hz := zeros_one h2 (x := .int .i64 0) (by kernel_rfl) n
 have hr : repA 0 n 0 = (List.range n).map fun _ => AV.val (.int .i64 0) := by
   unfold repA intsA
   rw [List.replicate_zero, List.nil_append, Nat.sub_zero, List.map_replicate, List.map_const', List.length_range]
   rfl
 rw [hr]
 simp only [makeE, h1, h2, h3, h4, hz, outV, Option.bind_some, Nat.mul_one]
 rw [if_pos (by omega)]
 rw [List.take_of_length_le (by simp)]
theorem rep_put {v : Int} {n i j : Nat} (h : i + j ≤ n) : splice (repA v n i) i (intsA (List.replicate j v)) = repA v n (i + j) := by
 unfold splice repA intsA
 have e : (List.map intV (List.replicate i v ++ List.replicate (n - i) 0)).take i = List.map intV (List.replicate i v) := by
   rw [List.map_append, List.take_append_of_le_length (by simp), List.take_of_length_le (by simp)]
 have e2 : (List.map intV (List.replicate i v ++ List.replicate (n - i) 0)).drop (i + (List.map intV (List.replicate j v)).length) = List.map intV (List.replicate (n - (i + j)) 0) := by
   rw [List.map_append, List.drop_append, List.drop_eq_nil_of_le (by simp), List.nil_append]
   simp
   omega
 rw [e, e2, ← List.map_append, ← List.map_append, List.append_assoc, ← List.append_assoc, List.replicate_append_replicate]
theorem copy_first {v : Int} {m : Mem} {b n : Nat} {f g : Bool} (hb : m.at_ b = some ⟨repA 0 n 0, 3, .flat, true⟩) (hn : 1 ≤ n) : copyE Tryz.prog 3 m (.sl b 0 n n f) (.tree 1 1 [intV v] g) = some ⟨intV (1 : Nat), m.put b (some ⟨repA v n 1, 3, .flat, true⟩), none⟩ := by
 have h2 : szE Tryz.prog 3 = some 1 := by kernel_rfl
 have h4 : kindT Tryz.prog 3 = .flat := by kernel_rfl
 have hr : repA 0 n 0 = repA v n 0 := rfl
 have hs : srcE Tryz.prog 3 1 m (.tree 1 1 [intV v] g) = some ([intV v], 1) := by simp [srcE, slView]
 have hp := rep_put (v := v) (n := n) (i := 0) (j := 1) (by omega)
 simp only [copyE, h2, hs, hb, Option.bind_some, h4]
 rw [if_pos ⟨trivial, trivial, by rw [repA_len _ (by omega)]; omega⟩, hr]
 have hmin : min 1 n = 1 := by omega
 rw [hmin, Nat.mul_one, List.take_of_length_le (by simp)]
 rw [show [intV v] = intsA (List.replicate 1 v) from rfl, hp]
 rfl
theorem copy_self {v : Int} {m : Mem} {b n i c : Nat} {f g : Bool} (hb : m.at_ b = some ⟨repA v n i, 3, .flat, true⟩) (hi : i ≤ n) : copyE Tryz.prog 3 m (.sl b i (n - i) (n - i) f) (.sl b 0 i c g) = some ⟨intV (min i (n - i) : Nat), m.put b (some ⟨repA v n (i + min i (n - i)), 3, .flat, true⟩), none⟩ := by
 have h2 : szE Tryz.prog 3 = some 1 := by kernel_rfl
 have h4 : kindT Tryz.prog 3 = .flat := by kernel_rfl
 have hl := repA_len v hi
 have ht : (repA v n i).take i = intsA (List.replicate i v) := by
   unfold repA intsA
   rw [List.map_append, List.take_append_of_le_length (by simp), List.take_of_length_le (by simp)]
 have hs : srcE Tryz.prog 3 1 m (.sl b 0 i c g) = some (intsA (List.replicate i v), i) := by
   simp only [srcE, slView, hb, h4, if_true, Option.bind_some, List.drop_zero, Nat.mul_one]
   rw [if_pos (by omega), ht]
 simp only [copyE, h2, hs, hb, Option.bind_some, h4]
 rw [if_pos ⟨trivial, trivial, by omega⟩]
 have htk : (intsA (List.replicate i v)).take (min i (n - i) * 1) = intsA (List.replicate (min i (n - i)) v) := by
   unfold intsA
   rw [Nat.mul_one, ← List.map_take, List.take_replicate]
   congr 2
   omega
 rw [htk, rep_put (by omega)]
 rfl
def onceRp : Nat → Bool := fun d => d != 41 && d != 44
theorem slices_Repeat (v : Int) (n : Nat) (h1 : 1 ≤ n) (hn : n ≤ 32) : FSpec Tryz.prog 253 [.tree 1 1 [intV v] true, intV (n : Nat)] ⟨.tree n n (intsA (List.replicate n v)) true, []⟩ := by
 refine fspec_fzT ?_
 have hmul := bits_Mul n hn
 have w1 : IntKind.u64.wrap 1 = 1 := wrap_u64n 1 (by omega)
 have wn := wrap_u64n n hn
 have wi : IntKind.i64.wrap (n : Int) = (n : Int) := wrap_nat (by omega)
 have hneg : ¬ (n : Int) < 0 := by omega
 have hzz : ¬ (0 : Int) < 0 := by omega
 have hln : lenE Tryz.prog 41 (.sl 0 0 n n true) = some (.val (.int .i64 n)) := by
   have : elE Tryz.prog 41 = some 3 := by kernel_rfl
   simp [lenE, this, slLen, intV]
 have hbig : ¬ (9223372036854775807 : Int) < (n : Int) := by omega
 have hmk := fun m => make_ints m hn
 have hl1 : lenE Tryz.prog 41 (.tree 1 1 [.val (.int .i64 v)] true) = some (.val (.int .i64 1)) := by kernel_rfl
 have hc0 := fun (m : Mem) (hb : m.at_ 0 = some ⟨repA 0 n 0, 3, .flat, true⟩) => copy_first (v := v) (f := true) (g := true) hb h1
 simp only [intV] at hc0
 refine ospec_of_body follows Tryz.func253 (by unfold Tryz.f253; rfl) (by unfold Tryz.f253; simp) onceRp (by unfold Tryz.f253; simp) (by kernel_rfl) ?_; unfold Tryz.f253
 simp only [↓pre, simprocAttr, parV, sx, tys253, onceRp, bne, postU, postV, postA, me0, copy2, hneg, w1, wn, hl1, sr]
 refine call_plain (hmul) (by rfl) ?_; simp only [↓pre, simprocAttr, parV, sx, tys253, onceRp, bne, postU, postV, postA, me0, copy2, hneg, w1, wn, wi, hbig, hzz, hl1, hmk, sr]
 rw [hc0 _ (by simp [push_at, me0])]
 simp only [↓pre, simprocAttr, parV, sx, tys253, onceRp, bne, postU, postV, postA, me0, copy2, sr]
 rw [codeW_loop]
 refine loop_intro (fun q e m => ∃ i, q + i = n ∧ 1 ≤ i ∧ e 8 = intV (i : Nat) ∧ e 7 = .sl 0 0 n n true ∧ Hid (m.at_ 0 = some ⟨repA v n i, 3, .flat, true⟩)) (n - 1) ⟨1, by omega, by omega, rfl, rfl, ⟨by simp [put_at]⟩⟩ ?_
 rintro q e m ⟨i, hq, hi1, e8, e7, hb⟩
 by_cases hlt : i < n
 · have hlt' : ((i : Nat) : Int) < ((n : Nat) : Int) := by omega
   have hs1 : sliceE Tryz.prog 41 (some i) none none (.sl 0 0 n n true) = some (.sl 0 i (n - i) (n - i) true) := by
     have h3 : elE Tryz.prog 41 = some 3 := by kernel_rfl
     have h4 : szE Tryz.prog 3 = some 1 := by kernel_rfl
     simp only [sliceE, h3, h4, Option.isSome_none, Bool.false_and, Bool.false_eq_true, if_false, Option.bind_some, Option.getD_some, Option.getD_none, Go.Tw.cutE]
     rw [if_pos (by omega), if_neg (by omega)]
     simp
   have hs2 : sliceE Tryz.prog 41 none (some i) none (.sl 0 0 n n true) = some (.sl 0 0 i n true) := by
     have h3 : elE Tryz.prog 41 = some 3 := by kernel_rfl
     have h4 : szE Tryz.prog 3 = some 1 := by kernel_rfl
     simp only [sliceE, h3, h4, Option.isSome_none, Bool.false_and, Bool.false_eq_true, if_false, Option.bind_some, Option.getD_some, Option.getD_none, Go.Tw.cutE]
     rw [if_pos (by omega), if_neg (by omega)]
     simp
   have hso : slOk Tryz.prog m 41 (.sl 0 0 n n true) = true := by
     have : elE Tryz.prog 41 = some 3 := by kernel_rfl
     simp [slOk, hb.out, this]
   have hcs := copy_self (v := v) (f := true) (g := true) (c := n) hb.out (by omega)
   have wa : IntKind.i64.wrap (((i : Nat) : Int) + ((min i (n - i) : Nat) : Int)) = ((i + min i (n - i) : Nat) : Int) := by rw [← Int.natCast_add]; exact wrap_nat (by omega)
   replace hi1 := Hid.mk hi1
   simp only [↓pre, simprocAttr, parV, sx, tys253, onceRp, bne, postU, postV, postA, me0, copy2, e8, e7, hlt', hln, hs1, hs2, hso, hcs, optNat, Option.map_some, Option.map_none, sr]
   refine contW_fixed (by kernel_rfl) ?_
   simp only [↓pre, simprocAttr, parV, sx, tys253, onceRp, bne, postU, postV, postA, me0, copy2, e8, e7, wa, sr]
   exact ⟨q - min i (n - i), by have := hi1.out; omega, i + min i (n - i), by have := hi1.out; omega, by have := hi1.out; omega, rfl, ⟨rfl⟩⟩
 · have hi : i = n := by omega
   subst hi
   have hlt' : ¬ ((i : Nat) : Int) < ((i : Nat) : Int) := by omega
   simp only [↓pre, simprocAttr, parV, sx, tys253, onceRp, bne, postU, postV, postA, me0, copy2, e8, e7, hln, hlt', sr]
   exact ⟨0, by rw [fzT_flat hb.out, List.drop_zero]; unfold repA; rw [Nat.sub_self, List.replicate_zero, List.append_nil]⟩
set_option maxRecDepth 10000
theorem vector_All (k r c w ver : Int) (hm : mayB k r c w = true) (hv : verB ver = true) : FSpec Tryz.prog 196 [parV k r c w, intV ver] ⟨.tup [.tree (k + r).toNat (k + r).toNat (intsA (List.replicate (k + r).toNat ver)) true, intV 0], []⟩ := by
 have h1 := layout_Drives k r c w
 have h2 := vector_version ver
 have hmn := may_n hm
 rw [hm, if_pos rfl, if_pos rfl] at h1
 rw [hv] at h2
 obtain ⟨N, hN⟩ : ∃ N : Nat, k + r = (N : Int) := ⟨(k + r).toNat, by omega⟩
 rw [hN] at h1 ⊢
 rw [Int.toNat_natCast]
 have h3 := slices_Repeat ver N (by omega) (by omega)
 simp only [intV] at h3
 refine fspec_of_body follows Tryz.func196 (by unfold Tryz.f196; rfl) (by unfold Tryz.f196; simp) onceA (by unfold Tryz.f196; simp) (by kernel_rfl) ?_; unfold Tryz.f196
 simp only [↓pre, simprocAttr, parV, sx, tys196, onceA, postU, postV, sr]
 refine call_plain (h1) (by rfl) ?_; simp only [↓pre, simprocAttr, parV, sx, tys196, onceA, postU, postV, sr]; refine call_plain (h2) (by rfl) ?_; simp only [↓pre, simprocAttr, parV, sx, tys196, onceA, postU, postV, sr]; refine call_plain (h3) (by rfl) ?_; simp only [↓pre, simprocAttr, parV, sx, tys196, onceA, postU, postV, sr]
def datM (C : Nat) (bs : List UInt8) : Mx := fun i j => bs.getD (i * C + j) 0
def cutA (C : Nat) (bs : List UInt8) (n : Nat) : List AV := (List.range n).map fun i => .tree C C (bytesA (bs.drop (i * C))) true
theorem cutA_succ (C : Nat) (bs : List UInt8) (n : Nat) : cutA C bs (n + 1) = cutA C bs n ++ [.tree C C (bytesA (bs.drop (n * C))) true] := by
 unfold cutA
 rw [List.range_succ, List.map_append]
 rfl
theorem cutA_len (C : Nat) (bs : List UInt8) (n : Nat) : (cutA C bs n).length = n := by simp [cutA]
theorem cutA_at {C : Nat} {bs : List UInt8} {n i : Nat} (h : i < n) : (cutA C bs n)[i]? = some (.tree C C (bytesA (bs.drop (i * C))) true) := by
 unfold cutA
 rw [List.getElem?_map, List.getElem?_range h]
 rfl
theorem cut_tab {C : Nat} {bs : List UInt8} {i : Nat} (h : i * C + C ≤ bs.length) : bytesA (bs.drop (i * C)) = tabA C (datM C bs i) ++ bytesA (bs.drop (i * C + C)) := by
 have h1 : bs.drop (i * C) = tab C (datM C bs i) ++ bs.drop (i * C + C) := by
   refine List.ext_getElem? fun j => ?_
   by_cases hj : j < C
   · rw [List.getElem?_append_left (by rw [tab_len]; exact hj), tab_at _ hj, List.getElem?_drop, List.getElem?_eq_getElem (by omega)]
     unfold datM
     rw [List.getD_eq_getElem?_getD, List.getElem?_eq_getElem (by omega)]
     rfl
   · rw [List.getElem?_append_right (by rw [tab_len]; omega), tab_len, List.getElem?_drop, List.getElem?_drop]
     congr 1
     omega
 rw [h1]
 unfold bytesA tabA
 rw [List.map_append]
theorem cutA_plain (C : Nat) (bs : List UInt8) (n : Nat) : plains (cutA C bs n) = true := by
 unfold cutA
 generalize List.range n = l
 induction l with
 | nil => rfl
 | cons a l ih => simpa [plains, plain] using ih
theorem rd_three {P : Program} {t : TypeId} {sz lo hi n : Nat} {v : AV} {cs : List AV} (h : RdSl v n cs) (ht : (elE P t).bind (szE P) = some sz) (h1 : lo < hi) (h2 : hi ≤ n) : sliceE P t (some lo) (some hi) (some hi) v = some (.tree (hi - lo) (hi - lo) (cs.drop (lo * sz)) true) := by
 obtain ⟨el, hel, hsz⟩ := Option.bind_eq_some_iff.1 ht
 rcases h.form with ⟨rfl, h0⟩ | ⟨_, _, _, h0⟩ | ⟨c, f, rfl, hc⟩
 · omega
 · omega
 · simp only [sliceE, hel, hsz, Option.isSome_some, Option.isNone_some, Bool.and_false, Bool.false_eq_true, if_false, Option.bind_some, Option.getD_some, Go.Tw.cutE]
   rw [if_pos (by omega), if_neg (by omega)]
   simp
def fullS (k r c : Int) (kd ver : Int) (bs : List UInt8) (i : Nat) : SlotC := ⟨kd, i, ver, ver, List.replicate (k + r).toNat ver, tab c.toNat (celU k.toNat (datM c.toNat bs) i)⟩
def fullN (k r c w : Int) (ps : List PairB) (num kd keep ver : Int) (bs : List UInt8) (n : Nat) : List PutC := (List.range n).map fun i => putC k r c w ps num (keepO k r c w ps kd keep) (fullS k r c kd ver bs i)
theorem fullN_succ (k r c w : Int) (ps : List PairB) (num kd keep ver : Int) (bs : List UInt8) (n : Nat) : fullN k r c w ps num kd keep ver bs (n + 1) = fullN k r c w ps num kd keep ver bs n ++ [putC k r c w ps num (keepO k r c w ps kd keep) (fullS k r c kd ver bs n)] := by
 unfold fullN
 rw [List.range_succ, List.map_append]
 rfl
theorem fullN_len (k r c w : Int) (ps : List PairB) (num kd keep ver : Int) (bs : List UInt8) (n : Nat) : (fullN k r c w ps num kd keep ver bs n).length = n := by simp [fullN]
theorem foldl_rep (v : Int) : ∀ (n : Nat) (a : Int), a ≤ v → (List.replicate (n + 1) v).foldl max a = v
 | 0, a, h => by simp; omega
 | n + 1, a, h => by
   rw [List.replicate_succ, List.foldl_cons, show max a v = v by omega]
   exact foldl_rep v n v (Int.le_refl _)
theorem fullS_ok {k r c w kd ver : Int} {bs : List UInt8} (hm : mayB k r c w = true) (hk : kd = 1 ∨ kd = 2) (hv : verB ver = true) {i : Nat} (hi : (i : Int) < k + r) : SlotOk k r c w (fullS k r c kd ver bs i) := by
 have hmn := may_n hm
 have hml := mayB_of.1 hm
 have hv2 := hv
 unfold verB at hv2
 rw [decide_eq_true_eq] at hv2
 obtain ⟨N, hN⟩ : ∃ N : Nat, (k + r).toNat = N + 1 := ⟨(k + r).toNat - 1, by omega⟩
 refine ⟨?_, ?_, ?_, ?_, hk, ?_, ?_⟩
 · unfold vecE fullS
   rw [if_pos hm, if_pos (by simp; omega), if_neg]
   rw [List.any_eq_true]
   rintro ⟨x, hx, hb⟩
   rw [(List.mem_replicate.1 hx).2, hv] at hb
   exact absurd hb (by decide)
 · unfold fullS lastI
   simp only
   rw [hN, foldl_rep ver N 0 (by omega)]
 · unfold fullS; simp only; omega
 · unfold fullS; simp only [List.length_replicate]; omega
 · unfold fullS
   simp only [Int.toNat_natCast]
   rw [List.getElem?_replicate, if_pos (by omega)]
 · unfold fullS
   simp only [tab_len]
   omega
def onceFu : Nat → Bool := fun d => d != 14
theorem stripe_Full (k r c w num kd keep ver : Int) (v : AV) (ps : List PairB) (cells : List AV) (hv : RowV v ps cells) (hB : begI k r c w ps num kd keep ver = 0) (dv : AV) (bs : List UInt8) (hd : RdSl dv bs.length (bytesA bs)) (hlen : (bs.length : Int) = k * c) : FSpec Tryz.prog 110 [parV k r c w, v, intV num, .val (.int .u8 kd), intV keep, intV ver, dv] ⟨.tup [treeR (k + r).toNat (putsA (fullN k r c w ps num kd keep ver bs (k + r).toNat)), intV 0], []⟩ := by
 refine fspec_fzT ?_
 have hp := hv.rd.plain
 have hpd := hd.plain
 have hbeg := fun m => stripe_begin k r c w num kd keep ver v ps cells hv m
 have ov := rd_one hv.rd
 have fv := rd_fz hv.rd
 simp only [hB, if_true] at hbeg
 obtain ⟨hm, hr, hn1, hn2, hk1, hk2, hkd, hver⟩ := begI_of hB
 replace hB := Hid.mk hB
 have hmn := may_n hm
 have hml := mayB_of.1 hm
 have hall := vector_All k r c w ver hm hver
 have hput := fun (i : Nat) (hi : (i : Int) < k + r) dv y hd m0 m a ls hls hw => writer_put k r c w num v ps cells hv hm hr (keepO k r c w ps kd keep) (fun l h => keepO_ok h) (fullS k r c kd ver bs i) (fullS_ok hm hkd hver hi) (.tree (k + r).toNat (k + r).toNat (intsA (List.replicate (k + r).toNat ver)) true) dv [] y ⟨.inr (.inr ⟨(k + r).toNat, true, by rw [List.append_nil]; unfold fullS; simp only [List.length_replicate], by unfold fullS; simp only [List.length_replicate]; exact Nat.le_refl _⟩)⟩ hd m0 m a ls hls hw
 have hms := fullN_succ k r c w ps num kd keep ver bs
 have hmle := fullN_len k r c w ps num kd keep ver bs
 have hm0 : fullN k r c w ps num kd keep ver bs 0 = [] := rfl
 have hbw := fun m h1 h2 => begV_wr k r c w num kd keep v ps m h1 h2
 obtain ⟨K, rfl⟩ : ∃ K : Nat, k = (K : Int) := ⟨k.toNat, by omega⟩
 obtain ⟨R, rfl⟩ : ∃ R : Nat, r = (R : Int) := ⟨r.toNat, by omega⟩
 obtain ⟨C, rfl⟩ : ∃ C : Nat, c = (C : Int) := ⟨c.toNat, by omega⟩
 have hNn : ((K : Int) + (R : Int)).toNat = K + R := by omega
 rw [hNn] at hall hput ⊢
 have hlenN : bs.length = K * C := by
   have : ((bs.length : Nat) : Int) = ((K * C : Nat) : Int) := by rw [hlen]; simp
   omega
 have hK1 : 1 ≤ K ∧ K ≤ 12 ∧ R ≤ 4 ∧ 1 ≤ C ∧ C ≤ 65536 := by omega
 have hsl := fun (i : Nat) (hi : i < K) => rd_three (P := Tryz.prog) (t := 52) (sz := 1) (lo := i * C) (hi := (i + 1) * C) hd (by kernel_rfl) (by rw [Nat.add_mul, Nat.one_mul]; omega) (by rw [hlenN]; exact Nat.mul_le_mul_right _ hi)
 have hsub : ∀ i : Nat, (i + 1) * C - i * C = C := fun i => by rw [Nat.add_mul, Nat.one_mul]; omega
 have hdr : ∀ i, (bytesA bs).drop (i * C) = bytesA (bs.drop (i * C)) := fun i => by unfold bytesA; rw [List.map_drop]
 simp only [hsub, Nat.mul_one, hdr] at hsl
 have hat : RowsAt K C (datM C bs) (cutA C bs K) := fun i hi => by
   have h1 : (i + 1) * C ≤ K * C := Nat.mul_le_mul_right _ hi
   rw [Nat.add_mul, Nat.one_mul] at h1
   exact ⟨_, _, cutA_at hi, ⟨.inr (.inr ⟨C, true, by rw [cut_tab (by omega)], Nat.le_refl _⟩)⟩⟩
 have hlS : ∀ i, fullS K R C kd ver bs i = ⟨kd, i, ver, ver, List.replicate (K + R) ver, tab C (celU K (datM C bs) i)⟩ := fun i => by unfold fullS; rw [hNn]; rfl
 have hel : ∀ i, i < K + R → ∃ a y, (cutA C bs K ++ cellsA C (celU K (datM C bs)) K R)[i]? = some a ∧ RdSl a C (tabA C (celU K (datM C bs) i) ++ y) := fun i hi => by
   by_cases h : i < K
   · obtain ⟨a, y, h1, h2⟩ := hat i h
     refine ⟨a, y, by rw [List.getElem?_append_left (by rw [cutA_len]; exact h)]; exact h1, ?_⟩
     rw [tabA_congr fun p _ => celU_data (datM C bs) h p]
     exact h2
   · have hc := cellsA_at (L := C) (F := celU K (datM C bs)) (a := K) (n := R) (i := i - K) (by omega)
     rw [show K + (i - K) = i by omega] at hc
     exact ⟨_, [], by rw [List.getElem?_append_right (by rw [cutA_len]; omega), cutA_len]; exact hc, ⟨.inr (.inr ⟨C, true, by rw [List.append_nil], Nat.le_refl _⟩)⟩⟩
 have hpc := cutA_plain C bs K
 generalize fullN K R C w ps num kd keep ver bs = MN at *
 generalize fullS K R C kd ver bs = MS at *
 generalize keepO K R C w ps kd keep = KO at *
 generalize begV K R C w v ps num kd keep = BW at *
 generalize List.replicate (K + R) ver = VL at *
 have wKC : IntKind.i64.wrap (((K : Nat) : Int) * ((C : Nat) : Int)) = ((bs.length : Nat) : Int) := by rw [hlen]; exact wrap_id (by omega) (by rw [← hlen, hlenN]; have : K * C ≤ 12 * 65536 := Nat.mul_le_mul hK1.2.1 hK1.2.2.2.2; omega)
 have hiC : ∀ i, i ≤ K → i * C ≤ 12 * 65536 := fun i hi => Nat.mul_le_mul (by omega) hK1.2.2.2.2
 replace hmn := Hid.mk hmn
 replace hml := Hid.mk hml
 replace hbw := Hid.mk hbw
 replace hlS := Hid.mk hlS
 replace hms := Hid.mk hms
 replace hmle := Hid.mk hmle
 replace hput := Hid.mk hput
 replace hm0 := Hid.mk hm0
 replace hsl := Hid.mk hsl
 replace hat := Hid.mk hat
 replace hel := Hid.mk hel
 replace hlen := Hid.mk hlen
 replace hlenN := Hid.mk hlenN
 replace hK1 := Hid.mk hK1
 replace hiC := Hid.mk hiC
 replace hpc := Hid.mk hpc
 replace hsub := Hid.mk hsub
 replace hNn := Hid.mk hNn
 refine ospec_of_body follows Tryz.func110 (by unfold Tryz.f110; rfl) (by unfold Tryz.f110; simp) onceFu (by unfold Tryz.f110; simp) (by kernel_rfl) ?_; unfold Tryz.f110
 simp only [↓pre, simprocAttr, parV, sx, tys110, onceFu, bne, postU, postA, postV, storeE, allocE, put_at, push_at, me0, Nat.one_ne_zero, Nat.reduceEqDiff, Array.size_empty, List.size_toArray, sr]
 refine call_det (hbeg _) ?_
 simp only [↓pre, simprocAttr, parV, sx, tys110, onceFu, bne, postU, postA, postV, storeE, allocE, put_at, push_at, me0, Nat.one_ne_zero, Nat.reduceEqDiff, Array.size_empty, List.size_toArray, hd.len', wKC, sr]
 generalize hm3 : Mem.push _ _ = m3
 have hb0 : m3.at_ 0 = some ⟨BW, 195, .var, true⟩ := by rw [← hm3]; simp [push_at, me0]
 have hnx : m3.next = 1 := by rw [← hm3]; simp [push_next, me0]
 clear hm3 hbeg
 rw [codeW_loop]
 have hso := fun m => hd.slOk (P := Tryz.prog) (m := m) (t := 52)
 refine loop_intro (fun q e m => ∃ i lv, q + i = K ∧ e 3 = .val (.int .u8 kd) ∧ e 5 = intV ver ∧ e 6 = dv ∧ e 7 = .tptr 0 [intV K, intV R, intV C, intV w] ∧ e 16 = .ptr 0 0 ∧ e 18 = lv ∧ e 47 = intV (K : Nat) ∧ e 48 = intV (i : Nat) ∧ Hid (OwnK .var m 52 1 lv i (cutA C bs i) ∧ Kept m3 m ∧ NewV m3 lv)) K ⟨0, nilS, by omega, rfl, rfl, rfl, rfl, rfl, rfl, rfl, rfl, ⟨own_nil, Kept.refl _, newV_nil _⟩⟩ ?_
 rintro q e m ⟨i, lv, hq, e3, e5, e6, e7, e16, e18, e47, e48, hJ⟩
 replace hq := Hid.mk hq
 obtain ⟨ho, hkp, hnw⟩ := hJ.out
 clear hJ
 by_cases hlt : i < K
 · have hlt' : ((i : Nat) : Int) < ((K : Nat) : Int) := by omega
   have hc1 := hiC.out i (by omega)
   have hc2 := hiC.out (i + 1) (by omega)
   have wa : IntKind.i64.wrap (((i : Nat) : Int) * ((C : Nat) : Int)) = ((i * C : Nat) : Int) := by rw [← Int.natCast_mul]; exact wrap_nat (by omega)
   have wb := wrap_succ (n := i) (by have := hK1.out; omega)
   have wc : IntKind.i64.wrap (((i + 1 : Nat) : Int) * ((C : Nat) : Int)) = (((i + 1) * C : Nat) : Int) := by rw [← Int.natCast_mul]; exact wrap_nat (by omega)
   have hs1 := hsl.out i hlt
   have hki := hK1.out
   replace hki := Hid.mk hki
   replace ho := Hid.mk ho
   replace hkp := Hid.mk hkp
   replace hnw := Hid.mk hnw
   simp only [↓pre, simprocAttr, parV, sx, tys110, onceFu, bne, postU, postA, postV, storeE, allocE, put_at, push_at, me0, Nat.one_ne_zero, Nat.reduceEqDiff, Array.size_empty, List.size_toArray, e3, e5, e6, e7, e16, e18, e47, e48, hlt', wa, wb, wc, hso, hs1, build_t1, optNat, Option.map_some, sr]
   refine app_new (kd := .var) (sz := 1) (y := 24) (zl := [.slice none 0 0]) (by kernel_rfl) ho.out (by kernel_rfl) (by kernel_rfl) (by kernel_rfl) rfl srcT1 rfl (by have := hki.out; omega) (by have := hki.out; omega) hkp.out hnw.out ?_
   intro lv' m' ho' hkp' hnw'
   simp only [↓pre, simprocAttr, parV, sx, tys110, onceFu, bne, postU, postA, postV, storeE, allocE, put_at, push_at, me0, Nat.one_ne_zero, Nat.reduceEqDiff, Array.size_empty, List.size_toArray, e3, e5, e6, e7, e16, e18, e47, e48, wb, sr]
   refine ⟨q - 1, by have := hq.out; omega, i + 1, _, by have := hq.out; omega, rfl, rfl, ⟨?_, hkp', hnw'⟩⟩
   rw [cutA_succ]
   exact ho'
 · have hi : i = K := by have := hq.out; omega
   subst hi
   have hlt' : ¬ ((i : Nat) : Int) < ((i : Nat) : Int) := by omega
   obtain ⟨k1, k2, k3, k4, k5⟩ := hK1.out
   have henc := codec_EncodeO m lv i R C (datM C bs) (cutA C bs i) (hasF_own ho (.inr ⟨rfl, hpc.out⟩)) (own_old ho) hat.out k1 k2 k3 k4 k5
   obtain ⟨b, rfl, hb, hbl⟩ := ho.sl (by omega)
   simp only [↓pre, simprocAttr, parV, sx, tys110, onceFu, bne, postU, postA, postV, storeE, allocE, put_at, push_at, me0, Nat.one_ne_zero, Nat.reduceEqDiff, Array.size_empty, List.size_toArray, e3, e5, e6, e7, e16, e18, e47, e48, hlt', sr]
   refine call_open henc ?_
   rintro res m2 ⟨lv2, rfl, ho2, hnx2, hat2, hnw2⟩
   simp only [↓pre, simprocAttr, parV, sx, tys110, onceFu, bne, postU, postA, postV, storeE, allocE, put_at, push_at, me0, Nat.one_ne_zero, Nat.reduceEqDiff, Array.size_empty, List.size_toArray, e3, e5, e6, e7, e16, e18, e47, e48, sr]
   have ho' : OwnK .var m2 52 1 (.sl b 0 i i false) i (cutA C bs i) := ⟨.inr ⟨b, rfl, hat2 b _ hb hbl, Nat.lt_of_lt_of_le hbl hnx2, by omega⟩, ho.len⟩
   have hkp' : Kept (m3.setM m2.mm) m2 := ⟨rfl, Nat.le_trans hkp.next hnx2, fun j x h hl => hat2 j x (hkp.at_ j x h hl) (Nat.lt_of_lt_of_le hl hkp.next)⟩
   have hsrc := own_src (P := Tryz.prog) (el' := 52) (kd := .var) ho2 (by kernel_rfl)
   have hb0' : (m3.setM m2.mm).at_ 0 = some ⟨BW, 195, .var, true⟩ := hb0
   have hNR : i + R ≤ 16 := by omega
   have hlen2 := ho2.len
   rw [Nat.mul_one] at hlen2
   simp only [intV] at hall
   replace ho := Hid.mk ho
   replace hkp := Hid.mk hkp
   replace hnw := Hid.mk hnw
   replace ho' := Hid.mk ho'
   replace hkp' := Hid.mk hkp'
   replace hlen2 := Hid.mk hlen2
   replace hnw2 := Hid.mk hnw2
   refine call_plain (hall) (by rfl) ?_; simp only [↓pre, simprocAttr, parV, sx, tys110, onceFu, bne, postU, postA, postV, storeE, allocE, put_at, push_at, me0, Nat.one_ne_zero, Nat.reduceEqDiff, Array.size_empty, List.size_toArray, e3, e5, e6, e7, e16, e18, e47, e48, sr]
   refine app_new (kd := .var) (sz := 1) (y := 24) (zl := [.slice none 0 0]) (m0 := m3.setM m2.mm) (by kernel_rfl) ho'.out (by kernel_rfl) (by kernel_rfl) (by kernel_rfl) rfl hsrc (by rw [Nat.mul_one]; exact hlen2.out) (by omega) (by omega) hkp'.out hnw.out ?_
   intro l5 m5 ho5 hkp5 hnw5
   obtain ⟨b5, rfl, hb5, hbl5⟩ := ho5.sl (by omega)
   have hne5 : b5 ≠ 0 := by
     have h1 := hnw5 b5 rfl
     have h2 : (m3.setM m2.mm).next = m3.next := rfl
     omega
   have h0 := hkp5.at_ 0 _ hb0' (show 0 < m3.next by omega)
   have hw0 := hbw.out m5 h0 (by omega)
   have hln5 : lenE Tryz.prog 45 (.sl b5 0 (i + R) (i + R) false) = some (.val (.int .i64 (i + R : Nat))) := by
     have : elE Tryz.prog 45 = some 52 := by kernel_rfl
     simp [lenE, this, slLen, intV]
   replace hw0 := Hid.mk hw0
   clear henc hnx2 hat2 ho2 hb hbl hkp5 hnw5 ho5 hsrc hb0' hbw ho hkp hnw ho' hkp' hnw2
   simp only [↓pre, simprocAttr, parV, sx, tys110, onceFu, bne, postU, postA, postV, storeE, allocE, put_at, push_at, me0, Nat.one_ne_zero, Nat.reduceEqDiff, Array.size_empty, List.size_toArray, e3, e5, e6, e7, e16, e18, e47, e48, hln5, sr]
   rw [codeW_loop]
   refine loop_intro (fun q e m => ∃ j, q + j = i + R ∧ e 3 = .val (.int .u8 kd) ∧ e 5 = intV ver ∧ e 16 = .ptr 0 0 ∧ e 21 = .tree (i + R) (i + R) (intsA VL) true ∧ e 94 = .sl b5 0 (i + R) (i + R) false ∧ e 95 = intV (i + R : Nat) ∧ e 96 = intV (j : Nat) ∧ Hid (WrA m5 m 0 i R C w v num (vecA KO) (MN j))) (i + R) ⟨0, by omega, by simp [Env.set, e3], by simp [Env.set, e5, intV], by simp [Env.set, e16], rfl, rfl, rfl, rfl, ⟨by rw [hm0.out]; exact hw0.out⟩⟩ ?_
   clear e3 e5 e6 e7 e16 e18 e47 e48
   rintro q e m ⟨j, hq, e3, e5, e16, e21, e94, e95, e96, hJ⟩
   replace hq := Hid.mk hq
   by_cases hj : j < i + R
   · have hj' : ((j : Nat) : Int) < ((i + R : Nat) : Int) := by omega
     have wj := wrap_succ (n := j) (by omega)
     obtain ⟨a, y, hca, hra⟩ := hel.out j hj
     have kb := hJ.out.at_ b5 _ hb5 hbl5 hne5
     have fa := rd_fz hra
     have qa := rd_one hra
     have ca := rd_cells hra
     have oa := rd_okA hra
     have hMj := hlS.out j
     have hpu := hput.out j (by omega) a y (by rw [hMj]; simp only [tab_len]; exact hra) m5 m 0 (MN j) (by rw [hmle.out j]; omega) hJ.out
     rw [← hms.out, hMj] at hpu
     simp only [intV] at hpu
     replace hMj := Hid.mk hMj
     replace hra := Hid.mk hra
     simp only [↓pre, simprocAttr, parV, sx, tys110, onceFu, bne, postU, postA, postV, storeE, allocE, put_at, push_at, me0, Nat.one_ne_zero, Nat.reduceEqDiff, Array.size_empty, List.size_toArray, e3, e5, e16, e21, e94, e95, e96, hj', hj, addr_slp, kb, hca, fa, qa, ↓ca, ↓oa, Nat.zero_add, sr]
     refine call_open hpu ?_
     rintro res m' ⟨rfl, hw'⟩
     replace hw' := Hid.mk hw'
     simp only [↓pre, simprocAttr, parV, sx, tys110, onceFu, bne, postU, postA, postV, storeE, allocE, put_at, push_at, me0, Nat.one_ne_zero, Nat.reduceEqDiff, Array.size_empty, List.size_toArray, e3, e5, e16, e21, e94, e95, e96, wj, sr]
     exact ⟨q - 1, by have := hq.out; omega, j + 1, by have := hq.out; omega, rfl, hw'⟩
   · have hj' : ¬ ((j : Nat) : Int) < ((i + R : Nat) : Int) := by omega
     have hi : j = i + R := by have := hq.out; omega
     subst hi
     obtain ⟨v', g1, g2, g3⟩ := hJ.out.ex
     have hfin := fun k => own_fzTv g2 (putsA_id _) k
     rw [hmle.out] at hfin
     replace g2 := Hid.mk g2
     replace g3 := Hid.mk g3
     replace hfin := Hid.mk hfin
     simp only [↓pre, simprocAttr, parV, sx, tys110, onceFu, bne, postU, postA, postV, storeE, allocE, put_at, push_at, me0, Nat.one_ne_zero, Nat.reduceEqDiff, Array.size_empty, List.size_toArray, e3, e5, e16, e21, e94, e95, e96, hj', g1, sr]
     exact ⟨1, by rw [fzT_tup, fzTs_cons, hfin.out, Option.bind_some, fzTs_cons, fzT_val, fzTs_nil]; rfl⟩
def badP (w : Int) (num ver W : Int) : Prop := num < 0 ∨ w ≤ num ∨ ver < 1 ∨ 1073741824 < ver ∨ ver ≤ W
instance (w num ver W : Int) : Decidable (badP w num ver W) := by unfold badP; infer_instance
def putsE (k r c w : Int) (ps : List PairB) (num ver len dep : Int) (l : List RefI) : Int := if chkI k r c w ps = 0 then (if badP w num ver (winI k r c w ps) then 2 else chkD k r c w len dep l) else chkI k r c w ps
def putsL (k r c w : Int) (ps : List PairB) (num ver len dep : Int) (l : List RefI) : List PutC := fullN k r c w ps num 2 (winI k r c w ps) ver (madeB k c len dep l) (k + r).toNat
def putsV (k r c w : Int) (ps : List PairB) (num ver len dep : Int) (l : List RefI) : AV := if putsE k r c w ps num ver len dep l = 0 then .tup [treeR (k + r).toNat (putsA (putsL k r c w ps num ver len dep l)), intV 0] else .tup [nilS, intV (putsE k r c w ps num ver len dep l)]
theorem made_len {k r c w len dep : Int} {l : List RefI} (h : chkD k r c w len dep l = 0) (hm : mayB k r c w = true) : (madeB k c len dep l).length = (wI k c).toNat := by
 have hw := may_w hm
 unfold madeB
 refine padB_len ?_
 obtain ⟨_, _, _, hll, _⟩ := desc_bounds h
 unfold headB
 simp only [List.length_append, numB_len, refsB_len]
 unfold dI at hll
 unfold wI
 omega
theorem beg_puts {k r c w num ver : Int} {ps : List PairB} (hc : chkI k r c w ps = 0) (hb : ¬ badP w num ver (winI k r c w ps)) : begI k r c w ps num 2 (winI k r c w ps) ver = 0 := by
 obtain ⟨hm, hr⟩ := chk_parts hc
 unfold badP at hb
 have h1 : lookI k r c w ps = 0 := by unfold lookI; rw [if_pos hm, if_pos hr]
 have h2 : 0 ≤ winI k r c w ps ∧ winI k r c w ps ≤ 1073741824 := by
   by_cases h : winI k r c w ps = 0
   · omega
   · have := win_ver hc h
     unfold verB at this
     rw [decide_eq_true_eq] at this
     omega
 unfold begI
 rw [if_pos h1, if_neg (by omega)]
 unfold kindsI
 rw [if_pos ⟨.inr rfl, by unfold verB; exact decide_eq_true (by omega)⟩]
def oncePp : Nat → Bool := fun d => d != 12
theorem commit_Puts (k r c w num ver len dep : Int) (v dv : AV) (ps : List PairB) (cells : List AV) (l : List RefI) (hv : RowV v ps cells) (hd : RefsV dv l) (hn : l.length ≤ 9223372036854775807) : FSpec Tryz.prog 37 [parV k r c w, v, intV num, intV ver, .agg [intV len, intV dep, dv]] ⟨putsV k r c w ps num ver len dep l, []⟩ := by
 refine fspec_fzT ?_
 have h1 := version_win k r c w v ps cells hv
 have h2 := desc_Bytes k r c w len dep dv l hd hn
 have hvc := rd_cells hv.rd
 have hvo := rd_okA hv.rd
 have f1 := rd_fz hv.rd
 have q1 := rd_one hv.rd
 have hp := hv.rd.plain
 obtain ⟨xd, hdr⟩ := hd
 have f2 := rd_fz hdr
 have q2 := rd_one hdr
 have p2 := hdr.plain
 have hz := fun (e : Int) m => fzId_two (fzId_val (.slice none 0 0)) (fzId_val (.int .i64 e)) 0 m
 replace hz := Hid.mk hz
 unfold putsV putsE
 by_cases hc : chkI k r c w ps = 0
 · rw [if_pos hc, hc] at h1
   simp only [if_pos hc]
   have hbeg := fun hb => beg_puts (num := num) (ver := ver) hc hb
   obtain ⟨hm, _⟩ := chk_parts hc
   have hmn := may_n hm
   have hml := mayB_of.1 hm
   have hfull := fun hB dv bs hd hl => stripe_Full k r c w num 2 (winI k r c w ps) ver v ps cells hv hB dv bs hd hl
   have hL : putsL k r c w ps num ver len dep l = fullN k r c w ps num 2 (winI k r c w ps) ver (madeB k c len dep l) (k + r).toNat := rfl
   rw [hL]
   clear hL
   generalize winI k r c w ps = W at *
   by_cases hb : badP w num ver W
   · simp only [if_pos hb]
     rw [if_neg (by decide)]
     have hb' : num < 0 ∨ (¬ num < 0 ∧ w ≤ num) ∨ (¬ num < 0 ∧ ¬ w ≤ num ∧ ver < 1) ∨ (¬ num < 0 ∧ ¬ w ≤ num ∧ ¬ ver < 1 ∧ 1073741824 < ver) ∨ (¬ num < 0 ∧ ¬ w ≤ num ∧ ¬ ver < 1 ∧ ¬ 1073741824 < ver ∧ ver ≤ W) := by unfold badP at hb; omega
     replace hb := Hid.mk hb
     replace hml := Hid.mk hml
     replace hmn := Hid.mk hmn
     replace hbeg := Hid.mk hbeg
     replace hfull := Hid.mk hfull
     clear h2
     rcases hb' with c1 | ⟨c1, c2⟩ | ⟨c1, c2, c3⟩ | ⟨c1, c2, c3, c4⟩ | ⟨c1, c2, c3, c4, c5⟩
     · refine ospec_of_body follows Tryz.func37 (by unfold Tryz.f37; rfl) (by unfold Tryz.f37; simp) oncePp (by unfold Tryz.f37; simp) (by kernel_rfl) ?_; unfold Tryz.f37
       simp only [↓pre, simprocAttr, parV, sx, tys37, oncePp, bne, postU, postFz, storeE, allocE, put_at, push_at, me0, f1, q1, f2, q2, Nat.one_ne_zero, Nat.zero_ne_one, ↓hvc, ↓hvo, sr]
       refine call_plain (h1) (by simp only [parV, plQ, *]) ?_; simp only [↓pre, simprocAttr, parV, sx, tys37, oncePp, bne, postU, postFz, storeE, allocE, put_at, push_at, me0, f1, q1, f2, q2, Nat.one_ne_zero, Nat.zero_ne_one, ↓hvc, ↓hvo, c1, sr]
       exact ⟨0, hz.out _ _⟩
     · refine ospec_of_body follows Tryz.func37 (by unfold Tryz.f37; rfl) (by unfold Tryz.f37; simp) oncePp (by unfold Tryz.f37; simp) (by kernel_rfl) ?_; unfold Tryz.f37
       simp only [↓pre, simprocAttr, parV, sx, tys37, oncePp, bne, postU, postFz, storeE, allocE, put_at, push_at, me0, f1, q1, f2, q2, Nat.one_ne_zero, Nat.zero_ne_one, ↓hvc, ↓hvo, sr]
       refine call_plain (h1) (by simp only [parV, plQ, *]) ?_; simp only [↓pre, simprocAttr, parV, sx, tys37, oncePp, bne, postU, postFz, storeE, allocE, put_at, push_at, me0, f1, q1, f2, q2, Nat.one_ne_zero, Nat.zero_ne_one, ↓hvc, ↓hvo, c1, c2, sr]
       exact ⟨0, hz.out _ _⟩
     · refine ospec_of_body follows Tryz.func37 (by unfold Tryz.f37; rfl) (by unfold Tryz.f37; simp) oncePp (by unfold Tryz.f37; simp) (by kernel_rfl) ?_; unfold Tryz.f37
       simp only [↓pre, simprocAttr, parV, sx, tys37, oncePp, bne, postU, postFz, storeE, allocE, put_at, push_at, me0, f1, q1, f2, q2, Nat.one_ne_zero, Nat.zero_ne_one, ↓hvc, ↓hvo, sr]
       refine call_plain (h1) (by simp only [parV, plQ, *]) ?_; simp only [↓pre, simprocAttr, parV, sx, tys37, oncePp, bne, postU, postFz, storeE, allocE, put_at, push_at, me0, f1, q1, f2, q2, Nat.one_ne_zero, Nat.zero_ne_one, ↓hvc, ↓hvo, c1, c2, c3, sr]
       exact ⟨0, hz.out _ _⟩
     · refine ospec_of_body follows Tryz.func37 (by unfold Tryz.f37; rfl) (by unfold Tryz.f37; simp) oncePp (by unfold Tryz.f37; simp) (by kernel_rfl) ?_; unfold Tryz.f37
       simp only [↓pre, simprocAttr, parV, sx, tys37, oncePp, bne, postU, postFz, storeE, allocE, put_at, push_at, me0, f1, q1, f2, q2, Nat.one_ne_zero, Nat.zero_ne_one, ↓hvc, ↓hvo, sr]
       refine call_plain (h1) (by simp only [parV, plQ, *]) ?_; simp only [↓pre, simprocAttr, parV, sx, tys37, oncePp, bne, postU, postFz, storeE, allocE, put_at, push_at, me0, f1, q1, f2, q2, Nat.one_ne_zero, Nat.zero_ne_one, ↓hvc, ↓hvo, c1, c2, c3, c4, sr]
       exact ⟨0, hz.out _ _⟩
     · refine ospec_of_body follows Tryz.func37 (by unfold Tryz.f37; rfl) (by unfold Tryz.f37; simp) oncePp (by unfold Tryz.f37; simp) (by kernel_rfl) ?_; unfold Tryz.f37
       simp only [↓pre, simprocAttr, parV, sx, tys37, oncePp, bne, postU, postFz, storeE, allocE, put_at, push_at, me0, f1, q1, f2, q2, Nat.one_ne_zero, Nat.zero_ne_one, ↓hvc, ↓hvo, sr]
       refine call_plain (h1) (by simp only [parV, plQ, *]) ?_; simp only [↓pre, simprocAttr, parV, sx, tys37, oncePp, bne, postU, postFz, storeE, allocE, put_at, push_at, me0, f1, q1, f2, q2, Nat.one_ne_zero, Nat.zero_ne_one, ↓hvc, ↓hvo, c1, c2, c3, c4, c5, sr]
       exact ⟨0, hz.out _ _⟩
   · simp only [if_neg hb]
     have hB := hbeg hb
     have hbb := hb
     unfold badP at hbb
     have c1 : ¬ num < 0 := by omega
     have c2 : ¬ w ≤ num := by omega
     have c3 : ¬ ver < 1 := by omega
     have c4 : ¬ 1073741824 < ver := by omega
     have c5 : ¬ ver ≤ W := by omega
     unfold descBV at h2
     by_cases hD : chkD k r c w len dep l = 0
     · rw [if_pos hD] at h2
       simp only [if_pos hD]
       have hmd := made_len hD hm
       have hfl := hfull hB (.tree (wI k c).toNat (wI k c).toNat (bytesA (madeB k c len dep l)) true) (madeB k c len dep l) ⟨.inr (.inr ⟨_, true, by rw [hmd], by rw [hmd]; exact Nat.le_refl _⟩)⟩ (by rw [hmd]; unfold wI; have : 0 ≤ k * c := Int.mul_nonneg (by omega) (by omega); omega)
       have hTr := treeR_rd (k + r).toNat (putsA (fullN k r c w ps num 2 W ver (madeB k c len dep l) (k + r).toNat))
       have hf := fun m => fzId_two (fzId_rd hTr) (fzId_val (.int .i64 0)) 1 m
       have hts := rd_shift hTr
       have hpl := hTr.plain
       generalize treeR (k + r).toNat (putsA (fullN k r c w ps num 2 W ver (madeB k c len dep l) (k + r).toNat)) = BV at *
       simp only [intV] at hfl h2 hf
       generalize (wI k c).toNat = WN at *
       generalize bytesA (madeB k c len dep l) = MB at *
       replace hf := Hid.mk hf
       replace hml := Hid.mk hml
       replace hmn := Hid.mk hmn
       replace hfull := Hid.mk hfull
       replace hbeg := Hid.mk hbeg
       replace hB := Hid.mk hB
       replace hb := Hid.mk hb
       replace hbb := Hid.mk hbb
       replace hmd := Hid.mk hmd
       replace hD := Hid.mk hD
       replace hTr := Hid.mk hTr
       refine ospec_of_body follows Tryz.func37 (by unfold Tryz.f37; rfl) (by unfold Tryz.f37; simp) oncePp (by unfold Tryz.f37; simp) (by kernel_rfl) ?_; unfold Tryz.f37
       simp only [↓pre, simprocAttr, parV, sx, tys37, oncePp, bne, postU, postFz, storeE, allocE, put_at, push_at, me0, f1, q1, f2, q2, Nat.one_ne_zero, Nat.zero_ne_one, ↓hvc, ↓hvo, sr]
       refine call_plain (h1) (by simp only [parV, plQ, *]) ?_; simp only [↓pre, simprocAttr, parV, sx, tys37, oncePp, bne, postU, postFz, storeE, allocE, put_at, push_at, me0, f1, q1, f2, q2, Nat.one_ne_zero, Nat.zero_ne_one, ↓hvc, ↓hvo, c1, c2, c3, c4, c5, hts, sr]; refine call_plain (h2) (by simp only [parV, plQ, *]) ?_; simp only [↓pre, simprocAttr, parV, sx, tys37, oncePp, bne, postU, postFz, storeE, allocE, put_at, push_at, me0, f1, q1, f2, q2, Nat.one_ne_zero, Nat.zero_ne_one, ↓hvc, ↓hvo, c1, c2, c3, c4, c5, hts, sr]; refine call_plain (hfl) (by simp only [parV, plQ, *]) ?_; simp only [↓pre, simprocAttr, parV, sx, tys37, oncePp, bne, postU, postFz, storeE, allocE, put_at, push_at, me0, f1, q1, f2, q2, Nat.one_ne_zero, Nat.zero_ne_one, ↓hvc, ↓hvo, c1, c2, c3, c4, c5, hts, sr]
       exact ⟨1, hf.out _⟩
     · rw [if_neg hD] at h2
       simp only [if_neg hD]
       generalize chkD k r c w len dep l = e at *
       unfold nilS at h2
       simp only [intV] at h2
       replace hml := Hid.mk hml
       replace hmn := Hid.mk hmn
       replace hfull := Hid.mk hfull
       replace hbeg := Hid.mk hbeg
       replace hB := Hid.mk hB
       replace hb := Hid.mk hb
       replace hbb := Hid.mk hbb
       refine ospec_of_body follows Tryz.func37 (by unfold Tryz.f37; rfl) (by unfold Tryz.f37; simp) oncePp (by unfold Tryz.f37; simp) (by kernel_rfl) ?_; unfold Tryz.f37
       simp only [↓pre, simprocAttr, parV, sx, tys37, oncePp, bne, postU, postFz, storeE, allocE, put_at, push_at, me0, f1, q1, f2, q2, Nat.one_ne_zero, Nat.zero_ne_one, ↓hvc, ↓hvo, sr]
       refine call_plain (h1) (by simp only [parV, plQ, *]) ?_; simp only [↓pre, simprocAttr, parV, sx, tys37, oncePp, bne, postU, postFz, storeE, allocE, put_at, push_at, me0, f1, q1, f2, q2, Nat.one_ne_zero, Nat.zero_ne_one, ↓hvc, ↓hvo, c1, c2, c3, c4, c5, hD, sr]; refine call_plain (h2) (by simp only [parV, plQ, *]) ?_; simp only [↓pre, simprocAttr, parV, sx, tys37, oncePp, bne, postU, postFz, storeE, allocE, put_at, push_at, me0, f1, q1, f2, q2, Nat.one_ne_zero, Nat.zero_ne_one, ↓hvc, ↓hvo, c1, c2, c3, c4, c5, hD, sr]
       exact ⟨0, hz.out _ _⟩
 · rw [if_neg hc] at h1
   simp only [if_neg hc]
   generalize chkI k r c w ps = e at *
   clear h2
   refine ospec_of_body follows Tryz.func37 (by unfold Tryz.f37; rfl) (by unfold Tryz.f37; simp) oncePp (by unfold Tryz.f37; simp) (by kernel_rfl) ?_; unfold Tryz.f37
   simp only [↓pre, simprocAttr, parV, sx, tys37, oncePp, bne, postU, postFz, storeE, allocE, put_at, push_at, me0, f1, q1, f2, q2, Nat.one_ne_zero, Nat.zero_ne_one, ↓hvc, ↓hvo, sr]
   refine call_plain (h1) (by simp only [parV, plQ, *]) ?_; simp only [↓pre, simprocAttr, parV, sx, tys37, oncePp, bne, postU, postFz, storeE, allocE, put_at, push_at, me0, f1, q1, f2, q2, Nat.one_ne_zero, Nat.zero_ne_one, ↓hvc, ↓hvo, hc, sr]
   exact ⟨0, hz.out _ _⟩
theorem be_numB2 (n : Int) (h0 : 0 ≤ n) (h1 : n < 65536) : ((beN (numB n 2) : Nat) : Int) = n := by
 obtain ⟨m, rfl⟩ : ∃ m : Nat, n = (m : Int) := ⟨n.toNat, by omega⟩
 have hd : ∀ j, (((m : Nat) : Int) / 2 ^ j).toNat = m / 2 ^ j := fun j => by
   rw [show (2 : Int) ^ j = ((2 ^ j : Nat) : Int) by simp, ← Int.natCast_ediv, Int.toNat_natCast]
 have e : numB (m : Int) 2 = [UInt8.ofNat (m / 2 ^ 8), UInt8.ofNat (m / 2 ^ 0)] := by
   simp only [numB, hd]
 rw [e]
 have hu : ∀ x : Nat, (UInt8.ofNat x).toNat = x % 256 := fun x => by simp
 simp only [beN, List.foldl_cons, List.foldl_nil, hu]
 omega
theorem be_numB1 (n : Int) (h0 : 0 ≤ n) (h1 : n < 256) : ((beN (numB n 1) : Nat) : Int) = n := by
 obtain ⟨m, rfl⟩ : ∃ m : Nat, n = (m : Int) := ⟨n.toNat, by omega⟩
 have hd : ∀ j, (((m : Nat) : Int) / 2 ^ j).toNat = m / 2 ^ j := fun j => by
   rw [show (2 : Int) ^ j = ((2 ^ j : Nat) : Int) by simp, ← Int.natCast_ediv, Int.toNat_natCast]
 have e : numB (m : Int) 1 = [UInt8.ofNat (m / 2 ^ 0)] := by
   simp only [numB, hd]
 rw [e]
 have hu : ∀ x : Nat, (UInt8.ofNat x).toNat = x % 256 := fun x => by simp
 simp only [beN, List.foldl_cons, List.foldl_nil, hu]
 omega
theorem refAt_zero (x : RefI) (rest : List UInt8) (h1 : 0 ≤ x.1 ∧ x.1 < 65536) (h2 : 0 ≤ x.2 ∧ x.2 ≤ 1073741824) : refAt (numB x.1 2 ++ numB x.2 4 ++ rest) 0 = x := by
 unfold refAt
 rw [Nat.mul_zero, Nat.zero_add, List.drop_zero, List.append_assoc, List.take_left' (numB_len x.1 2), List.drop_left' (numB_len x.1 2), List.take_left' (numB_len x.2 4), be_numB2 _ h1.1 h1.2, be_numB _ h2.1 h2.2]
theorem refAt_succ (x : RefI) (rest : List UInt8) (i : Nat) : refAt (numB x.1 2 ++ numB x.2 4 ++ rest) (i + 1) = refAt rest i := by
 have hl : (numB x.1 2 ++ numB x.2 4).length = 6 := by rw [List.length_append, numB_len, numB_len]
 unfold refAt
 rw [show 6 * (i + 1) = 6 + 6 * i by omega, ← List.drop_drop, show 6 + 6 * i + 2 = 6 + (6 * i + 2) by omega, ← List.drop_drop, List.drop_left' hl]
theorem refs_read : ∀ (l : List RefI) (rest : List UInt8), (∀ x ∈ l, (0 ≤ x.1 ∧ x.1 < 65536) ∧ 0 ≤ x.2 ∧ x.2 ≤ 1073741824) → ∀ i x, l[i]? = some x → refAt (refsB l ++ rest) i = x
 | [], _, _, i, x, h => by simp at h
 | a :: l, rest, hb, i, x, h => by
   have e : refsB (a :: l) = numB a.1 2 ++ numB a.2 4 ++ refsB l := rfl
   have ha := hb a (by simp)
   rw [e, List.append_assoc]
   cases i with
   | zero =>
     simp at h
     subst h
     exact refAt_zero a _ ha.1 ha.2
   | succ i =>
     rw [refAt_succ]
     exact refs_read l rest (fun y hy => hb y (by simp [hy])) i x (by simpa using h)
theorem refsOf_read {l : List RefI} {rest : List UInt8} (hb : ∀ x ∈ l, (0 ≤ x.1 ∧ x.1 < 65536) ∧ 0 ≤ x.2 ∧ x.2 ≤ 1073741824) : refsOf (refsB l ++ rest) l.length = l := by
 refine List.ext_getElem? fun i => ?_
 unfold refsOf
 by_cases hi : i < l.length
 · rw [List.getElem?_map, List.getElem?_range hi, Option.map_some, refs_read l rest hb i _ (List.getElem?_eq_getElem hi), List.getElem?_eq_getElem hi]
 · rw [List.getElem?_eq_none (by simp; omega), List.getElem?_eq_none (by omega)]
theorem made_read {k r c w len dep : Int} {l : List RefI} (h : chkD k r c w len dep l = 0) : parseE k r c w (madeB k c len dep l) = 0 ∧ pLen (madeB k c len dep l) = len ∧ pDep (madeB k c len dep l) = dep ∧ pRefs (madeB k c len dep l) = l := by
 obtain ⟨hm, _⟩ := desc_fit h
 obtain ⟨b1, b2, b3, b4, b5⟩ := desc_bounds h
 have hw := may_w hm
 have hml := mayB_of.1 hm
 have hlen := made_len h hm
 have hd := d_bounds hw.1 hw.2
 have hln : l.length ≤ 1000 := by unfold dI at b4; omega
 have hsp : madeB k c len dep l = numB len 4 ++ (numB dep 1 ++ (numB (l.length : Nat) 2 ++ (refsB l ++ List.replicate ((wI k c).toNat - (headB len dep l.length ++ refsB l).length) 0))) := by
   unfold madeB padB headB
   simp only [List.append_assoc]
 have hfit : 7 + 6 * l.length ≤ (wI k c).toNat := by unfold dI at b4; unfold wI; omega
 generalize hB : madeB k c len dep l = B at *
 generalize List.replicate ((wI k c).toNat - (headB len dep l.length ++ refsB l).length) (0 : UInt8) = Z at *
 have e1 : pLen B = len := by
   unfold pLen
   rw [hsp, List.take_left' (numB_len len 4)]
   exact be_numB len b1 (by omega)
 have d4 : B.drop 4 = numB dep 1 ++ (numB (l.length : Nat) 2 ++ (refsB l ++ Z)) := by rw [hsp, List.drop_left' (numB_len len 4)]
 have d5 : B.drop 5 = numB (l.length : Nat) 2 ++ (refsB l ++ Z) := by rw [show 5 = 4 + 1 from rfl, ← List.drop_drop, d4, List.drop_left' (numB_len dep 1)]
 have d7 : B.drop 7 = refsB l ++ Z := by rw [show 7 = 5 + 2 from rfl, ← List.drop_drop, d5, List.drop_left' (numB_len _ 2)]
 have e2 : pDep B = dep := by
   unfold pDep
   rw [d4, List.take_left' (numB_len dep 1)]
   exact be_numB1 dep (by omega) (by omega)
 have e3 : pN B = l.length := by
   unfold pN
   rw [d5, List.take_left' (numB_len _ 2)]
   have := be_numB2 (l.length : Nat) (by omega) (by omega)
   omega
 have e4 : pRefs B = l := by
   unfold pRefs
   rw [e3, d7]
   exact refsOf_read fun x hx => by
     have := b5 x hx
     omega
 refine ⟨?_, e1, e2, e4⟩
 unfold parseE
 rw [if_pos hm, if_pos (by rw [hlen]; unfold wI; have : 0 ≤ k * c := Int.mul_nonneg (by omega) (by omega); omega), if_pos]
 unfold parseOk
 rw [e1, e2, e3, e4, hB, decide_eq_true h, decide_eq_true (by rw [hlen]; exact hfit), decide_eq_true rfl]
 rfl
structure PBase (k r c w : Int) (ps : List PairB) (W V : Int) (bs : List UInt8) : Prop where
 may : mayB k r c w = true
 row : rowB k r c ps = true
 pure : PureRow k r c w ps
 fit : fitP k r c w V ps = true
 w1 : 1 ≤ W
 ver : verB V = true
 lt : W < V
 win : winI k r c w ps = W
 all : ∀ (i : Nat) (p : PairB), ps[i]? = some p → hitS k r c w p.1 (i : Nat) 2 W = true ∨ hitS k r c w p.2 (i : Nat) 2 W = true
 told : ∃ l, toldL k r c w ps 2 W = some l
 blen : bs.length = k.toNat * c.toNat
abbrev nB (k r c : Int) (V : Int) (bs : List UInt8) (i : Nat) : List UInt8 := slotB (fullS k r c 2 V bs i)
def qN (k r c w : Int) (W V : Int) (bs : List UInt8) (i : Nat) (p : PairB) : PairB := pairSet p (olderN k r c w p (i : Nat) 2 W) (nB k r c V bs i)
section
variable {k r c w W V : Int} {ps : List PairB} {bs : List UInt8}
theorem PBase.len (h : PBase k r c w ps W V bs) : (ps.length : Int) = k + r := (row_at h.row).1
theorem PBase.v1 (h : PBase k r c w ps W V bs) : 1 ≤ V := by have := h.w1; have := h.lt; omega
theorem PBase.new (h : PBase k r c w ps W V bs) {i : Nat} (hi : i < ps.length) : isSlot k r c w (nB k r c V bs i) = true ∧ slotC k r (nB k r c V bs i) = fullS k r c 2 V bs i ∧ lenB k r c (nB k r c V bs i).length = true ∧ pureS k r c w (nB k r c V bs i) i = true := by
 have hl := h.len
 have hok := fullS_ok (bs := bs) h.may (.inr rfl) h.ver (i := i) (by omega)
 have hrd := slotB_read h.may hok
 refine ⟨slotB_is h.may hok, hrd, slotB_lenB h.may hok, pureS_all fun v hv => ?_⟩
 rw [hrd] at hv ⊢
 exact ⟨(List.mem_replicate.1 hv).2, rfl⟩
theorem PBase.hit (h : PBase k r c w ps W V bs) {i : Nat} (hi : i < ps.length) {v : Int} : hitS k r c w (nB k r c V bs i) (i : Nat) 2 v = true ↔ v = V := by
 obtain ⟨h1, h2, _, _⟩ := h.new hi
 rw [hit_iff, h2]
 exact ⟨fun h => h.2.2.2.symm, fun h => ⟨h1, rfl, rfl, h.symm⟩⟩
theorem PBase.noV (h : PBase k r c w ps W V bs) {i : Nat} {p : PairB} (hp : ps[i]? = some p) : ¬ hitS k r c w p.1 (i : Nat) 2 V = true ∧ ¬ hitS k r c w p.2 (i : Nat) 2 V = true := by
 have hf := h.fit
 unfold fitP at hf
 rw [List.all_eq_true] at hf
 have hf := hf p (List.mem_of_getElem? hp)
 obtain ⟨p1, p2⟩ := h.pure i p hp
 unfold fitS fitA at hf
 rw [Bool.and_eq_true] at hf
 have hf1 := hf.1
 constructor
 · intro hh
   obtain ⟨a1, _, a3, a4⟩ := hit_iff.1 hh
   obtain ⟨_, b2, _⟩ := pure_slot h.may p1 a1 a3
   rw [a1, slA_is a1] at hf1
   have : V ≤ ((slotC k r p.1).sl).st := by show V ≤ (slotC k r p.1).st; omega
   rw [decide_eq_true this] at hf1
   simp at hf1
 · intro hh
   obtain ⟨a1, _, a3, a4⟩ := hit_iff.1 hh
   obtain ⟨_, b2, _⟩ := pure_slot h.may p2 a1 a3
   rw [a1, slA_is a1] at hf1
   have : V ≤ ((slotC k r p.2).sl).st := by show V ≤ (slotC k r p.2).st; omega
   rw [decide_eq_true this] at hf1
   simp at hf1
theorem PBase.q (h : PBase k r c w ps W V bs) {i : Nat} {p : PairB} (hp : ps[i]? = some p) : datO k r c w (qN k r c w W V bs i p) (i : Nat) 2 W = datO k r c w p (i : Nat) 2 W ∧ datO k r c w (qN k r c w W V bs i p) (i : Nat) 2 V = tab c.toNat (celU k.toNat (datM c.toNat bs) i) ∧ (∀ v, v ≠ V → (hitS k r c w (qN k r c w W V bs i p).1 (i : Nat) 2 v = true ∨ hitS k r c w (qN k r c w W V bs i p).2 (i : Nat) 2 v = true) → (hitS k r c w p.1 (i : Nat) 2 v = true ∨ hitS k r c w p.2 (i : Nat) 2 v = true)) ∧ (pureS k r c w (qN k r c w W V bs i p).1 i = true ∧ pureS k r c w (qN k r c w W V bs i p).2 i = true) ∧ pairB k r c (qN k r c w W V bs i p).1.length (qN k r c w W V bs i p).2.length = true := by
 have hi := (List.getElem?_eq_some_iff.1 hp).1
 obtain ⟨n1, n2, n3, n4⟩ := h.new hi
 obtain ⟨v1, v2⟩ := h.noV hp
 obtain ⟨p1, p2⟩ := h.pure i p hp
 have hpb := (row_at h.row).2 p (List.mem_of_getElem? hp)
 unfold pairB at hpb
 rw [Bool.and_eq_true] at hpb
 have hw1 := h.w1
 have hlt := h.lt
 have hda : (slotC k r (nB k r c V bs i)).data = tab c.toNat (celU k.toNat (datM c.toNat bs) i) := by rw [n2]; rfl
 have hV : hitS k r c w (nB k r c V bs i) (i : Nat) 2 V = true := (h.hit hi).2 rfl
 have hnW : ¬ hitS k r c w (nB k r c V bs i) (i : Nat) 2 W = true := fun hh => by have := (h.hit hi).1 hh; omega
 have hnv : ∀ v, v ≠ V → ¬ hitS k r c w (nB k r c V bs i) (i : Nat) 2 v = true := fun v hv hh => hv ((h.hit hi).1 hh)
 by_cases hA : hitS k r c w p.1 (i : Nat) 2 W = true
 · have hq : qN k r c w W V bs i p = (p.1, nB k r c V bs i) := by
     have ho : olderN k r c w p (i : Nat) 2 W = 1 := by
       unfold olderN
       rw [if_pos ⟨by omega, hA⟩]
     unfold qN pairSet
     rw [ho, if_neg (by decide)]
   rw [hq]
   refine ⟨?_, ?_, fun v hv hh => ?_, ⟨p1, n4⟩, ?_⟩
   · unfold datO
     rw [if_pos hA, if_pos hA]
   · unfold datO
     rw [if_neg v1, if_pos hV]
     exact hda
   · rcases hh with hh | hh
     · exact .inl hh
     · exact absurd hh (hnv v hv)
   · unfold pairB
     rw [Bool.and_eq_true]
     exact ⟨hpb.1, n3⟩
 · have hB : hitS k r c w p.2 (i : Nat) 2 W = true := (h.all i p hp).resolve_left hA
   have hq : qN k r c w W V bs i p = (nB k r c V bs i, p.2) := by
     have ho : olderN k r c w p (i : Nat) 2 W = 0 := by
       unfold olderN
       rw [if_neg (fun x => hA x.2), if_pos ⟨by omega, hB⟩]
     unfold qN pairSet
     rw [ho, if_pos rfl]
   rw [hq]
   refine ⟨?_, ?_, fun v hv hh => ?_, ⟨n4, p2⟩, ?_⟩
   · unfold datO
     rw [if_neg hnW, if_neg hA]
   · unfold datO
     rw [if_pos hV]
     exact hda
   · rcases hh with hh | hh
     · exact absurd hh (hnv v hv)
     · exact .inr hh
   · unfold pairB
     rw [Bool.and_eq_true]
     exact ⟨n3, hpb.2⟩
theorem full_take (ps : List PairB) (num kd keep ver : Int) (bs : List UInt8) {n N : Nat} (h : n ≤ N) : (fullN k r c w ps num kd keep ver bs N).take n = fullN k r c w ps num kd keep ver bs n := by
 unfold fullN
 rw [← List.map_take, List.take_range, show min n N = n by omega]
theorem PBase.rowN (h : PBase k r c w ps W V bs) : ∀ (n : Nat), n ≤ ps.length → ∀ (i : Nat) (p : PairB), ps[i]? = some p → (putsP ps (fullN k r c w ps 0 2 W V bs n))[i]? = some (if i < n then qN k r c w W V bs i p else p)
 | 0, _, i, p, hp => by
   rw [if_neg (by omega)]
   exact hp
 | n + 1, hn, i, p, hp => by
   have ih := h.rowN n (by omega)
   obtain ⟨l, hT⟩ := h.told
   have hl := h.len
   have hw1 := h.w1
   have hko : keepO k r c w ps 2 W = some l := by unfold keepO; rw [if_pos (by omega)]; exact hT
   have hll := (told_ok hT).1
   have hgd : l.getD n 0 = W := by
     rw [List.getD_eq_getElem?_getD, List.getElem?_eq_getElem (by omega)]
     exact told_all h.may h.pure hT _ (List.getElem_mem _)
   rw [fullN_succ, putsP_snoc, wrP_at, putsP_len]
   have hpc : putC k r c w ps 0 (keepO k r c w ps 2 W) (fullS k r c 2 V bs n) = ⟨n, 0, olderN k r c w (ps.getD n ([], [])) (n : Nat) 2 W, nB k r c V bs n⟩ := by
     unfold putC keepI
     rw [hko]
     simp only
     unfold fullS
     simp only [Int.toNat_natCast, hgd]
     rfl
   rw [hpc]
   simp only
   by_cases e : n = i
   · subst e
     have hg := ih n p hp
     rw [if_neg (by omega)] at hg
     have hg1 : (putsP ps (fullN k r c w ps 0 2 W V bs n)).getD n ([], []) = p := by rw [List.getD_eq_getElem?_getD, hg]; rfl
     have hg2 : ps.getD n ([], []) = p := by rw [List.getD_eq_getElem?_getD, hp]; rfl
     rw [if_pos rfl, if_pos (by omega), if_pos (by omega), hg1, hg2]
     rfl
   · rw [if_neg e, ih i p hp]
     by_cases hi : i < n
     · rw [if_pos hi, if_pos (by omega)]
     · rw [if_neg hi, if_neg (by omega)]
end
def leftN (wl : List Bool) (n : Nat) : Nat := ((List.range n).filter fun i => !wipB wl i).length
theorem leftN_succ (wl : List Bool) (n : Nat) : leftN wl (n + 1) = leftN wl n + (if wipB wl n = true then 0 else 1) := by
 unfold leftN
 rw [List.range_succ, List.filter_append, List.length_append]
 cases h : wipB wl n <;> simp [h]
theorem left_gone (wl : List Bool) : ∀ n, leftN wl n + goneN wl n = n
 | 0 => rfl
 | n + 1 => by
   have := left_gone wl n
   rw [leftN_succ, goneN_succ]
   split <;> omega
theorem cells_left {hs : List (Int × Int)} {v : Int} {wl : List Bool} {n : Nat} : ∀ (m : Nat), (∀ i, i < m → (holdsAt hs i v = true ↔ (i < n ∧ ¬ wipB wl i = true))) → (cellsN hs v m).length = leftN wl (min n m)
 | 0, _ => by rw [show min n 0 = 0 by omega]; rfl
 | m + 1, h => by
   have ih := cells_left m fun i hi => h i (by omega)
   have hm := h m (by omega)
   rw [cellsN_succ, List.length_append, ih]
   by_cases h1 : m < n
   · rw [show min n (m + 1) = min n m + 1 by omega, leftN_succ, show min n m = m by omega]
     by_cases h2 : wipB wl m = true
     · rw [if_pos h2, if_neg (fun x => (hm.1 x).2 h2)]
       rfl
     · rw [if_neg h2, if_pos (hm.2 ⟨h1, h2⟩)]
       rfl
   · rw [show min n (m + 1) = min n m by omega, if_neg (fun x => h1 (hm.1 x).1)]
     rfl
theorem in_cnt {k r c w : Int} {qs : List PairB} (hc : chkI k r c w qs = 0) {v : Int} (hv : 1 ≤ v) (hk : 1 ≤ k) (hm : k ≤ ((cellsN (heldsP k r c w qs) v qs.length).length : Nat)) : v ∈ cntP k r c w qs := by
 have hex : ∃ i, holdsAt (heldsP k r c w qs) i v = true := by
   refine Classical.byContradiction fun hno => ?_
   have h0 : ∀ n, cellsN (heldsP k r c w qs) v n = [] := fun n => by
     unfold cellsN
     rw [List.filterMap_eq_nil_iff]
     intro i _
     rw [if_neg fun h => hno ⟨i, h⟩]
   rw [h0] at hm
   simp at hm
   omega
 obtain ⟨i, hi⟩ := hex
 obtain ⟨x, hx, hh⟩ := holds_lt hi
 unfold cntP
 rw [cnt_mem]
 refine ⟨?_, ?_⟩
 · unfold talT
   rw [if_pos hc]
   exact ((versF_falls _).mem v).2 ⟨by omega, by omega, i, x, hx, hh⟩
 · unfold cntB
   rw [helds_len]
   exact decide_eq_true hm
theorem win_is {k r c w : Int} {qs : List PairB} {v : Int} (hv : v ∈ cntP k r c w qs) (h : ∀ u ∈ cntP k r c w qs, u ≤ v) : winI k r c w qs = v := by
 have hl : 1 ≤ (cntP k r c w qs).length := by
   cases hq : cntP k r c w qs with
   | nil => rw [hq] at hv; cases hv
   | cons a l => simp
 have h1 := h _ (win_mem hl)
 have h2 := win_ge hv
 show (cntP k r c w qs).getD 0 0 = v
 omega
section
variable {k r c w W V : Int} {ps : List PairB} {bs : List UInt8}
def xN (k r c w : Int) (W V : Int) (bs : List UInt8) (wl : List Bool) (n i : Nat) (p : PairB) : PairB := if wipB wl i = true then ([], []) else if i < n then qN k r c w W V bs i p else p
structure PRow (k r c w : Int) (ps : List PairB) (W V : Int) (bs : List UInt8) (wl : List Bool) (n : Nat) (xs : List PairB) : Prop where
 len : xs.length = ps.length
 at_ : ∀ (i : Nat) (p : PairB), ps[i]? = some p → xs[i]? = some (xN k r c w W V bs wl n i p)
theorem PBase.prow (h : PBase k r c w ps W V bs) (wl : List Bool) {n : Nat} (hn : n ≤ ps.length) : PRow k r c w ps W V bs wl n (wipeP wl (putsP ps (fullN k r c w ps 0 2 W V bs n)) ps.length) := by
 refine ⟨by rw [wipe_len, putsP_len], fun i p hp => ?_⟩
 have hi := (List.getElem?_eq_some_iff.1 hp).1
 rw [wipe_at (h.rowN n hn i p hp)]
 unfold xN
 by_cases hw : wipB wl i = true
 · rw [if_pos ⟨hi, hw⟩, if_pos hw]
 · rw [if_neg fun x => hw x.2, if_neg hw]
variable {wl : List Bool} {n : Nat} {xs : List PairB}
theorem PRow.back (hx : PRow k r c w ps W V bs wl n xs) {i : Nat} {x : PairB} (h : xs[i]? = some x) : ∃ p, ps[i]? = some p ∧ x = xN k r c w W V bs wl n i p := by
 have hi := (List.getElem?_eq_some_iff.1 h).1
 have hl := hx.len
 have hp : ps[i]? = some (ps[i]'(by omega)) := List.getElem?_eq_getElem _
 refine ⟨_, hp, ?_⟩
 have := hx.at_ i _ hp
 rw [h] at this
 injection this
theorem PRow.pure (h : PBase k r c w ps W V bs) (hx : PRow k r c w ps W V bs wl n xs) : PureRow k r c w xs := by
 intro i x hxi
 obtain ⟨p, hp, rfl⟩ := hx.back hxi
 unfold xN
 split
 · exact ⟨pureS_blank h.may, pureS_blank h.may⟩
 · split
   · exact (h.q hp).2.2.2.1
   · exact h.pure i p hp
theorem PRow.chk (h : PBase k r c w ps W V bs) (hx : PRow k r c w ps W V bs wl n xs) : chkI k r c w xs = 0 := by
 obtain ⟨hl, hpr⟩ := row_at h.row
 have hr : rowB k r c xs = true := by
   unfold rowB
   rw [hx.len, decide_eq_true hl, Bool.true_and, List.all_eq_true]
   intro x hxm
   obtain ⟨i, hi⟩ := List.getElem?_of_mem hxm
   obtain ⟨p, hp, rfl⟩ := hx.back hi
   unfold xN
   split
   · rfl
   · split
     · exact (h.q hp).2.2.2.2
     · exact hpr p (List.mem_of_getElem? hp)
 unfold chkI
 rw [if_pos h.may, if_pos hr]
theorem PRow.lenI (h : PBase k r c w ps W V bs) (hx : PRow k r c w ps W V bs wl n xs) : (xs.length : Int) = k + r := by rw [hx.len]; exact h.len
theorem PRow.datW (h : PBase k r c w ps W V bs) (hx : PRow k r c w ps W V bs wl n xs) {i : Nat} {p : PairB} (hp : ps[i]? = some p) : (thereL k r c w xs 2 W).getD i [] = if wipB wl i = true then [] else (thereL k r c w ps 2 W).getD i [] := by
 rw [pure_there h.may (hx.lenI h) (hx.pure h) (hx.at_ i p hp), pure_there h.may h.len h.pure hp]
 unfold xN
 split
 · exact datO_blank h.may
 · split
   · exact (h.q hp).1
   · rfl
theorem PRow.datV (h : PBase k r c w ps W V bs) (hx : PRow k r c w ps W V bs wl n xs) {i : Nat} {p : PairB} (hp : ps[i]? = some p) : (thereL k r c w xs 2 V).getD i [] = if wipB wl i = true then [] else if i < n then tab c.toNat (celU k.toNat (datM c.toNat bs) i) else [] := by
 rw [pure_there h.may (hx.lenI h) (hx.pure h) (hx.at_ i p hp)]
 unfold xN
 split
 · exact datO_blank h.may
 · split
   · exact (h.q hp).2.1
   · obtain ⟨v1, v2⟩ := h.noV hp
     unfold datO
     rw [if_neg v1, if_neg v2]
theorem PRow.holdsW (h : PBase k r c w ps W V bs) (hx : PRow k r c w ps W V bs wl n xs) {i : Nat} (hi : i < ps.length) : holdsAt (heldsP k r c w xs) i W = true ↔ (i < ps.length ∧ ¬ wipB wl i = true) := by
 have hp : ps[i]? = some ps[i] := List.getElem?_eq_getElem hi
 rw [pure_holds h.may (hx.pure h) (hx.at_ i _ hp) h.w1, ← pure_there h.may (hx.lenI h) (hx.pure h) (hx.at_ i _ hp), hx.datW h hp]
 by_cases hw : wipB wl i = true
 · rw [if_pos hw]
   simp [hw]
 · rw [if_neg hw, pure_there h.may h.len h.pure hp]
   have := (datO_hit (w := w) (v := W) h.may).2 (h.all i _ hp)
   exact ⟨fun _ => ⟨hi, hw⟩, fun _ => this⟩
theorem PRow.holdsV (h : PBase k r c w ps W V bs) (hx : PRow k r c w ps W V bs wl n xs) {i : Nat} (hi : i < ps.length) : holdsAt (heldsP k r c w xs) i V = true ↔ (i < n ∧ ¬ wipB wl i = true) := by
 have hmn := may_n h.may
 have hml := mayB_of.1 h.may
 have hp : ps[i]? = some ps[i] := List.getElem?_eq_getElem hi
 rw [pure_holds h.may (hx.pure h) (hx.at_ i _ hp) h.v1, ← pure_there h.may (hx.lenI h) (hx.pure h) (hx.at_ i _ hp), hx.datV h hp]
 by_cases hw : wipB wl i = true
 · rw [if_pos hw]
   simp [hw]
 · rw [if_neg hw]
   by_cases hin : i < n
   · rw [if_pos hin, tab_len]
     exact ⟨fun _ => ⟨hin, hw⟩, fun _ => by omega⟩
   · rw [if_neg hin]
     exact ⟨fun hh => absurd rfl hh, fun hh => absurd hh.1 hin⟩
theorem PRow.other (h : PBase k r c w ps W V bs) (hx : PRow k r c w ps W V bs wl n xs) {v : Int} (hv : 1 ≤ v) (hne : v ≠ V) {i : Nat} (hh : holdsAt (heldsP k r c w xs) i v = true) : holdsAt (heldsP k r c w ps) i v = true := by
 have hi : i < xs.length := by
   refine Decidable.by_contra fun hi => ?_
   unfold holdsAt at hh
   rw [List.getElem?_eq_none (by rw [helds_len]; omega)] at hh
   cases hh
 have hxi : xs[i]? = some xs[i] := List.getElem?_eq_getElem hi
 obtain ⟨p, hp, hxe⟩ := hx.back hxi
 rw [pure_holds h.may (hx.pure h) hxi hv, datO_hit h.may, hxe] at hh
 rw [pure_holds h.may h.pure hp hv, datO_hit h.may]
 unfold xN at hh
 split at hh
 · exfalso
   have := (datO_hit (q := ([], [])) (w := w) (v := v) h.may).2 hh
   rw [datO_blank h.may] at this
   exact this rfl
 · split at hh
   · exact (h.q hp).2.2.1 v hne hh
   · exact hh
theorem PRow.manyV (h : PBase k r c w ps W V bs) (hx : PRow k r c w ps W V bs wl n xs) (hn : n ≤ ps.length) : (cellsN (heldsP k r c w xs) V xs.length).length = leftN wl n := by
 rw [hx.len, cells_left (wl := wl) (n := n) _ fun i hi => hx.holdsV h hi, show min n ps.length = n by omega]
theorem PRow.manyW (h : PBase k r c w ps W V bs) (hx : PRow k r c w ps W V bs wl n xs) : (cellsN (heldsP k r c w xs) W xs.length).length = leftN wl ps.length := by
 rw [hx.len, cells_left (wl := wl) (n := ps.length) _ fun i hi => hx.holdsW h hi, show min ps.length ps.length = ps.length by omega]
theorem PRow.win (h : PBase k r c w ps W V bs) (hx : PRow k r c w ps W V bs wl n xs) (hn : n ≤ ps.length) (hg : (goneN wl ps.length : Int) ≤ r) : winI k r c w xs = if k ≤ (leftN wl n : Nat) then V else W := by
 have hml := mayB_of.1 h.may
 have hcp : chkI k r c w ps = 0 := by unfold chkI; rw [if_pos h.may, if_pos h.row]
 have hcx := hx.chk h
 have hold : ∀ u ∈ cntP k r c w xs, u ≠ V → u ≤ W := fun u hu hne => by
   have := win_ge (cnt_mono hcp hcx hx.len (fun i hh => hx.other h (cnt_pos hu).1 hne hh) hu)
   have : u ≤ winI k r c w ps := this
   rw [h.win] at this
   exact this
 have hVc : V ∈ cntP k r c w xs → k ≤ (leftN wl n : Nat) := fun hu => by
   have := cnt_many hu
   rw [hx.manyV h hn] at this
   exact this
 split
 · rename_i hk
   refine win_is (in_cnt hcx h.v1 (by omega) (by rw [hx.manyV h hn]; exact hk)) fun u hu => ?_
   have := h.lt
   by_cases e : u = V
   · omega
   · have := hold u hu e
     omega
 · rename_i hk
   have hlg := left_gone wl ps.length
   have hl := h.len
   refine win_is (in_cnt hcx h.w1 (by omega) (by rw [hx.manyW h]; omega)) fun u hu => ?_
   exact hold u hu fun e => hk (hVc (e ▸ hu))
theorem chunk_all (C : Nat) (bs : List UInt8) : ∀ (n : Nat), n * C ≤ bs.length → ((List.range n).flatMap fun i => tab C (datM C bs i)) = bs.take (n * C)
 | 0, _ => by simp
 | n + 1, h => by
   have e : (n + 1) * C = n * C + C := by rw [Nat.add_mul, Nat.one_mul]
   rw [e] at h
   rw [List.range_succ, List.flatMap_append, chunk_all C bs n (by omega), e, List.take_add]
   congr 1
   simp only [List.flatMap_cons, List.flatMap_nil, List.append_nil]
   refine List.ext_getElem? fun j => ?_
   by_cases hj : j < C
   · rw [tab_at _ hj, List.getElem?_take_of_lt hj, List.getElem?_drop, List.getElem?_eq_getElem (by omega)]
     unfold datM
     rw [List.getD_eq_getElem?_getD, List.getElem?_eq_getElem (by omega)]
     rfl
   · rw [List.getElem?_eq_none (by rw [tab_len]; omega), List.getElem?_eq_none (by simp; omega)]
theorem PRow.dataV (h : PBase k r c w ps W V bs) (hx : PRow k r c w ps W V bs wl n xs) (hn : n ≤ ps.length) (hk : k ≤ (leftN wl n : Nat)) : dataL k r c w xs 2 V k.toNat = bs := by
 have hmn := may_n h.may
 have hml := mayB_of.1 h.may
 have hl := hx.lenI h
 have hpm := pure_many h.may hl (hx.pure h) h.v1 xs.length (Nat.le_refl _)
 rw [hx.manyV h hn] at hpm
 have hkr : (k + r).toNat = xs.length := by omega
 have hwh : ∀ i p, p < c.toNat → wholeA k r c w xs 2 V i p = celU k.toNat (datM c.toNat bs) i p := fun i p hp => by
   unfold wholeA
   rw [hkr]
   refine coded_whole (C := c.toNat) (by rw [hpm]; omega) (by omega) (fun a ha hne => ?_) i
   have hpa : ps[a]? = some (ps[a]'(by have := hx.len; omega)) := List.getElem?_eq_getElem _
   have hd := hx.datV h hpa
   rw [hd] at hne
   unfold celM
   rw [hd]
   split at hne
   · exact absurd rfl hne
   · split at hne
     · rename_i h1 h2
       rw [if_neg h1, if_pos h2, tab_getD hp]
     · exact absurd rfl hne
 have e : dataL k r c w xs 2 V k.toNat = (List.range k.toNat).flatMap fun i => tab c.toNat (datM c.toNat bs i) := by
   unfold dataL
   rw [List.flatMap_def, List.flatMap_def]
   congr 1
   refine List.map_congr_left fun i hi => tab_eq2 fun p hp => ?_
   rw [hwh i p hp, celU_data _ (List.mem_range.1 hi)]
 rw [e, chunk_all c.toNat bs k.toNat (by rw [h.blen]; exact Nat.le_refl _), ← h.blen, List.take_length]
theorem PRow.dataW (h : PBase k r c w ps W V bs) (hx : PRow k r c w ps W V bs wl n xs) (hg : (goneN wl ps.length : Int) ≤ r) (hwc : (∀ i, i < ps.length → wipB wl i = false) ∨ codedB k r c w W ps = true) : dataL k r c w xs 2 W k.toNat = dataL k r c w ps 2 W k.toNat := by
 have hmn := may_n h.may
 have hml := mayB_of.1 h.may
 have hl := hx.lenI h
 have hxl := hx.len
 have hpl := h.len
 rcases hwc with hwc | hwc
 · have hT : thereL k r c w xs 2 W = thereL k r c w ps 2 W := by
     refine list_eq_at (by rw [thereL_len, thereL_len]; exact hxl) fun j hj => ?_
     rw [thereL_len] at hj
     have hp : ps[j]? = some (ps[j]'(by omega)) := List.getElem?_eq_getElem _
     have hd := hx.datW h hp
     rw [hwc j (by omega), if_neg (by decide)] at hd
     rw [List.getD_eq_getElem?_getD, List.getD_eq_getElem?_getD, List.getElem?_eq_getElem (by rw [thereL_len]; omega), List.getElem?_eq_getElem (by rw [thereL_len]; omega)] at hd
     rw [List.getElem?_eq_getElem (by rw [thereL_len]; omega), List.getElem?_eq_getElem (by rw [thereL_len]; omega)]
     simp only [Option.getD_some] at hd
     rw [hd]
   refine data_congr (fun i p hp => ?_) _
   unfold wholeA
   rw [hT]
 · have hbb : Base k r c w ps W := ⟨h.may, h.row, h.pure, by unfold verB; have := h.w1; have := h.lt; have h3 := h.ver; unfold verB at h3; rw [decide_eq_true_eq] at h3; exact decide_eq_true (by omega), h.told⟩
   have hself := near_self (k := k) (r := r) (c := c) (w := w) (W := W) (ps := ps)
   have hca := fun a p (ha : a < ps.length) (hp : p < c.toNat) => coded_at hbb h.fit hself hwc ha hp
   have hkr : (k + r).toNat = ps.length := by omega
   have hpm := pure_many h.may h.len h.pure h.w1 ps.length (Nat.le_refl _)
   have hpx := pure_many h.may hl (hx.pure h) h.w1 xs.length (Nat.le_refl _)
   rw [hx.manyW h, hxl] at hpx
   have hlg := left_gone wl ps.length
   have hp0 : PRow k r c w ps W V bs [] 0 ps := ⟨rfl, fun i p hp => by unfold xN; rw [if_neg (by simp [wipB]), if_neg (by omega)]; exact hp⟩
   have hm0 := hp0.manyW h
   rw [hm0] at hpm
   have hl0 : leftN [] ps.length = ps.length := by
     have := left_gone [] ps.length
     rw [gone_nil] at this
     omega
   refine data_congr (fun i p hp => ?_) _
   have e1 : wholeA k r c w ps 2 W i p = celU k.toNat (celM (thereL k r c w ps 2 W)) i p := by
     unfold wholeA
     rw [hkr]
     exact coded_whole (C := c.toNat) (by rw [hpm]; omega) (by omega) (fun a ha _ => hca a p ha hp) i
   have e2 : wholeA k r c w xs 2 W i p = celU k.toNat (celM (thereL k r c w ps 2 W)) i p := by
     unfold wholeA
     rw [hkr]
     refine coded_whole (C := c.toNat) (by rw [hpx]; omega) (by omega) (fun a ha hne => ?_) i
     have hpa : ps[a]? = some (ps[a]'(by omega)) := List.getElem?_eq_getElem _
     have hd := hx.datW h hpa
     rw [← hca a p (by omega) hp]
     rw [hd] at hne
     unfold celM
     rw [hd]
     split at hne
     · exact absurd rfl hne
     · rename_i h1
       rw [if_neg h1]
   rw [e1, e2]
theorem PRow.com (h : PBase k r c w ps W V bs) (hpa : parseE k r c w bs = 0) (hF : comE k r c w ps = 0) (hx : PRow k r c w ps W V bs wl n xs) (hn : n ≤ ps.length) (hg : (goneN wl ps.length : Int) ≤ r) (hwc : (∀ i, i < ps.length → wipB wl i = false) ∨ codedB k r c w W ps = true) : comE k r c w xs = 0 ∧ winI k r c w xs = (if k ≤ (leftN wl n : Nat) then V else W) ∧ comD k r c w xs = (if k ≤ (leftN wl n : Nat) then bs else comD k r c w ps) := by
 have hcp : chkI k r c w ps = 0 := by unfold chkI; rw [if_pos h.may, if_pos h.row]
 have hw := hx.win h hn hg
 have hv1 := h.v1
 have hw1 := h.w1
 have hD : comD k r c w xs = (if k ≤ (leftN wl n : Nat) then bs else comD k r c w ps) := by
   unfold comD
   rw [hw, h.win]
   split
   · rename_i hk
     exact hx.dataV h hn hk
   · exact hx.dataW h hg hwc
 refine ⟨com_of h.may (hx.chk h) (hx.pure h) hw (by split <;> omega) ?_, hw, hD⟩
 rw [hD]
 split
 · exact hpa
 · exact (com_parts hcp hF).2.2
end
theorem comV_form (k r c w : Int) (ps : List PairB) : ∃ a b dv y e, comV k r c w ps = .tup [.agg [.val (.int .i64 a), .val (.int .i64 b), dv], .val (.int .i64 y), .val (.int .i64 e)] ∧ ∃ n cs, RdSl dv n cs := by
 unfold comV
 split
 · exact ⟨_, _, _, _, _, rfl, _, _, treeR_rd _ _⟩
 · exact ⟨0, 0, nilS, 0, _, rfl, 0, [], ⟨.inl ⟨rfl, rfl⟩⟩⟩
structure PtOk (k r c w : Int) (ps : List PairB) (V : Int) (bs : List UInt8) (wl : List Bool) : Prop where
 lt : winI k r c w ps < V
 now : ∀ n, n ≤ ps.length → comE k r c w (putsP ps (fullN k r c w ps 0 2 (winI k r c w ps) V bs n)) = 0 ∧ winI k r c w (putsP ps (fullN k r c w ps 0 2 (winI k r c w ps) V bs n)) = (if k ≤ (n : Int) then V else winI k r c w ps) ∧ comD k r c w (putsP ps (fullN k r c w ps 0 2 (winI k r c w ps) V bs n)) = (if k ≤ (n : Int) then bs else comD k r c w ps)
 then_ : (goneN wl ps.length : Int) ≤ r → codedB k r c w (winI k r c w ps) ps = true → ∀ n, n ≤ ps.length → comE k r c w (wipeP wl (putsP ps (fullN k r c w ps 0 2 (winI k r c w ps) V bs n)) ps.length) = 0 ∧ winI k r c w (wipeP wl (putsP ps (fullN k r c w ps 0 2 (winI k r c w ps) V bs n)) ps.length) = (if k ≤ (leftN wl n : Nat) then V else winI k r c w ps) ∧ comD k r c w (wipeP wl (putsP ps (fullN k r c w ps 0 2 (winI k r c w ps) V bs n)) ps.length) = (if k ≤ (leftN wl n : Nat) then bs else comD k r c w ps)
def onceLp : Nat → Bool := fun d => d != 25
set_option maxHeartbeats 4000000 in
theorem law16_Point (k r c w V len dep : Int) (v dv wv : AV) (ps : List PairB) (cells : List AV) (l : List RefI) (y : List AV) (wl : List Bool) (x : List AV) (hv : RowV v ps cells) (hd : RdSl dv l.length (refsA l ++ y)) (hn : l.length ≤ 9223372036854775807) (hw : RdSl wv wl.length (boolsA wl ++ x)) (hok : putsE k r c w ps 0 V len dep l = 0 → comE k r c w ps = 0 → pureP k r c w ps = true → fitP k r c w V ps = true → missL k r c w (winI k r c w ps) ps = [] → PtOk k r c w ps V (madeB k c len dep l) wl) : FSpec Tryz.prog 7 [parV k r c w, v, intV V, .agg [intV len, intV dep, dv], wv] ⟨boolV true, []⟩ := by
 have hp := hv.rd.plain
 have hwp := hw.plain
 have haw := law16_awake
 have hpu := commit_Puts k r c w 0 V len dep v dv ps cells l hv ⟨y, hd⟩ hn
 have hrd := commit_Read k r c w v ps cells hv
 have f0 := rd_fz hd
 have q0 := rd_one hd
 have p0 := hd.plain
 have hlen0 : lenE Tryz.prog 27 (.val (.slice none 0 0)) = some (.val (.int .i64 0)) := by kernel_rfl
 obtain ⟨PL, PD, DV, W, F, hcv, DN, DC, hDr⟩ := comV_form k r c w ps
 have hcvE : F = comE k r c w ps ∧ (comE k r c w ps = 0 → W = winI k r c w ps) := by
   unfold comV at hcv
   split at hcv
   · rename_i h
     simp only [intV, AV.tup.injEq, List.cons.injEq, AV.val.injEq, Value.int.injEq, true_and, and_true] at hcv
     exact ⟨by omega, fun _ => hcv.2.1.symm⟩
   · rename_i h
     simp only [intV, AV.tup.injEq, List.cons.injEq, AV.val.injEq, Value.int.injEq, true_and, and_true] at hcv
     exact ⟨hcv.2.2.symm, fun h2 => absurd h2 h⟩
 rw [hcv] at hrd
 have f1 := rd_fz hDr
 have q1 := rd_one hDr
 have t1 := rd_shift hDr
 have p1 := hDr.plain
 unfold putsV at hpu
 by_cases hE : putsE k r c w ps 0 V len dep l = 0
 · rw [if_pos hE] at hpu
   have hLr := treeR_rd (k + r).toNat (putsA (putsL k r c w ps 0 V len dep l))
   have pL := hLr.plain
   have sL := rd_shift hLr
   have hc : chkI k r c w ps = 0 := by
     unfold putsE at hE
     split at hE
     · assumption
     · contradiction
   obtain ⟨hm, hr, hN, hN16⟩ := chk_ok hc
   have hmn := may_n hm
   have hNr : (k + r).toNat = ps.length := by omega
   rw [hNr] at hpu hLr pL sL
   by_cases hF : F = 0
   · subst hF
     have hF := hcvE.1.symm
     have hWe := hcvE.2 hF
     clear hcvE
     have hfi := law16_fit k r c w V v ps cells hv hm hr
     have hpr := law16_pure k r c w v ps cells hv hm hr
     by_cases hT : fitP k r c w V ps = true
     · rw [hT] at hfi
       by_cases hP : pureP k r c w ps = true
       · rw [hP] at hpr
         have hok := hok hE hF hP hT
         have hmi := census_Missing k r c w W v ps cells hv
         have hpo := commit_Point k r c w
         have hcd := law16_coded k r c w W v ps cells hv hm hr
         simp only [hm, if_true] at hpo
         have hmE : missE k r c w W ps = 0 := by
           have := win_ver hc (com_parts hc hF).1
           unfold verB at this
           rw [decide_eq_true_eq] at this
           unfold missE
           rw [if_pos hc, if_pos (by omega)]
         rw [hmE] at hmi
         have hMr := treeR_rd (missL k r c w W ps).length (intsA (missL k r c w W ps))
         have pM := hMr.plain
         have sM := rd_shift hMr
         by_cases hM : missL k r c w W ps = []
         · rw [hWe] at hM
           obtain ⟨hlt, hnow, hthen⟩ := hok hM
           rw [← hWe] at hM hlt hnow hthen
           have hLL : putsL k r c w ps 0 V len dep l = fullN k r c w ps 0 2 W V (madeB k c len dep l) ps.length := by unfold putsL; rw [hNr, hWe]
           rw [hLL] at hpu hLr pL sL
           have hD : chkD k r c w len dep l = 0 := by
             unfold putsE at hE
             rw [if_pos hc] at hE
             split at hE
             · omega
             · exact hE
           obtain ⟨_, m1, m2, m3⟩ := made_read hD
           have hl1 : l.length ≤ 1000 := by
             obtain ⟨_, _, _, b4, _⟩ := desc_bounds hD
             have hw := may_w hm
             have := d_bounds hw.1 hw.2
             unfold dI at b4
             omega
           have hputs : ∀ p ∈ fullN k r c w ps 0 2 W V (madeB k c len dep l) ps.length, p.dr < ps.length ∧ p.sl < 2 := fun p hp => by
             obtain ⟨i, hi, rfl⟩ := List.mem_map.1 hp
             rw [List.mem_range] at hi
             exact ⟨hi, older_lt _ _ _ _ _ _ _ _⟩
           have hLn := fullN_len k r c w ps 0 2 W V (madeB k c len dep l) ps.length
           have hLr2 : RdSl (treeR ps.length (putsA (fullN k r c w ps 0 2 W V (madeB k c len dep l) ps.length))) (fullN k r c w ps 0 2 W V (madeB k c len dep l) ps.length).length (putsA (fullN k r c w ps 0 2 W V (madeB k c len dep l) ps.length)) := by rw [hLn]; exact hLr
           have hbeh := fun n hn wv' wl' x' hw' => law16_behind v (treeR ps.length (putsA (fullN k r c w ps 0 2 W V (madeB k c len dep l) ps.length))) wv' ps cells hv (fullN k r c w ps 0 2 W V (madeB k c len dep l) ps.length) hLr2 n (by rw [hLn]; exact hn) (by rw [hLn]; omega) hputs wl' x' hw' (by omega) hN16
           have hcs := fun n => Cel.puts ((fullN k r c w ps 0 2 W V (madeB k c len dep l) ps.length).take n) hv.cel fun p hp => hputs p (List.mem_of_mem_take hp)
           have htk := fun n (hn : n ≤ ps.length) => full_take (k := k) (r := r) (c := c) (w := w) ps 0 2 W V (madeB k c len dep l) hn
           have hcv0 := hcv
           unfold comV at hcv0
           rw [if_pos hF] at hcv0
           unfold descA at hcv0
           simp only [intV, AV.tup.injEq, AV.agg.injEq, List.cons.injEq, AV.val.injEq, Value.int.injEq, true_and, and_true] at hcv0
           obtain ⟨⟨e1, e2, e3⟩, e4⟩ := hcv0
           clear e4
           have hDA : ∀ (qs : List PairB) (b : Prop) [Decidable b], comE k r c w qs = 0 → winI k r c w qs = (if b then V else W) → comD k r c w qs = (if b then madeB k c len dep l else comD k r c w ps) → comV k r c w qs = if b then .tup [.agg [.val (.int .i64 len), .val (.int .i64 dep), treeR l.length (refsA l)], .val (.int .i64 V), .val (.int .i64 0)] else .tup [.agg [.val (.int .i64 PL), .val (.int .i64 PD), DV], .val (.int .i64 W), .val (.int .i64 0)] := fun qs b _ h1 h2 h3 => by
             unfold comV
             rw [if_pos h1, h2, h3]
             split
             · rw [m1, m2, m3]
               rfl
             · unfold descA
               rw [e1, e2, e3]
               rfl
           have hPRl : (pRefs (comD k r c w ps)).length ≤ 1000 := refs_le hc hF
           have hRr2 : RdSl DV (pRefs (comD k r c w ps)).length (refsA (pRefs (comD k r c w ps)) ++ []) := by rw [← e3, List.append_nil]; exact treeR_rd _ _
           have hsO := law16_same PL PD (pRefs (comD k r c w ps)) DV DV [] [] hRr2 hRr2 hPRl
           have hlr := treeR_rd l.length (refsA l)
           have hsN := law16_same len dep l (treeR l.length (refsA l)) dv [] y (by rw [List.append_nil]; exact hlr) hd hl1
           have hnowR : ∀ n, n ≤ ps.length → ∃ NV, FSpec Tryz.prog 20 [v, treeR ps.length (putsA (fullN k r c w ps 0 2 W V (madeB k c len dep l) ps.length)), intV (n : Nat), nilS] ⟨.tup [NV, intV 0], []⟩ ∧ plain NV = true ∧ (∀ j, shift j NV = NV) ∧ FSpec Tryz.prog 17 [parV k r c w, NV] ⟨if k ≤ (n : Int) then .tup [.agg [.val (.int .i64 len), .val (.int .i64 dep), treeR l.length (refsA l)], .val (.int .i64 V), .val (.int .i64 0)] else .tup [.agg [.val (.int .i64 PL), .val (.int .i64 PD), DV], .val (.int .i64 W), .val (.int .i64 0)], []⟩ := fun n hn => by
             have h1 := hbeh n hn nilS [] [] ⟨.inl ⟨rfl, rfl⟩⟩
             rw [wcA_nil, gone_nil] at h1
             have h2 := (hcs n).row
             rw [putsP_len, htk n hn] at h2
             rw [htk n hn] at h1
             obtain ⟨g1, g2, g3⟩ := hnow n hn
             have h4 := commit_Read k r c w _ _ _ h2
             rw [hDA _ _ g1 g2 g3] at h4
             exact ⟨_, h1, h2.rd.plain, rd_shift h2.rd, h4⟩
           have hthenR : ∀ n, n ≤ ps.length → ∃ NV a b dx yv ev, FSpec Tryz.prog 20 [v, treeR ps.length (putsA (fullN k r c w ps 0 2 W V (madeB k c len dep l) ps.length)), intV (n : Nat), wv] ⟨.tup [NV, intV (goneN wl ps.length : Nat)], []⟩ ∧ plain NV = true ∧ (∀ j, shift j NV = NV) ∧ FSpec Tryz.prog 17 [parV k r c w, NV] ⟨.tup [.agg [.val (.int .i64 a), .val (.int .i64 b), dx], .val (.int .i64 yv), .val (.int .i64 ev)], []⟩ ∧ (∃ n cs, RdSl dx n cs) ∧ ((goneN wl ps.length : Int) ≤ r → codedB k r c w W ps = true → AV.tup [.agg [.val (.int .i64 a), .val (.int .i64 b), dx], .val (.int .i64 yv), .val (.int .i64 ev)] = if k ≤ (leftN wl n : Nat) then .tup [.agg [.val (.int .i64 len), .val (.int .i64 dep), treeR l.length (refsA l)], .val (.int .i64 V), .val (.int .i64 0)] else .tup [.agg [.val (.int .i64 PL), .val (.int .i64 PD), DV], .val (.int .i64 W), .val (.int .i64 0)]) := fun n hn => by
             have h1 := hbeh n hn wv wl x hw
             have h2 := ((hcs n).wipe wl ps.length).row
             rw [wipe_len, putsP_len, htk n hn] at h2
             rw [htk n hn] at h1
             have h4 := commit_Read k r c w _ _ _ h2
             obtain ⟨a, b, dx, yv, ev, hf, hdx⟩ := comV_form k r c w (wipeP wl (putsP ps (fullN k r c w ps 0 2 W V (madeB k c len dep l) n)) ps.length)
             rw [hf] at h4
             refine ⟨_, a, b, dx, yv, ev, h1, h2.rd.plain, rd_shift h2.rd, h4, hdx, fun hg hcd => ?_⟩
             obtain ⟨g1, g2, g3⟩ := hthen hg hcd n hn
             rw [← hf]
             exact hDA _ _ g1 g2 g3
           have hWV : ¬ W = V := by omega
           have hVW : ¬ V = W := by omega
           have hMn : treeR (missL k r c w W ps).length (intsA (missL k r c w W ps)) = nilS := by rw [hM]; rfl
           rw [hMn] at hmi
           have hlen41 : lenE Tryz.prog 41 (.val (.slice none 0 0)) = some (.val (.int .i64 0)) := by kernel_rfl
           have hntt : ∀ (x y : Operand), binE Tryz.prog .neq 4 x y (.val (.bool true)) (.val (.bool true)) = some (.val (.bool false)) := fun x y => by kernel_rfl
           have hnff : ∀ (x y : Operand), binE Tryz.prog .neq 4 x y (.val (.bool false)) (.val (.bool false)) = some (.val (.bool false)) := fun x y => by kernel_rfl
           have fL := rd_fz hlr
           have qL := rd_one hlr
           have tL := rd_shift hlr
           have lL := hLr.len' (P := Tryz.prog) (t := 27)
           have lw := hw.len' (P := Tryz.prog) (t := 25)
           have lR := hv.rd.len' (P := Tryz.prog) (t := 24)
           have aw := fun kk => hw.addr' (P := Tryz.prog) (t := 25) (k := kk)
           clear hnow hthen hbeh hcs htk hputs hDA hcv e3 hMn hMr pM sM hLr2 m1 m2 m3 hRr2 hok
           have plr := hlr.plain
           generalize codedB k r c w W ps = CB at *
           generalize goneN wl ps.length = G at *
           generalize treeR ps.length (putsA (fullN k r c w ps 0 2 W V (madeB k c len dep l) ps.length)) = LV at *
           generalize treeR l.length (refsA l) = NL at *
           generalize ps.length = N at *
           unfold nilS at hmi hnowR
           simp only [intV] at haw hpu hrd hfi hpr hmi hpo hcd hnowR hthenR hsO hsN
           replace hnowR := Hid.mk hnowR
           replace hthenR := Hid.mk hthenR
           replace hmn := Hid.mk hmn
           replace hN := Hid.mk hN
           replace hN16 := Hid.mk hN16
           replace hLr := Hid.mk hLr
           replace hlr := Hid.mk hlr
           replace hNr := Hid.mk hNr
           replace hl1 := Hid.mk hl1
           refine fspec_of_body follows Tryz.func7 (by unfold Tryz.f7; rfl) (by unfold Tryz.f7; simp) onceLp (by unfold Tryz.f7; simp) (by kernel_rfl) ?_; unfold Tryz.f7
           simp only [↓pre, simprocAttr, parV, sx, tys7, onceLp, bne, postU, postA, storeE, allocE, put_at, push_at, f0, q0, f1, q1, t1, fL, qL, tL, hntt, hnff, lL, lR, lw, hWV, hVW, sr]
           refine call_plain (haw) (by rfl) ?_; simp only [↓pre, simprocAttr, parV, sx, tys7, onceLp, bne, postU, postA, storeE, allocE, put_at, push_at, f0, q0, f1, q1, t1, fL, qL, tL, hntt, hnff, lL, lR, lw, hWV, hVW, sL, hlen41, sr]; refine call_plain (hpu) (by simp only [parV, plQ, *]) ?_; simp only [↓pre, simprocAttr, parV, sx, tys7, onceLp, bne, postU, postA, storeE, allocE, put_at, push_at, f0, q0, f1, q1, t1, fL, qL, tL, hntt, hnff, lL, lR, lw, hWV, hVW, sL, hlen41, sr]; refine call_plain (hrd) (by simp only [parV, plQ, *]) ?_; simp only [↓pre, simprocAttr, parV, sx, tys7, onceLp, bne, postU, postA, storeE, allocE, put_at, push_at, f0, q0, f1, q1, t1, fL, qL, tL, hntt, hnff, lL, lR, lw, hWV, hVW, sL, hlen41, sr]; refine call_plain (hfi) (by simp only [parV, plQ, *]) ?_; simp only [↓pre, simprocAttr, parV, sx, tys7, onceLp, bne, postU, postA, storeE, allocE, put_at, push_at, f0, q0, f1, q1, t1, fL, qL, tL, hntt, hnff, lL, lR, lw, hWV, hVW, sL, hlen41, sr]; refine call_plain (hpr) (by simp only [parV, plQ, *]) ?_; simp only [↓pre, simprocAttr, parV, sx, tys7, onceLp, bne, postU, postA, storeE, allocE, put_at, push_at, f0, q0, f1, q1, t1, fL, qL, tL, hntt, hnff, lL, lR, lw, hWV, hVW, sL, hlen41, sr]; refine call_plain (hmi) (by simp only [parV, plQ, *]) ?_; simp only [↓pre, simprocAttr, parV, sx, tys7, onceLp, bne, postU, postA, storeE, allocE, put_at, push_at, f0, q0, f1, q1, t1, fL, qL, tL, hntt, hnff, lL, lR, lw, hWV, hVW, sL, hlen41, sr]; refine call_plain (hpo) (by rfl) ?_; simp only [↓pre, simprocAttr, parV, sx, tys7, onceLp, bne, postU, postA, storeE, allocE, put_at, push_at, f0, q0, f1, q1, t1, fL, qL, tL, hntt, hnff, lL, lR, lw, hWV, hVW, sL, hlen41, sr]; refine call_plain (hcd) (by simp only [parV, plQ, *]) ?_; simp only [↓pre, simprocAttr, parV, sx, tys7, onceLp, bne, postU, postA, storeE, allocE, put_at, push_at, f0, q0, f1, q1, t1, fL, qL, tL, hntt, hnff, lL, lR, lw, hWV, hVW, sL, hlen41, sr]
           rw [codeW_loop]
           refine loop_intro (fun q e m => ∃ i, q + i = N + 1 ∧ e 1 = v ∧ e 2 = intV V ∧ e 4 = wv ∧ e 5 = .tptr 0 [intV k, intV r, intV c, intV w] ∧ e 8 = .tptr 0 [intV len, intV dep, dv] ∧ e 12 = LV ∧ e 14 = .tptr 0 [intV PL, intV PD, DV] ∧ e 15 = intV W ∧ e 19 = intV k ∧ e 21 = .val (.bool CB) ∧ e 22 = intV (i : Nat)) (N + 1) ⟨0, by omega, rfl, rfl, rfl, rfl, rfl, rfl, rfl, rfl, rfl, rfl, rfl⟩ ?_
           rintro q e m ⟨i, hq, e1, e2, e4, e5, e8, e12, e14, e15, e19, e21, e22⟩
           replace hq := Hid.mk hq
           by_cases hli : i ≤ N
           · have hli' : ((i : Nat) : Int) ≤ ((N : Nat) : Int) := by omega
             have wi := wrap_succ (n := i) (by have := hN16.out; omega)
             obtain ⟨NV, g1, g2, g3, g4⟩ := hnowR.out i hli
             obtain ⟨NT, a, b, dx, yv, ev, n1, n2, n3, n4, ⟨_, _, hdx⟩, hif⟩ := hthenR.out i hli
             have hX : ∃ A B DX Y, FSpec Tryz.prog 17 [.agg [.val (.int .i64 k), .val (.int .i64 r), .val (.int .i64 c), .val (.int .i64 w)], NV] ⟨.tup [.agg [.val (.int .i64 A), .val (.int .i64 B), DX], .val (.int .i64 Y), .val (.int .i64 0)], []⟩ ∧ (∃ n cs, RdSl DX n cs) ∧ ((Y = V ∧ k ≤ ((i : Nat) : Int) ∧ FSpec Tryz.prog 21 [.agg [.val (.int .i64 A), .val (.int .i64 B), DX], .agg [.val (.int .i64 len), .val (.int .i64 dep), dv]] ⟨boolV true, []⟩) ∨ (Y = W ∧ ¬ k ≤ ((i : Nat) : Int) ∧ FSpec Tryz.prog 21 [.agg [.val (.int .i64 A), .val (.int .i64 B), DX], .agg [.val (.int .i64 PL), .val (.int .i64 PD), DV]] ⟨boolV true, []⟩)) := by
               by_cases hk : k ≤ ((i : Nat) : Int)
               · rw [if_pos hk] at g4
                 exact ⟨_, _, _, _, g4, ⟨_, _, hlr.out⟩, .inl ⟨rfl, hk, hsN⟩⟩
               · rw [if_neg hk] at g4
                 exact ⟨_, _, _, _, g4, ⟨_, _, hDr⟩, .inr ⟨rfl, hk, hsO⟩⟩
             have hZ : r < ((G : Nat) : Int) ∨ (¬ r < ((G : Nat) : Int) ∧ CB = false) ∨ (¬ r < ((G : Nat) : Int) ∧ CB = true ∧ ev = 0 ∧ ((yv = V ∧ k ≤ (leftN wl i : Nat) ∧ FSpec Tryz.prog 21 [.agg [.val (.int .i64 a), .val (.int .i64 b), dx], .agg [.val (.int .i64 len), .val (.int .i64 dep), dv]] ⟨boolV true, []⟩) ∨ (yv = W ∧ ¬ k ≤ (leftN wl i : Nat) ∧ FSpec Tryz.prog 21 [.agg [.val (.int .i64 a), .val (.int .i64 b), dx], .agg [.val (.int .i64 PL), .val (.int .i64 PD), DV]] ⟨boolV true, []⟩))) := by
               by_cases hG : r < ((G : Nat) : Int)
               · exact .inl hG
               · cases hCB : CB with
                 | false => exact .inr (.inl ⟨hG, rfl⟩)
                 | true =>
                   have h := hif (by omega) hCB
                   refine .inr (.inr ⟨hG, rfl, ?_⟩)
                   by_cases hk : k ≤ (leftN wl i : Nat)
                   · rw [if_pos hk] at h
                     simp only [AV.tup.injEq, AV.agg.injEq, List.cons.injEq, AV.val.injEq, Value.int.injEq, true_and, and_true] at h
                     obtain ⟨⟨h1, h2, h3⟩, h4, h5⟩ := h
                     rw [h1, h2, h3]
                     exact ⟨h5, .inl ⟨h4, hk, hsN⟩⟩
                   · rw [if_neg hk] at h
                     simp only [AV.tup.injEq, AV.agg.injEq, List.cons.injEq, AV.val.injEq, Value.int.injEq, true_and, and_true] at h
                     obtain ⟨⟨h1, h2, h3⟩, h4, h5⟩ := h
                     rw [h1, h2, h3]
                     exact ⟨h5, .inr ⟨h4, hk, hsO⟩⟩
             obtain ⟨A, B, DX, Y, g5, ⟨_, _, hDX⟩, hY⟩ := hX
             have fx := rd_fz hdx
             have qx := rd_one hdx
             have tx := rd_shift hdx
             have px := hdx.plain
             have fX := rd_fz hDX
             have qX := rd_one hDX
             have tX := rd_shift hDX
             have pX := hDX.plain
             have ox := rd_okA hdx
             have cx := rd_cells hdx
             have oX := rd_okA hDX
             have cX := rd_cells hDX
             clear g4 hif hdx hDX
             rcases hY with ⟨hYV, hk, hs⟩ | ⟨hYV, hk, hs⟩
             all_goals rw [hYV] at g5
             all_goals (
               simp only [↓pre, simprocAttr, parV, sx, tys7, onceLp, bne, postU, postA, storeE, allocE, put_at, push_at, f0, q0, f1, q1, t1, fL, qL, tL, hntt, hnff, lL, lR, lw, hWV, hVW, e1, e2, e4, e5, e8, e12, e14, e15, e19, e21, e22, hli', g3, n3, fx, qx, tx, fX, qX, tX, ↓ox, ↓cx, ↓oX, ↓cX, hk, sr]
               refine call_plain (g1) (by simp only [parV, plQ, *]) ?_; simp only [↓pre, simprocAttr, parV, sx, tys7, onceLp, bne, postU, postA, storeE, allocE, put_at, push_at, f0, q0, f1, q1, t1, fL, qL, tL, hntt, hnff, lL, lR, lw, hWV, hVW, e1, e2, e4, e5, e8, e12, e14, e15, e19, e21, e22, hli', g3, n3, fx, qx, tx, fX, qX, tX, ↓ox, ↓cx, ↓oX, ↓cX, hk, sr]; refine call_plain (g5) (by simp only [parV, plQ, *]) ?_; simp only [↓pre, simprocAttr, parV, sx, tys7, onceLp, bne, postU, postA, storeE, allocE, put_at, push_at, f0, q0, f1, q1, t1, fL, qL, tL, hntt, hnff, lL, lR, lw, hWV, hVW, e1, e2, e4, e5, e8, e12, e14, e15, e19, e21, e22, hli', g3, n3, fx, qx, tx, fX, qX, tX, ↓ox, ↓cx, ↓oX, ↓cX, hk, sr]
               rcases hZ with hG | ⟨hG, hCB⟩ | ⟨hG, hCB, hev, hYZ⟩
               · refine call_plain (hs) (by simp only [parV, plQ, *]) ?_; simp only [↓pre, simprocAttr, parV, sx, tys7, onceLp, bne, postU, postA, storeE, allocE, put_at, push_at, f0, q0, f1, q1, t1, fL, qL, tL, hntt, hnff, lL, lR, lw, hWV, hVW, e1, e2, e4, e5, e8, e12, e14, e15, e19, e21, e22, hli', g3, n3, fx, qx, tx, fX, qX, tX, ↓ox, ↓cx, ↓oX, ↓cX, hk, hG, wi, sr]; refine call_plain (n1) (by simp only [parV, plQ, *]) ?_; simp only [↓pre, simprocAttr, parV, sx, tys7, onceLp, bne, postU, postA, storeE, allocE, put_at, push_at, f0, q0, f1, q1, t1, fL, qL, tL, hntt, hnff, lL, lR, lw, hWV, hVW, e1, e2, e4, e5, e8, e12, e14, e15, e19, e21, e22, hli', g3, n3, fx, qx, tx, fX, qX, tX, ↓ox, ↓cx, ↓oX, ↓cX, hk, hG, wi, sr]; refine call_plain (n4) (by simp only [parV, plQ, *]) ?_; simp only [↓pre, simprocAttr, parV, sx, tys7, onceLp, bne, postU, postA, storeE, allocE, put_at, push_at, f0, q0, f1, q1, t1, fL, qL, tL, hntt, hnff, lL, lR, lw, hWV, hVW, e1, e2, e4, e5, e8, e12, e14, e15, e19, e21, e22, hli', g3, n3, fx, qx, tx, fX, qX, tX, ↓ox, ↓cx, ↓oX, ↓cX, hk, hG, wi, sr]
                 exact ⟨q - 1, by have := hq.out; omega, i + 1, by have := hq.out; omega, rfl⟩
               · refine call_plain (hs) (by simp only [parV, plQ, *]) ?_; simp only [↓pre, simprocAttr, parV, sx, tys7, onceLp, bne, postU, postA, storeE, allocE, put_at, push_at, f0, q0, f1, q1, t1, fL, qL, tL, hntt, hnff, lL, lR, lw, hWV, hVW, e1, e2, e4, e5, e8, e12, e14, e15, e19, e21, e22, hli', g3, n3, fx, qx, tx, fX, qX, tX, ↓ox, ↓cx, ↓oX, ↓cX, hk, hG, hCB, wi, sr]; refine call_plain (n1) (by simp only [parV, plQ, *]) ?_; simp only [↓pre, simprocAttr, parV, sx, tys7, onceLp, bne, postU, postA, storeE, allocE, put_at, push_at, f0, q0, f1, q1, t1, fL, qL, tL, hntt, hnff, lL, lR, lw, hWV, hVW, e1, e2, e4, e5, e8, e12, e14, e15, e19, e21, e22, hli', g3, n3, fx, qx, tx, fX, qX, tX, ↓ox, ↓cx, ↓oX, ↓cX, hk, hG, hCB, wi, sr]; refine call_plain (n4) (by simp only [parV, plQ, *]) ?_; simp only [↓pre, simprocAttr, parV, sx, tys7, onceLp, bne, postU, postA, storeE, allocE, put_at, push_at, f0, q0, f1, q1, t1, fL, qL, tL, hntt, hnff, lL, lR, lw, hWV, hVW, e1, e2, e4, e5, e8, e12, e14, e15, e19, e21, e22, hli', g3, n3, fx, qx, tx, fX, qX, tX, ↓ox, ↓cx, ↓oX, ↓cX, hk, hG, hCB, wi, sr]
                 exact ⟨q - 1, by have := hq.out; omega, i + 1, by have := hq.out; omega, rfl⟩
               · refine call_plain (hs) (by simp only [parV, plQ, *]) ?_; simp only [↓pre, simprocAttr, parV, sx, tys7, onceLp, bne, postU, postA, storeE, allocE, put_at, push_at, f0, q0, f1, q1, t1, fL, qL, tL, hntt, hnff, lL, lR, lw, hWV, hVW, e1, e2, e4, e5, e8, e12, e14, e15, e19, e21, e22, hli', g3, n3, fx, qx, tx, fX, qX, tX, ↓ox, ↓cx, ↓oX, ↓cX, hk, hG, hCB, hev, sr]; refine call_plain (n1) (by simp only [parV, plQ, *]) ?_; simp only [↓pre, simprocAttr, parV, sx, tys7, onceLp, bne, postU, postA, storeE, allocE, put_at, push_at, f0, q0, f1, q1, t1, fL, qL, tL, hntt, hnff, lL, lR, lw, hWV, hVW, e1, e2, e4, e5, e8, e12, e14, e15, e19, e21, e22, hli', g3, n3, fx, qx, tx, fX, qX, tX, ↓ox, ↓cx, ↓oX, ↓cX, hk, hG, hCB, hev, sr]; refine call_plain (n4) (by simp only [parV, plQ, *]) ?_; simp only [↓pre, simprocAttr, parV, sx, tys7, onceLp, bne, postU, postA, storeE, allocE, put_at, push_at, f0, q0, f1, q1, t1, fL, qL, tL, hntt, hnff, lL, lR, lw, hWV, hVW, e1, e2, e4, e5, e8, e12, e14, e15, e19, e21, e22, hli', g3, n3, fx, qx, tx, fX, qX, tX, ↓ox, ↓cx, ↓oX, ↓cX, hk, hG, hCB, hev, sr]
                 rw [codeW_loop]
                 generalize m.next = MX
                 refine loop_cut (fun e' m' => e' 1 = v ∧ e' 2 = intV V ∧ e' 4 = wv ∧ e' 5 = .tptr 0 [intV k, intV r, intV c, intV w] ∧ e' 8 = .tptr 0 [intV len, intV dep, dv] ∧ e' 12 = LV ∧ e' 14 = .tptr 0 [intV PL, intV PD, DV] ∧ e' 15 = intV W ∧ e' 19 = intV k ∧ e' 21 = .val (.bool CB) ∧ e' 22 = intV (i : Nat) ∧ e' 25 = .ptr MX 0 ∧ e' 26 = intV yv ∧ e' 27 = intV 0 ∧ e' 30 = intV (leftN wl i : Nat) ∧ Hid (m'.at_ MX = some ⟨[intV a, intV b, dx], 33, .var, true⟩)) (fun e' m' hR => ?_) ?_
                 · clear e1 e2 e4 e5 e8 e12 e14 e15 e19 e21 e22
                   obtain ⟨e1, e2, e4, e5, e8, e12, e14, e15, e19, e21, e22, e25, e26, e27, e30, hb⟩ := hR
                   have hb := hb.out
                   rcases hYZ with ⟨hyv, hkl, hs2⟩ | ⟨hyv, hkl, hs2⟩
                   all_goals rw [hyv] at e26
                   all_goals (
                     simp only [↓pre, simprocAttr, parV, sx, tys7, onceLp, bne, postU, postA, storeE, allocE, put_at, push_at, f0, q0, f1, q1, t1, fL, qL, tL, hntt, hnff, lL, lR, lw, hWV, hVW, e1, e2, e4, e5, e8, e12, e14, e15, e19, e21, e22, e25, e26, e27, e30, hb, hkl, fx, qx, tx, wi, sr]
                     refine call_plain (hs2) (by simp only [parV, plQ, *]) ?_; simp only [↓pre, simprocAttr, parV, sx, tys7, onceLp, bne, postU, postA, storeE, allocE, put_at, push_at, f0, q0, f1, q1, t1, fL, qL, tL, hntt, hnff, lL, lR, lw, hWV, hVW, e1, e2, e4, e5, e8, e12, e14, e15, e19, e21, e22, e25, e26, e27, e30, hb, hkl, fx, qx, tx, wi, sr]
                     exact ⟨q - 1, by have := hq.out; omega, i + 1, by have := hq.out; omega, by rw [hCB], rfl⟩
                     )
                 · refine loop_intro (fun q2 e m => ∃ j, q2 + j = i ∧ e 1 = v ∧ e 2 = intV V ∧ e 4 = wv ∧ e 5 = .tptr 0 [intV k, intV r, intV c, intV w] ∧ e 8 = .tptr 0 [intV len, intV dep, dv] ∧ e 12 = LV ∧ e 14 = .tptr 0 [intV PL, intV PD, DV] ∧ e 15 = intV W ∧ e 19 = intV k ∧ e 21 = .val (.bool CB) ∧ e 22 = intV (i : Nat) ∧ e 25 = .ptr MX 0 ∧ e 26 = intV yv ∧ e 27 = intV 0 ∧ e 30 = intV (leftN wl j : Nat) ∧ e 31 = intV (j : Nat) ∧ Hid (m.at_ MX = some ⟨[intV a, intV b, dx], 33, .var, true⟩)) i ⟨0, by omega, by simp [Env.set, e1], by simp [Env.set, e2, intV], by simp [Env.set, e4], by simp [Env.set, e5], by simp [Env.set, e8], by simp [Env.set, e12], by simp [Env.set, e14], by simp [Env.set, e15, intV], by simp [Env.set, e19, intV], by simp [Env.set, e21], by simp [Env.set, e22, intV], rfl, rfl, by simp [Env.set, hev, intV], rfl, rfl, ⟨by simp [put_at, intV]⟩⟩ ?_
                   clear e1 e2 e4 e5 e8 e12 e14 e15 e19 e21 e22
                   rintro q2 e m ⟨j, hq2, e1, e2, e4, e5, e8, e12, e14, e15, e19, e21, e22, e25, e26, e27, e30, e31, hb⟩
                   replace hq2 := Hid.mk hq2
                   by_cases hj : j < i
                   · have hj' : ((j : Nat) : Int) < ((i : Nat) : Int) := by omega
                     have wj := wrap_succ (n := j) (by have := hN16.out; omega)
                     have hls := leftN_succ wl j
                     have hlg := left_gone wl j
                     have wl1 := wrap_succ (n := leftN wl j) (by have := hN16.out; omega)
                     by_cases hjl : j < wl.length
                     · obtain ⟨bb, hbb⟩ : ∃ bb, wl[j]? = some bb := ⟨_, List.getElem?_eq_getElem hjl⟩
                       have hba := boolA_at (x := x) hbb
                       have hge : ¬ ((wl.length : Nat) : Int) ≤ ((j : Nat) : Int) := by omega
                       have hwb : wipB wl j = bb := by unfold wipB; rw [List.getD_eq_getElem?_getD, hbb]; rfl
                       rw [hwb] at hls
                       replace hbb := Hid.mk hbb
                       replace hwb := Hid.mk hwb
                       cases bb with
                       | true =>
                         have hls : leftN wl (j + 1) = leftN wl j := hls
                         replace hls := Hid.mk hls
                         simp only [↓pre, simprocAttr, parV, sx, tys7, onceLp, bne, postU, postA, storeE, allocE, put_at, push_at, f0, q0, f1, q1, t1, fL, qL, tL, hntt, hnff, lL, lR, lw, hWV, hVW, e1, e2, e4, e5, e8, e12, e14, e15, e19, e21, e22, e25, e26, e27, e30, e31, hj', wj, wl1, hge, hjl, aw, hba, sr]
                         exact ⟨q2 - 1, by have := hq2.out; omega, j + 1, by have := hq2.out; omega, by rw [hls.out], rfl, hb⟩
                       | false =>
                         rw [if_neg (by decide)] at hls
                         replace hls := Hid.mk hls
                         simp only [↓pre, simprocAttr, parV, sx, tys7, onceLp, bne, postU, postA, storeE, allocE, put_at, push_at, f0, q0, f1, q1, t1, fL, qL, tL, hntt, hnff, lL, lR, lw, hWV, hVW, e1, e2, e4, e5, e8, e12, e14, e15, e19, e21, e22, e25, e26, e27, e30, e31, hj', wj, wl1, hge, hjl, aw, hba, sr]
                         exact ⟨q2 - 1, by have := hq2.out; omega, j + 1, by have := hq2.out; omega, by rw [hls.out], rfl, hb⟩
                     · have hge : ((wl.length : Nat) : Int) ≤ ((j : Nat) : Int) := by omega
                       have hwb : wipB wl j = false := by unfold wipB; rw [List.getD_eq_getElem?_getD, List.getElem?_eq_none (by omega)]; rfl
                       rw [hwb, if_neg (by decide)] at hls
                       replace hls := Hid.mk hls
                       replace hwb := Hid.mk hwb
                       simp only [↓pre, simprocAttr, parV, sx, tys7, onceLp, bne, postU, postA, storeE, allocE, put_at, push_at, f0, q0, f1, q1, t1, fL, qL, tL, hntt, hnff, lL, lR, lw, hWV, hVW, e1, e2, e4, e5, e8, e12, e14, e15, e19, e21, e22, e25, e26, e27, e30, e31, hj', wj, wl1, hge, sr]
                       exact ⟨q2 - 1, by have := hq2.out; omega, j + 1, by have := hq2.out; omega, by rw [hls.out], rfl, hb⟩
                   · have hj' : ¬ ((j : Nat) : Int) < ((i : Nat) : Int) := by omega
                     have hji : j = i := by have := hq2.out; omega
                     subst hji
                     simp only [↓pre, simprocAttr, parV, sx, tys7, onceLp, bne, postU, postA, storeE, allocE, put_at, push_at, f0, q0, f1, q1, t1, fL, qL, tL, hntt, hnff, lL, lR, lw, hWV, hVW, e1, e2, e4, e5, e8, e12, e14, e15, e19, e21, e22, e25, e26, e27, e30, e31, hj', sr]
                     exact hb
               )
           · have hli' : ¬ ((i : Nat) : Int) ≤ ((N : Nat) : Int) := by omega
             simp only [↓pre, simprocAttr, parV, sx, tys7, onceLp, bne, postU, postA, storeE, allocE, put_at, push_at, f0, q0, f1, q1, t1, fL, qL, tL, hntt, hnff, lL, lR, lw, hWV, hVW, e1, e2, e4, e5, e8, e12, e14, e15, e19, e21, e22, hli', sr]
         · have hMl : (0 : Int) < ((missL k r c w W ps).length : Nat) := by
             have : (missL k r c w W ps).length ≠ 0 := fun h => hM (List.eq_nil_of_length_eq_zero h)
             omega
           clear hok
           generalize treeR ps.length (putsA (putsL k r c w ps 0 V len dep l)) = LV at *
           generalize treeR (missL k r c w W ps).length (intsA (missL k r c w W ps)) = MV at *
           simp only [intV] at *
           refine fspec_of_body follows Tryz.func7 (by unfold Tryz.f7; rfl) (by unfold Tryz.f7; simp) onceLp (by unfold Tryz.f7; simp) (by kernel_rfl) ?_; unfold Tryz.f7
           simp only [↓pre, simprocAttr, parV, sx, tys7, onceLp, bne, postU, postA, storeE, allocE, put_at, push_at, f0, q0, f1, q1, t1, sr]
           refine call_plain (haw) (by rfl) ?_; simp only [↓pre, simprocAttr, parV, sx, tys7, onceLp, bne, postU, postA, storeE, allocE, put_at, push_at, f0, q0, f1, q1, t1, sL, hLr.len', hv.rd.len', sM, hMr.len', hMl, sr]; refine call_plain (hpu) (by simp only [parV, plQ, *]) ?_; simp only [↓pre, simprocAttr, parV, sx, tys7, onceLp, bne, postU, postA, storeE, allocE, put_at, push_at, f0, q0, f1, q1, t1, sL, hLr.len', hv.rd.len', sM, hMr.len', hMl, sr]; refine call_plain (hrd) (by simp only [parV, plQ, *]) ?_; simp only [↓pre, simprocAttr, parV, sx, tys7, onceLp, bne, postU, postA, storeE, allocE, put_at, push_at, f0, q0, f1, q1, t1, sL, hLr.len', hv.rd.len', sM, hMr.len', hMl, sr]; refine call_plain (hfi) (by simp only [parV, plQ, *]) ?_; simp only [↓pre, simprocAttr, parV, sx, tys7, onceLp, bne, postU, postA, storeE, allocE, put_at, push_at, f0, q0, f1, q1, t1, sL, hLr.len', hv.rd.len', sM, hMr.len', hMl, sr]; refine call_plain (hpr) (by simp only [parV, plQ, *]) ?_; simp only [↓pre, simprocAttr, parV, sx, tys7, onceLp, bne, postU, postA, storeE, allocE, put_at, push_at, f0, q0, f1, q1, t1, sL, hLr.len', hv.rd.len', sM, hMr.len', hMl, sr]; refine call_plain (hmi) (by simp only [parV, plQ, *]) ?_; simp only [↓pre, simprocAttr, parV, sx, tys7, onceLp, bne, postU, postA, storeE, allocE, put_at, push_at, f0, q0, f1, q1, t1, sL, hLr.len', hv.rd.len', sM, hMr.len', hMl, sr]; refine call_plain (hpo) (by rfl) ?_; simp only [↓pre, simprocAttr, parV, sx, tys7, onceLp, bne, postU, postA, storeE, allocE, put_at, push_at, f0, q0, f1, q1, t1, sL, hLr.len', hv.rd.len', sM, hMr.len', hMl, sr]
       · have hP : pureP k r c w ps = false := by simpa using hP
         rw [hP] at hpr
         clear hok
         generalize treeR ps.length (putsA (putsL k r c w ps 0 V len dep l)) = LV at *
         simp only [intV] at *
         refine fspec_of_body follows Tryz.func7 (by unfold Tryz.f7; rfl) (by unfold Tryz.f7; simp) onceLp (by unfold Tryz.f7; simp) (by kernel_rfl) ?_; unfold Tryz.f7
         simp only [↓pre, simprocAttr, parV, sx, tys7, onceLp, bne, postU, postA, storeE, allocE, put_at, push_at, f0, q0, f1, q1, t1, sr]
         refine call_plain (haw) (by rfl) ?_; simp only [↓pre, simprocAttr, parV, sx, tys7, onceLp, bne, postU, postA, storeE, allocE, put_at, push_at, f0, q0, f1, q1, t1, sL, hLr.len', sr]; refine call_plain (hpu) (by simp only [parV, plQ, *]) ?_; simp only [↓pre, simprocAttr, parV, sx, tys7, onceLp, bne, postU, postA, storeE, allocE, put_at, push_at, f0, q0, f1, q1, t1, sL, hLr.len', sr]; refine call_plain (hrd) (by simp only [parV, plQ, *]) ?_; simp only [↓pre, simprocAttr, parV, sx, tys7, onceLp, bne, postU, postA, storeE, allocE, put_at, push_at, f0, q0, f1, q1, t1, sL, hLr.len', sr]; refine call_plain (hfi) (by simp only [parV, plQ, *]) ?_; simp only [↓pre, simprocAttr, parV, sx, tys7, onceLp, bne, postU, postA, storeE, allocE, put_at, push_at, f0, q0, f1, q1, t1, sL, hLr.len', sr]; refine call_plain (hpr) (by simp only [parV, plQ, *]) ?_; simp only [↓pre, simprocAttr, parV, sx, tys7, onceLp, bne, postU, postA, storeE, allocE, put_at, push_at, f0, q0, f1, q1, t1, sL, hLr.len', sr]
     · have hT : fitP k r c w V ps = false := by simpa using hT
       rw [hT] at hfi
       clear hok
       generalize treeR ps.length (putsA (putsL k r c w ps 0 V len dep l)) = LV at *
       simp only [intV] at *
       refine fspec_of_body follows Tryz.func7 (by unfold Tryz.f7; rfl) (by unfold Tryz.f7; simp) onceLp (by unfold Tryz.f7; simp) (by kernel_rfl) ?_; unfold Tryz.f7
       simp only [↓pre, simprocAttr, parV, sx, tys7, onceLp, bne, postU, postA, storeE, allocE, put_at, push_at, f0, q0, f1, q1, t1, sr]
       refine call_plain (haw) (by rfl) ?_; simp only [↓pre, simprocAttr, parV, sx, tys7, onceLp, bne, postU, postA, storeE, allocE, put_at, push_at, f0, q0, f1, q1, t1, sL, hLr.len', sr]; refine call_plain (hpu) (by simp only [parV, plQ, *]) ?_; simp only [↓pre, simprocAttr, parV, sx, tys7, onceLp, bne, postU, postA, storeE, allocE, put_at, push_at, f0, q0, f1, q1, t1, sL, hLr.len', sr]; refine call_plain (hrd) (by simp only [parV, plQ, *]) ?_; simp only [↓pre, simprocAttr, parV, sx, tys7, onceLp, bne, postU, postA, storeE, allocE, put_at, push_at, f0, q0, f1, q1, t1, sL, hLr.len', sr]; refine call_plain (hfi) (by simp only [parV, plQ, *]) ?_; simp only [↓pre, simprocAttr, parV, sx, tys7, onceLp, bne, postU, postA, storeE, allocE, put_at, push_at, f0, q0, f1, q1, t1, sL, hLr.len', sr]
   · clear hok
     generalize treeR ps.length (putsA (putsL k r c w ps 0 V len dep l)) = LV at *
     simp only [intV] at *
     refine fspec_of_body follows Tryz.func7 (by unfold Tryz.f7; rfl) (by unfold Tryz.f7; simp) onceLp (by unfold Tryz.f7; simp) (by kernel_rfl) ?_; unfold Tryz.f7
     simp only [↓pre, simprocAttr, parV, sx, tys7, onceLp, bne, postU, postA, storeE, allocE, put_at, push_at, f0, q0, f1, q1, t1, sr]
     refine call_plain (haw) (by rfl) ?_; simp only [↓pre, simprocAttr, parV, sx, tys7, onceLp, bne, postU, postA, storeE, allocE, put_at, push_at, f0, q0, f1, q1, t1, hF, hLr.len', sL, sr]; refine call_plain (hpu) (by simp only [parV, plQ, *]) ?_; simp only [↓pre, simprocAttr, parV, sx, tys7, onceLp, bne, postU, postA, storeE, allocE, put_at, push_at, f0, q0, f1, q1, t1, hF, hLr.len', sL, sr]; refine call_plain (hrd) (by simp only [parV, plQ, *]) ?_; simp only [↓pre, simprocAttr, parV, sx, tys7, onceLp, bne, postU, postA, storeE, allocE, put_at, push_at, f0, q0, f1, q1, t1, hF, hLr.len', sL, sr]
 · rw [if_neg hE] at hpu
   unfold nilS at hpu
   clear hok
   generalize putsE k r c w ps 0 V len dep l = E at *
   simp only [intV] at *
   refine fspec_of_body follows Tryz.func7 (by unfold Tryz.f7; rfl) (by unfold Tryz.f7; simp) onceLp (by unfold Tryz.f7; simp) (by kernel_rfl) ?_; unfold Tryz.f7
   simp only [↓pre, simprocAttr, parV, sx, tys7, onceLp, bne, postU, postA, storeE, allocE, put_at, push_at, f0, q0, f1, q1, t1, sr]
   refine call_plain (haw) (by rfl) ?_; simp only [↓pre, simprocAttr, parV, sx, tys7, onceLp, bne, postU, postA, storeE, allocE, put_at, push_at, f0, q0, f1, q1, t1, hE, hlen0, sr]; refine call_plain (hpu) (by simp only [parV, plQ, *]) ?_; simp only [↓pre, simprocAttr, parV, sx, tys7, onceLp, bne, postU, postA, storeE, allocE, put_at, push_at, f0, q0, f1, q1, t1, hE, hlen0, sr]; refine call_plain (hrd) (by simp only [parV, plQ, *]) ?_; simp only [↓pre, simprocAttr, parV, sx, tys7, onceLp, bne, postU, postA, storeE, allocE, put_at, push_at, f0, q0, f1, q1, t1, hE, hlen0, sr]
theorem miss_all {hs : List (Int × Int)} {v : Int} {n : Nat} (h : missN hs v n = []) {i : Nat} (hi : i < n) : holdsAt hs i v = true := by
 unfold missN at h
 rw [List.filterMap_eq_nil_iff] at h
 have := h i (List.mem_range.2 hi)
 cases hh : holdsAt hs i v with
 | true => rfl
 | false =>
   rw [hh, if_neg (by decide)] at this
   cases this
theorem pt_ok {k r c w V len dep : Int} {ps : List PairB} {l : List RefI} (wl : List Bool) (hE : putsE k r c w ps 0 V len dep l = 0) (hF : comE k r c w ps = 0) (hP : pureP k r c w ps = true) (hf : fitP k r c w V ps = true) (hM : missL k r c w (winI k r c w ps) ps = []) : PtOk k r c w ps V (madeB k c len dep l) wl := by
 have hc : chkI k r c w ps = 0 := by
   unfold putsE at hE
   split at hE
   · assumption
   · contradiction
 obtain ⟨hm, hr⟩ := chk_parts hc
 obtain ⟨hW, hmany, hpa⟩ := com_parts hc hF
 have hbd : ¬ badP w 0 V (winI k r c w ps) ∧ chkD k r c w len dep l = 0 := by
   unfold putsE at hE
   rw [if_pos hc] at hE
   split at hE
   · omega
   · rename_i h; exact ⟨h, hE⟩
 obtain ⟨hb, hD⟩ := hbd
 unfold badP at hb
 have hwv := win_ver hc hW
 unfold verB at hwv
 rw [decide_eq_true_eq] at hwv
 have hmE : missE k r c w (winI k r c w ps) ps = 0 := by
   unfold missE
   rw [if_pos hc, if_pos hwv]
 unfold missL at hM
 rw [if_pos hmE] at hM
 have hml := mayB_of.1 hm
 have hmd := made_len hD hm
 have hpu : PureRow k r c w ps := fun i q hq => pureP_of hP hq
 have hw2 : (wI k c).toNat = k.toNat * c.toNat := by
   have h1 : ((k.toNat * c.toNat : Nat) : Int) = wI k c := by unfold wI; rw [Int.natCast_mul, Int.toNat_of_nonneg (by omega), Int.toNat_of_nonneg (by omega)]
   omega
 have h : PBase k r c w ps (winI k r c w ps) V (madeB k c len dep l) := ⟨hm, hr, hpu, hf, hwv.1, by unfold verB; exact decide_eq_true (by omega), by omega, rfl, fun i p hp => by
   have hi := (List.getElem?_eq_some_iff.1 hp).1
   have hh := miss_all hM hi
   rw [pure_holds hm hpu hp hwv.1, datO_hit hm] at hh
   exact hh, there_told hm hmany, by rw [hmd, hw2]⟩
 have hpa2 := (made_read hD).1
 refine ⟨h.lt, fun n hn => ?_, fun hg hcd n hn => ?_⟩
 · have hx : PRow k r c w ps (winI k r c w ps) V (madeB k c len dep l) [] n (putsP ps (fullN k r c w ps 0 2 (winI k r c w ps) V (madeB k c len dep l) n)) := ⟨putsP_len _ _, fun i p hp => by
     rw [h.rowN n hn i p hp]
     unfold xN
     have hwb : ¬ wipB [] i = true := by simp [wipB]
     rw [if_neg hwb]⟩
   have := hx.com h hpa2 hF hn (by rw [gone_nil]; omega) (.inl fun i _ => by simp [wipB])
   have hl : leftN [] n = n := by
     have := left_gone [] n
     rw [gone_nil] at this
     omega
   rw [hl] at this
   exact this
 · exact (h.prow wl hn).com h hpa2 hF hn hg (.inr hcd)
theorem law16_CommitPoint (k r c w V len dep : Int) (v dv wv : AV) (ps : List PairB) (cells : List AV) (l : List RefI) (y : List AV) (wl : List Bool) (x : List AV) (hv : RowV v ps cells) (hd : RdSl dv l.length (refsA l ++ y)) (hn : l.length ≤ 9223372036854775807) (hw : RdSl wv wl.length (boolsA wl ++ x)) : FSpec Tryz.prog 7 [parV k r c w, v, intV V, .agg [intV len, intV dep, dv], wv] ⟨boolV true, []⟩ :=
 law16_Point k r c w V len dep v dv wv ps cells l y wl x hv hd hn hw fun h1 h2 h3 h4 h5 => pt_ok wl h1 h2 h3 h4 h5
end Go.Proofs.YtaekhhlgnbhnpaaGreat