import Derived.Test.YtaekhhlgnbhnpaaGreatGmG14
set_option linter.unusedVariables false
set_option linter.unusedSimpArgs false
set_option maxRecDepth 10000
namespace Go.Proofs.YtaekhhlgnbhnpaaGreat
open Go Go.Tw Go.Proofs
def flatH (hs : List (Int × Int)) : List Int := hs.flatMap fun x => [x.1, x.2]
theorem flatH_len (hs : List (Int × Int)) : (flatH hs).length = hs.length * 2 := by
 induction hs with
 | nil => rfl
 | cons a hs ih => simp only [flatH, List.flatMap_cons, List.length_append, List.length_cons, List.length_nil] at ih ⊢; omega
theorem flatH_at : ∀ (hs : List (Int × Int)) (i : Nat) (x : Int × Int), hs[i]? = some x → (flatH hs)[i * 2]? = some x.1 ∧ (flatH hs)[i * 2 + 1]? = some x.2
 | [], i, x, h => by simp at h
 | a :: hs, 0, x, h => by simp at h; subst h; exact ⟨rfl, rfl⟩
 | a :: hs, i + 1, x, h => by
   have ih := flatH_at hs i x (by simpa using h)
   have e : flatH (a :: hs) = a.1 :: a.2 :: flatH hs := rfl
   rw [e, show (i + 1) * 2 = i * 2 + 1 + 1 by omega]
   simpa using ih
def fillC (l : List Int) (p : Nat) : List AV := intsA (l.take p) ++ List.replicate (l.length - p) (.val (.int .i64 0))
theorem fillC_len (l : List Int) (p : Nat) (h : p ≤ l.length) : (fillC l p).length = l.length := by simp [fillC, intsA]; omega
theorem fillC_zero (l : List Int) (p : Nat) (h : l[p]? = some 0) : fillC l (p + 1) = fillC l p := by
 have hl := (List.getElem?_eq_some_iff.1 h).1
 unfold fillC
 rw [List.take_add_one, h]
 simp only [Option.toList_some, intsA, List.map_append, List.map_cons, List.map_nil, List.append_assoc]
 rw [show l.length - p = (l.length - (p + 1)) + 1 by omega, List.replicate_succ]
 rfl
theorem fillC_put (l : List Int) (p : Nat) (z : Int) (h : l[p]? = some z) : splice (fillC l p) p [.val (.int .i64 z)] = fillC l (p + 1) := by
 have hl := (List.getElem?_eq_some_iff.1 h).1
 have h1 : (intsA (l.take p)).length = p := by simp [intsA]; omega
 unfold splice fillC
 rw [List.take_left' h1, List.take_add_one, h]
 rw [List.drop_append, List.drop_of_length_le (by rw [h1]; omega), h1]
 simp only [Option.toList_some, intsA, List.map_append, List.map_cons, List.map_nil, List.nil_append, List.length_cons, List.length_nil, List.drop_replicate]
 rw [show l.length - p - (p + (0 + 1) - p) = l.length - (p + 1) by omega]
 rfl
theorem fillC_full (l : List Int) : fillC l l.length = intsA l := by simp [fillC]
theorem zeros_two (n : Nat) : zerosE Tryz.prog 136 n = some (List.replicate (n * 2) (.val (.int .i64 0))) := by
 have h1 : szE Tryz.prog 136 = some 2 := by kernel_rfl
 have h2 : zeroE Tryz.prog 136 = some [.int .i64 0, .int .i64 0] := by kernel_rfl
 by_cases h : n * 2 = 0
 · have : n = 0 := by omega
   subst this; simp [zerosE, h1]
 · simp only [zerosE, h1, Option.bind_some, h2, if_neg h]
   rw [if_pos (show [Value.int .i64 0, Value.int .i64 0].length = 2 from rfl)]
   congr 1
   apply List.ext_getElem
   · simp
   · intro i h1 h2
     simp only [List.getElem_map, List.getElem_range, List.getElem_replicate]
     have : i % 2 = 0 ∨ i % 2 = 1 := by omega
     rcases this with e | e <;> rw [e] <;> rfl
theorem make_two (m : Mem) (n : Nat) (hn : n ≤ 1000000) : makeE Tryz.prog m 132 n n = some ⟨.sl m.next 0 n n true, m.push ⟨List.replicate (n * 2) (.val (.int .i64 0)), 136, .flat, true⟩, none⟩ := by
 have h1 : elE Tryz.prog 132 = some 136 := by kernel_rfl
 have h2 : szE Tryz.prog 136 = some 2 := by kernel_rfl
 have h3 : byE Tryz.prog 136 = some 16 := by kernel_rfl
 have h4 : kindT Tryz.prog 136 = .flat := by kernel_rfl
 simp only [makeE, h1, h2, h3, h4, zeros_two, Option.bind_some]
 rw [if_pos (by omega)]
 simp [outV]
def heldR (k r c w : Int) (ps : List PairB) : Res := if chkI k r c w ps = 0 then ⟨.tup [.sl 0 0 ps.length ps.length true, intV 0], [(136, intsA (flatH (heldsP k r c w ps)))]⟩ else ⟨.tup [nilS, intV (chkI k r c w ps)], []⟩
def heldV (k r c w : Int) (ps : List PairB) : AV := if chkI k r c w ps = 0 then .tup [.tree ps.length ps.length (intsA (flatH (heldsP k r c w ps))) true, intV 0] else .tup [nilS, intV (chkI k r c w ps)]
theorem census_held_own (k r c w : Int) (v : AV) (ps : List PairB) (cells : List AV) (hv : RowV v ps cells) : FSpec Tryz.prog 94 [parV k r c w, v] (heldR k r c w ps) := by
 have hp := hv.rd.plain
 have hd := layout_Drives k r c w
 cases hm : mayB k r c w with
 | false =>
   have hc : chkI k r c w ps = 2 := by unfold chkI; rw [hm]; rfl
   unfold heldR
   rw [hc, if_neg (by decide)]
   simp only [hm, Bool.false_eq_true, if_false] at hd
   refine fspec_of_body follows Tryz.func94 (by unfold Tryz.f94; rfl) (by unfold Tryz.f94; simp) onceA (by unfold Tryz.f94; simp) (by kernel_rfl) ?_; unfold Tryz.f94
   simp only [↓pre, simprocAttr, parV, sx, tys94, onceA, postU]
   (first | refine call_plain (hd) (by first | rfl | simp only [parV, plQ, *]) ?_ | refine call_pure (hd) (by first | rfl | simp only [parV, plQ, *]) (by intro k; first | rfl | simp only [sq, sr, *]) ?_); simp only [↓pre, simprocAttr, parV, sx, tys94, onceA, postU, nilS]
 | true =>
   have hmn := may_n hm
   simp only [hm, if_true] at hd
   by_cases hl : (ps.length : Int) = k + r
   · obtain ⟨N, hN⟩ : ∃ N : Nat, k + r = (N : Int) := ⟨(k + r).toNat, by omega⟩
     have hpn : ps.length = N := by omega
     have hN16 : N ≤ 16 := by omega
     have hlF : (flatH (heldsP k r c w ps)).length = N * 2 := by rw [flatH_len, helds_len, hpn]
     have hmk := make_two Mem.empty N (by omega)
     have f0 : List.replicate (N * 2) (AV.val (.int .i64 0)) = fillC (flatH (heldsP k r c w ps)) 0 := by simp [fillC, hlF, intsA]
     rw [f0] at hmk
     generalize hhs : heldsP k r c w ps = hs at *
     generalize hres : heldR k r c w ps = res
     replace hhs := Hid.mk hhs
     replace hmn := Hid.mk hmn
     replace hN16 := Hid.mk hN16
     replace hpn := Hid.mk hpn
     replace hres := Hid.mk hres
     refine fspec_of_body follows Tryz.func94 (by unfold Tryz.f94; rfl) (by unfold Tryz.f94; simp) onceA (by unfold Tryz.f94; simp) (by kernel_rfl) ?_; unfold Tryz.f94
     simp only [↓pre, simprocAttr, parV, sx, tys94, onceA, postU]
     (first | refine call_plain (hd) (by first | rfl | simp only [parV, plQ, *]) ?_ | refine call_pure (hd) (by first | rfl | simp only [parV, plQ, *]) (by intro k; first | rfl | simp only [sq, sr, *]) ?_); simp only [↓pre, simprocAttr, parV, sx, tys94, onceA, postU, hv.rd.len', hl, hN, hmk]
     rw [codeW_loop]
     refine loop_intro (fun q e m => ∃ i, q + i = N ∧ e 2 = .tptr 0 [intV k, intV r, intV c, intV w] ∧ e 8 = .sl 0 0 N N true ∧ e 30 = v ∧ e 31 = intV (N : Nat) ∧ e 32 = intV (i : Nat) ∧ m.at_ 0 = some ⟨fillC (flatH hs) (i * 2), 136, .flat, true⟩ ∧ Hid (0 < m.next ∧ ∀ j p, j < i → ps[j]? = some p → pairB k r c p.1.length p.2.length = true)) N ⟨0, by omega, rfl, rfl, rfl, rfl, rfl, rfl, ⟨Nat.lt_succ_self 0, fun j p h => by omega⟩⟩ ?_
     rintro q e m ⟨i, hqi, e2, e8, e30, e31, e32, hm0, hJ⟩
     have hb0 : ¬ 0 = m.next := by have := hJ.out.1; omega
     replace hqi := Hid.mk hqi
     by_cases hlt : i < N
     · have hlt' : ((i : Nat) : Int) < ((N : Nat) : Int) := by omega
       have hltp : i < ps.length := by have := hpn.out; omega
       have hltL : i < ps.length := hltp
       obtain ⟨p, hpi⟩ : ∃ p, ps[i]? = some p := ⟨_, List.getElem?_eq_getElem hltp⟩
       obtain ⟨ua, ub, xa, xb, ha, hub, hra, hrb⟩ := hv.at_ i p hpi
       obtain ⟨ht, htl⟩ := take2 ha hub
       have hsi := helds_at (k := k) (r := r) (c := c) (w := w) hpi
       rw [hhs.out] at hsi
       obtain ⟨hF1, hF2⟩ := flatH_at _ _ _ hsi
       have w1 := wrap_succ (n := i) (by have := hN16.out; omega)
       have f1 := rd_fz hra
       have f2 := rd_fz hrb
       have o1 := rd_one hra
       have o2 := rd_one hrb
       replace hpi := Hid.mk hpi
       replace hsi := Hid.mk hsi
       replace hltL := Hid.mk hltL
       simp only [↓pre, simprocAttr, parV, sx, tys94, onceA, postU, postA, allocE, storeE, eq_self, put_at, push_at, Nat.mul_one, hb0, e2, e8, e30, e31, e32, hlt', hv.rd.addr', hltp, ht, htl, f1, f2, o1, o2]
       rw [codeW_loop]
       refine loop_intro (fun q e m => ∃ kk, q + kk = 2 ∧ e 2 = .tptr 0 [intV k, intV r, intV c, intV w] ∧ e 8 = .sl 0 0 N N true ∧ e 9 = intV (i : Nat) ∧ e 30 = v ∧ e 31 = intV (N : Nat) ∧ e 32 = intV (i : Nat) ∧ e 37 = .agg [ua, ub] ∧ e 38 = intV (kk : Nat) ∧ m.at_ 0 = some ⟨fillC (flatH hs) (i * 2 + kk), 136, .flat, true⟩ ∧ Hid (0 < m.next ∧ (1 ≤ kk → lenB k r c p.1.length = true) ∧ (2 ≤ kk → lenB k r c p.2.length = true))) 2 ⟨0, by omega, e2, e8, rfl, e30, e31, e32, rfl, rfl, ?_, ⟨?_, by omega, by omega⟩⟩ ?_
       · rw [put_at, if_neg hb0, push_at, if_neg hb0]
         exact hm0
       · rw [put_next, push_next]; omega
       rintro q2 e m2 ⟨kk, hqk, e2, e8, e9, e30, e31, e32, e37, e38, hm0, hJ2⟩
       replace hqk := Hid.mk hqk
       have hb0 : ¬ 0 = m2.next := by have := hJ2.out.1; omega
       by_cases hkk : kk < 2
       · have hkk' : ((kk : Nat) : Int) < 2 := by omega
         have w2 := wrap_succ (n := kk) (by omega)
         obtain ⟨u, bu, xu, z, hu, hru, hz, hFz, hlb⟩ : ∃ u bu xu z, [ua, ub][kk]? = some u ∧ RdSl u bu.length (bytesA bu ++ xu) ∧ heldI k r c w bu i = z ∧ (flatH hs)[i * 2 + kk]? = some z ∧ bu = (if kk = 0 then p.1 else p.2) := by
           match kk, hkk with
           | 0, _ => exact ⟨ua, p.1, xa, _, rfl, hra, rfl, hF1, rfl⟩
           | 1, _ => exact ⟨ub, p.2, xb, _, rfl, hrb, rfl, hF2, rfl⟩
         have ou := rd_one hru
         have pu := hru.plain
         have hpar := slot_Parse k r c w u bu xu hru
         have hFp := fillC_put _ _ _ hFz
         have hF0 := fillC_zero (flatH hs) (i * 2 + kk)
         have hfl := fillC_len (flatH hs) (i * 2 + kk) (by have := (List.getElem?_eq_some_iff.1 hFz).1; omega)
         replace hlb := Hid.mk hlb
         replace hz := Hid.mk hz
         replace hFz := Hid.mk hFz
         replace hF0 := Hid.mk hF0
         have lbF : lenB k r c bu.length = true → (1 ≤ kk + 1 → lenB k r c p.1.length = true) ∧ (2 ≤ kk + 1 → lenB k r c p.2.length = true) := by
           intro h
           have h1 := hlb.out
           constructor
           · intro _
             by_cases h0 : kk = 0
             · rw [if_pos h0] at h1; rw [← h1]; exact h
             · exact hJ2.out.2.1 (by omega)
           · intro h2
             rw [if_neg (by omega)] at h1; rw [← h1]; exact h
         replace lbF := Hid.mk lbF
         cases hsl : isSlot k r c w bu with
         | false =>
           have hz0 : z = 0 := by
             rw [← hz.out]
             unfold heldI heldB isOf
             rw [hsl]; rfl
           subst hz0
           cases hlB : lenB k r c bu.length with
           | false =>
             have hpv : parseV k r c w bu = .tup [slot0, boolV false, intV 100] := by
               unfold lenB at hlB
               simp only [Bool.or_eq_false_iff, decide_eq_false_iff_not] at hlB
               unfold parseV
               rw [hsl, hm, if_neg (by rintro ⟨_, h⟩; cases h), if_neg (by decide), if_neg hlB.1, if_neg hlB.2]
             have hrf : rowB k r c ps = false := by
               have : pairB k r c p.1.length p.2.length = false := by
                 unfold pairB
                 have h1 := hlb.out
                 split at h1
                 · rw [← h1, hlB]; rfl
                 · rw [← h1, hlB, Bool.and_false]
               unfold rowB
               rw [Bool.and_eq_false_iff]
               right
               rw [List.all_eq_false]
               exact ⟨p, List.mem_of_getElem? hpi.out, by rw [this]; decide⟩
             have hck : chkI k r c w ps = 120 := by unfold chkI; rw [hm, hrf]; rfl
             have hrs : res = ⟨.tup [nilS, intV 120], []⟩ := by
               rw [← hres.out]
               unfold heldR
               rw [hck, if_neg (by decide)]
             rw [hpv] at hpar
             unfold slot0 slotV at hpar
             simp only [↓pre, simprocAttr, parV, sx, tys94, onceA, postU, postA, allocE, storeE, eq_self, put_at, push_at, Nat.mul_one, hb0, e2, e8, e9, e30, e31, e32, e37, e38, hkk', hkk, hu]
             (first | refine call_plain (hpar) (by first | rfl | simp only [parV, plQ, *]) ?_ | refine call_pure (hpar) (by first | rfl | simp only [parV, plQ, *]) (by intro k; first | rfl | simp only [sq, sr, *]) ?_); simp only [↓pre, simprocAttr, parV, sx, tys94, onceA, postU, postA, allocE, storeE, eq_self, put_at, push_at, Nat.mul_one, hb0, e2, e8, e9, e30, e31, e32, e37, e38, boolV, nilS]
             rw [hrs]; rfl
           | true =>
             have hpv : parseV k r c w bu = .tup [slot0, boolV false, intV 0] := by
               unfold lenB at hlB
               simp only [Bool.or_eq_true, decide_eq_true_eq] at hlB
               unfold parseV
               rw [hsl, hm, if_neg (by rintro ⟨_, h⟩; cases h), if_neg (by decide)]
               rcases hlB with h | h
               · rw [if_pos h]
               · split
                 · rfl
                 · first | rfl | rw [if_pos h]
             obtain ⟨hl1, hl2⟩ := lbF.out hlB
             replace hl1 := Hid.mk hl1
             replace hl2 := Hid.mk hl2
             rw [hpv] at hpar
             unfold slot0 slotV at hpar
             simp only [↓pre, simprocAttr, parV, sx, tys94, onceA, postU, postA, allocE, storeE, eq_self, put_at, push_at, Nat.mul_one, hb0, e2, e8, e9, e30, e31, e32, e37, e38, hkk', hkk, hu]
             (first | refine call_plain (hpar) (by first | rfl | simp only [parV, plQ, *]) ?_ | refine call_pure (hpar) (by first | rfl | simp only [parV, plQ, *]) (by intro k; first | rfl | simp only [sq, sr, *]) ?_); simp only [↓pre, simprocAttr, parV, sx, tys94, onceA, postU, postA, allocE, storeE, eq_self, put_at, push_at, Nat.mul_one, hb0, e2, e8, e9, e30, e31, e32, e37, e38, boolV, nilS, w2]
             exact ⟨q2 - 1, by have := hqk.out; omega, kk + 1, by have := hqk.out; omega, rfl, by rw [← Nat.add_assoc, hF0.out hFz.out]; exact hm0, ⟨by omega, hl1.out, hl2.out⟩⟩
         | true =>
           have hlB : lenB k r c bu.length = true := by
             unfold isSlot at hsl
             simp only [Bool.and_eq_true] at hsl
             unfold lenB
             rw [hsl.1, Bool.or_true]
           obtain ⟨hl1, hl2⟩ := lbF.out hlB
           replace hl1 := Hid.mk hl1
           replace hl2 := Hid.mk hl2
           have hpv : parseV k r c w bu = .tup [(slotC k r bu).v, boolV true, intV 0] := by
             unfold parseV
             rw [if_pos ⟨hm, hsl⟩]
           rw [hpv] at hpar
           have hz2 : z = if (decide ((slotC k r bu).ix = (i : Int)) && (decide ((slotC k r bu).kd = 2) && (slotC k r bu).vec.all (fun n => decide (n = (slotC k r bu).ce)))) = true then (slotC k r bu).ce else 0 := by
             rw [← hz.out]
             unfold heldI heldB isOf
             rw [hsl, Bool.true_and]
           have hvl : (slotC k r bu).vec.length ≤ 16 := by have h1 := numsI_len bu (k + r).toNat; have := hmn.out; simp only [slotC]; omega
           generalize slotC k r bu = s at *
           have hvv : RdSl (.tree s.vec.length s.vec.length (intsA s.vec) false) s.vec.length (intsA s.vec ++ []) := ⟨.inr (.inr ⟨_, false, by rw [List.append_nil], Nat.le_refl _⟩)⟩
           have hcf := contains_func _ s.vec [] 175 [.tptr 0 [.val (.int .u8 s.kd), intV s.ix, intV s.ce, intV s.st, .tree s.vec.length s.vec.length (intsA s.vec) false, .tree s.data.length s.data.length (bytesA s.data) false]] (fun n => !decide (n = s.ce)) hvv (by omega) rfl (fun n _ => census_held1 n s.kd s.ix s.ce s.st _ _)
           unfold SlotC.v slotV at hpar
           by_cases hkd : s.kd = 2
           · by_cases hix : s.ix = (i : Int)
             · cases hall : s.vec.all (fun n => decide (n = s.ce)) with
               | true =>
                 have hany : s.vec.any (fun n => !decide (n = s.ce)) = false := by
                   rw [List.any_eq_false]
                   intro n hn
                   have := List.all_eq_true.1 hall n hn
                   rw [this]; decide
                 have hzc : z = s.ce := by rw [hz2, decide_eq_true hix, decide_eq_true hkd, hall]; rfl
                 rw [hany] at hcf
                 replace hz2 := Hid.mk hz2
                 replace hall := Hid.mk hall
                 replace hany := Hid.mk hany
                 rw [hzc] at hFp
                 replace hzc := Hid.mk hzc
                 simp only [↓pre, simprocAttr, parV, sx, tys94, onceA, postU, postA, allocE, storeE, eq_self, put_at, push_at, Nat.mul_one, hb0, e2, e8, e9, e30, e31, e32, e37, e38, hkk', hkk, hu]
                 rw [hkd, hix] at hpar hcf
                 have hpl : i * 2 + kk + 1 ≤ (flatH hs).length := (List.getElem?_eq_some_iff.1 hFz.out).1
                 (first | refine call_plain (hpar) (by first | rfl | simp only [parV, plQ, *]) ?_ | refine call_pure (hpar) (by first | rfl | simp only [parV, plQ, *]) (by intro k; first | rfl | simp only [sq, sr, *]) ?_); simp only [↓pre, simprocAttr, parV, sx, tys94, onceA, postU, postA, allocE, storeE, eq_self, put_at, push_at, Nat.mul_one, hb0, e2, e8, e9, e30, e31, e32, e37, e38, boolV, nilS, w2, Array.size_empty, List.size_toArray]; (first | refine call_plain (hcf) (by first | rfl | simp only [parV, plQ, *]) ?_ | refine call_pure (hcf) (by first | rfl | simp only [parV, plQ, *]) (by intro k; first | rfl | simp only [sq, sr, *]) ?_); simp only [↓pre, simprocAttr, parV, sx, tys94, onceA, postU, postA, allocE, storeE, eq_self, put_at, push_at, Nat.mul_one, hb0, e2, e8, e9, e30, e31, e32, e37, e38, boolV, nilS, w2, Array.size_empty, List.size_toArray]
                 simp only [↓pre, simprocAttr, parV, sx, tys94, onceA, postU, postA, allocE, storeE, eq_self, put_at, push_at, Nat.mul_one, hb0, e2, e8, e9, e30, e31, e32, e37, e38, boolV, nilS, w2, hlt, hkk, hm0, hfl, hpl]
                 refine contW_fixed (by kernel_rfl) ?_
                 simp only [↓pre, simprocAttr, parV, sx, tys94, onceA, postU, postA, allocE, storeE, eq_self, put_at, push_at, Nat.mul_one, hb0, e2, e8, e9, e30, e31, e32, e37, e38, boolV, nilS, w2, hlt, hkk, hm0, hfl, hpl]
                 refine ⟨q2 - 1, by have := hqk.out; omega, kk + 1, by have := hqk.out; omega, rfl, ?_, ⟨by omega, hl1.out, hl2.out⟩⟩
                 rw [← Nat.add_assoc, ← hFp]
                 rfl
               | false =>
                 have hany : s.vec.any (fun n => !decide (n = s.ce)) = true := by
                   rw [List.all_eq_false] at hall
                   obtain ⟨n, hn, h⟩ := hall
                   rw [List.any_eq_true]
                   exact ⟨n, hn, by simpa using h⟩
                 have hzc : z = 0 := by rw [hz2, hall]; simp
                 rw [hany] at hcf
                 subst hzc
                 replace hz2 := Hid.mk hz2
                 replace hall := Hid.mk hall
                 replace hany := Hid.mk hany
                 simp only [↓pre, simprocAttr, parV, sx, tys94, onceA, postU, postA, allocE, storeE, eq_self, put_at, push_at, Nat.mul_one, hb0, e2, e8, e9, e30, e31, e32, e37, e38, hkk', hkk, hu]
                 rw [hkd, hix] at hpar hcf
                 (first | refine call_plain (hpar) (by first | rfl | simp only [parV, plQ, *]) ?_ | refine call_pure (hpar) (by first | rfl | simp only [parV, plQ, *]) (by intro k; first | rfl | simp only [sq, sr, *]) ?_); simp only [↓pre, simprocAttr, parV, sx, tys94, onceA, postU, postA, allocE, storeE, eq_self, put_at, push_at, Nat.mul_one, hb0, e2, e8, e9, e30, e31, e32, e37, e38, boolV, nilS, w2, Array.size_empty, List.size_toArray]; (first | refine call_plain (hcf) (by first | rfl | simp only [parV, plQ, *]) ?_ | refine call_pure (hcf) (by first | rfl | simp only [parV, plQ, *]) (by intro k; first | rfl | simp only [sq, sr, *]) ?_); simp only [↓pre, simprocAttr, parV, sx, tys94, onceA, postU, postA, allocE, storeE, eq_self, put_at, push_at, Nat.mul_one, hb0, e2, e8, e9, e30, e31, e32, e37, e38, boolV, nilS, w2, Array.size_empty, List.size_toArray]
                 exact ⟨q2 - 1, by have := hqk.out; omega, kk + 1, by have := hqk.out; omega, rfl, by rw [← Nat.add_assoc, hF0.out hFz.out]; exact hm0, ⟨by omega, hl1.out, hl2.out⟩⟩
             · have hzc : z = 0 := by rw [hz2, decide_eq_false hix]; rfl
               subst hzc
               replace hz2 := Hid.mk hz2
               simp only [↓pre, simprocAttr, parV, sx, tys94, onceA, postU, postA, allocE, storeE, eq_self, put_at, push_at, Nat.mul_one, hb0, e2, e8, e9, e30, e31, e32, e37, e38, hkk', hkk, hu]
               rw [hkd] at hpar
               (first | refine call_plain (hpar) (by first | rfl | simp only [parV, plQ, *]) ?_ | refine call_pure (hpar) (by first | rfl | simp only [parV, plQ, *]) (by intro k; first | rfl | simp only [sq, sr, *]) ?_); simp only [↓pre, simprocAttr, parV, sx, tys94, onceA, postU, postA, allocE, storeE, eq_self, put_at, push_at, Nat.mul_one, hb0, e2, e8, e9, e30, e31, e32, e37, e38, boolV, nilS, w2, hix]
               exact ⟨q2 - 1, by have := hqk.out; omega, kk + 1, by have := hqk.out; omega, rfl, by rw [← Nat.add_assoc, hF0.out hFz.out]; exact hm0, ⟨by omega, hl1.out, hl2.out⟩⟩
           · have hzc : z = 0 := by rw [hz2, decide_eq_false hkd]; simp
             subst hzc
             replace hz2 := Hid.mk hz2
             simp only [↓pre, simprocAttr, parV, sx, tys94, onceA, postU, postA, allocE, storeE, eq_self, put_at, push_at, Nat.mul_one, hb0, e2, e8, e9, e30, e31, e32, e37, e38, hkk', hkk, hu]
             (first | refine call_plain (hpar) (by first | rfl | simp only [parV, plQ, *]) ?_ | refine call_pure (hpar) (by first | rfl | simp only [parV, plQ, *]) (by intro k; first | rfl | simp only [sq, sr, *]) ?_); simp only [↓pre, simprocAttr, parV, sx, tys94, onceA, postU, postA, allocE, storeE, eq_self, put_at, push_at, Nat.mul_one, hb0, e2, e8, e9, e30, e31, e32, e37, e38, boolV, nilS, w2, hkd]
             exact ⟨q2 - 1, by have := hqk.out; omega, kk + 1, by have := hqk.out; omega, rfl, by rw [← Nat.add_assoc, hF0.out hFz.out]; exact hm0, ⟨by omega, hl1.out, hl2.out⟩⟩
       · have hkk' : ¬ ((kk : Nat) : Int) < 2 := by omega
         have : kk = 2 := by have := hqk.out; omega
         subst this
         simp only [↓pre, simprocAttr, parV, sx, tys94, onceA, postU, postA, allocE, storeE, eq_self, put_at, push_at, Nat.mul_one, hb0, e2, e8, e9, e30, e31, e32, e37, e38, hkk', cond_f, w1]
         refine ⟨q - 1, by have := hqi.out; omega, i + 1, by have := hqi.out; omega, rfl, by rw [show (i + 1) * 2 = i * 2 + 2 by omega]; exact hm0, ⟨hJ2.out.1, fun j p' hj hp' => ?_⟩⟩
         by_cases hji : j = i
         · subst hji
           rw [hpi.out] at hp'
           cases hp'
           unfold pairB
           rw [hJ2.out.2.1 (by omega), hJ2.out.2.2 (by omega)]
           rfl
         · exact hJ.out.2 j p' (by omega) hp'
     · have hlt' : ¬ ((i : Nat) : Int) < ((N : Nat) : Int) := by omega
       have hiN : i = N := by have := hqi.out; omega
       subst hiN
       have hrt : rowB k r c ps = true := by
         unfold rowB
         rw [decide_eq_true hl, Bool.true_and, List.all_eq_true]
         intro p hp
         obtain ⟨j, hj⟩ := List.getElem?_of_mem hp
         have := (List.getElem?_eq_some_iff.1 hj).1
         have := hpn.out
         exact hJ.out.2 j p (by omega) hj
       have hck : chkI k r c w ps = 0 := by unfold chkI; rw [hm, hrt]; rfl
       rw [← hlF, fillC_full] at hm0
       simp only [↓pre, simprocAttr, parV, sx, tys94, onceA, postU, e2, e8, e30, e31, e32, hlt', cond_f]
       have k9 : kindT Tryz.prog 136 = .flat := by kernel_rfl
       simp only [hm0, k9, Option.bind_some, if_true, List.any_nil, Bool.false_eq_true, ne_eq, not_true_eq_false, or_self, if_false, Option.map_some]
       rw [← hres.out]
       unfold heldR
       rw [if_pos hck, hpn.out, hhs.out]
       rfl
   · have hr : rowB k r c ps = false := by unfold rowB; rw [decide_eq_false hl]; rfl
     have hc : chkI k r c w ps = 120 := by unfold chkI; rw [hm, hr]; rfl
     unfold heldR
     rw [hc, if_neg (by decide)]
     refine fspec_of_body follows Tryz.func94 (by unfold Tryz.f94; rfl) (by unfold Tryz.f94; simp) onceA (by unfold Tryz.f94; simp) (by kernel_rfl) ?_; unfold Tryz.f94
     simp only [↓pre, simprocAttr, parV, sx, tys94, onceA, postU]
     (first | refine call_plain (hd) (by first | rfl | simp only [parV, plQ, *]) ?_ | refine call_pure (hd) (by first | rfl | simp only [parV, plQ, *]) (by intro k; first | rfl | simp only [sq, sr, *]) ?_); simp only [↓pre, simprocAttr, parV, sx, tys94, onceA, postU, nilS, hv.rd.len', hl]
theorem census_held (k r c w : Int) (v : AV) (ps : List PairB) (cells : List AV) (hv : RowV v ps cells) : FSpec Tryz.prog 94 [parV k r c w, v] ⟨heldV k r c w ps, []⟩ := by
 have h := census_held_own k r c w v ps cells hv
 have k9 : kindT Tryz.prog 136 = .flat := by kernel_rfl
 have h2 := fspec_frozen 1 h (by unfold heldR; split <;> simp [fzOk, fzOks, nilS, intV, k9])
 have e : fzV Tryz.prog (heldR k r c w ps).rows 1 (heldR k r c w ps).v = heldV k r c w ps := by
   unfold heldR heldV
   split <;> simp [fzV, fzVs, nilS, intV, k9]
 rw [e] at h2
 exact h2
def ownE (el : TypeId) (n : Nat) (cells : List AV) (e : Int) : Res := ⟨.tup [(ownR el n cells).v, intV e], (ownR el n cells).rows⟩
theorem frozen_ownE {f : FuncId} {args : List AV} {el : TypeId} {n : Nat} {cells : List AV} {e : Int} (hk : kindT Tryz.prog el = .flat) (h : FSpec Tryz.prog f args (ownE el n cells e)) : FSpec Tryz.prog f args ⟨.tup [treeR n cells, intV e], []⟩ := by
 have h2 := fspec_frozen 1 h (by unfold ownE ownR; split <;> simp [fzOk, fzOks, nilS, intV, hk])
 have e2 : fzV Tryz.prog (ownE el n cells e).rows 1 (ownE el n cells e).v = .tup [treeR n cells, intV e] := by
   unfold ownE ownR treeR
   split <;> simp [fzV, fzVs, nilS, intV, hk]
 rw [e2] at h2
 exact h2
def missN (hs : List (Int × Int)) (v : Int) (n : Nat) : List Int := (List.range n).filterMap fun i => if holdsAt hs i v = true then none else some (i : Int)
theorem missN_succ (hs : List (Int × Int)) (v : Int) (n : Nat) : missN hs v (n + 1) = missN hs v n ++ (if holdsAt hs n v = true then [] else [(n : Int)]) := by
 unfold missN
 rw [List.range_succ, List.filterMap_append]
 cases h : holdsAt hs n v <;> simp [h]
theorem missN_le (hs : List (Int × Int)) (v : Int) (n : Nat) : (missN hs v n).length ≤ n := by
 have := List.length_filterMap_le (fun i : Nat => if holdsAt hs i v = true then none else some (i : Int)) (List.range n)
 rw [List.length_range] at this
 exact this
def missE (k r c w ver : Int) (ps : List PairB) : Int := if chkI k r c w ps = 0 then (if 1 ≤ ver ∧ ver ≤ 1073741824 then 0 else 2) else chkI k r c w ps
def missL (k r c w ver : Int) (ps : List PairB) : List Int := if missE k r c w ver ps = 0 then missN (heldsP k r c w ps) ver ps.length else []
theorem chk_ok {k r c w : Int} {ps : List PairB} (h : chkI k r c w ps = 0) : mayB k r c w = true ∧ rowB k r c ps = true ∧ (ps.length : Int) = k + r ∧ ps.length ≤ 16 := by
 unfold chkI at h
 cases hm : mayB k r c w with
 | false => rw [hm] at h; simp at h
 | true =>
   rw [hm] at h
   cases hr : rowB k r c ps with
   | false => rw [hr] at h; simp at h
   | true =>
     have hmn := may_n hm
     have : (ps.length : Int) = k + r := by
       unfold rowB at hr
       simp only [Bool.and_eq_true, decide_eq_true_eq] at hr
       exact hr.1
     exact ⟨rfl, rfl, this, by omega⟩
theorem slice_two {cs : List AV} : sliceE Tryz.prog 136 none none none (.tptr 0 cs) = some (.tree 2 2 cs true) := by
 rw [slice_arr (by kernel_rfl) (by kernel_rfl) (by kernel_rfl)]
 rfl
theorem census_Missing_own (k r c w ver : Int) (v : AV) (ps : List PairB) (cells : List AV) (hv : RowV v ps cells) : FSpec Tryz.prog 22 [parV k r c w, v, intV ver] (ownE 3 (missL k r c w ver ps).length (intsA (missL k r c w ver ps)) (missE k r c w ver ps)) := by
 have hp := hv.rd.plain
 have hh := census_held k r c w v ps cells hv
 unfold heldV at hh
 by_cases hc : chkI k r c w ps = 0
 · rw [if_pos hc] at hh
   by_cases h1 : ver < 1
   · have he : missE k r c w ver ps = 2 := by unfold missE; rw [if_pos hc, if_neg (by omega)]
     have hl : missL k r c w ver ps = [] := by unfold missL; rw [he]; rfl
     rw [hl, he]
     refine fspec_of_body follows Tryz.func22 (by unfold Tryz.f22; rfl) (by unfold Tryz.f22; simp) onceA (by unfold Tryz.f22; simp) (by kernel_rfl) ?_; unfold Tryz.f22
     simp only [↓pre, simprocAttr, parV, sx, tys22, onceA, postU]
     (first | refine call_plain (hh) (by first | rfl | simp only [parV, plQ, *]) ?_ | refine call_pure (hh) (by first | rfl | simp only [parV, plQ, *]) (by intro k; first | rfl | simp only [sq, sr, *]) ?_); simp only [↓pre, simprocAttr, parV, sx, tys22, onceA, postU, h1]
     rfl
   · by_cases h2 : 1073741824 < ver
     · have he : missE k r c w ver ps = 2 := by unfold missE; rw [if_pos hc, if_neg (by omega)]
       have hl : missL k r c w ver ps = [] := by unfold missL; rw [he]; rfl
       rw [hl, he]
       refine fspec_of_body follows Tryz.func22 (by unfold Tryz.f22; rfl) (by unfold Tryz.f22; simp) onceA (by unfold Tryz.f22; simp) (by kernel_rfl) ?_; unfold Tryz.f22
       simp only [↓pre, simprocAttr, parV, sx, tys22, onceA, postU]
       (first | refine call_plain (hh) (by first | rfl | simp only [parV, plQ, *]) ?_ | refine call_pure (hh) (by first | rfl | simp only [parV, plQ, *]) (by intro k; first | rfl | simp only [sq, sr, *]) ?_); simp only [↓pre, simprocAttr, parV, sx, tys22, onceA, postU, h1, h2]
       rfl
     · have he : missE k r c w ver ps = 0 := by unfold missE; rw [if_pos hc, if_pos (by omega)]
       have hl : missL k r c w ver ps = missN (heldsP k r c w ps) ver ps.length := by unfold missL; rw [he]; rfl
       rw [hl, he]
       obtain ⟨_, _, _, hn⟩ := chk_ok hc
       have hlen := helds_len k r c w ps
       have hlF : (flatH (heldsP k r c w ps)).length = ps.length * 2 := by rw [flatH_len, helds_len]
       generalize hhs : heldsP k r c w ps = hs at *
       generalize hN : ps.length = N at *
       have hrd : RdSl (.tree N N (intsA (flatH hs)) true) N (intsA (flatH hs)) := ⟨.inr (.inr ⟨_, true, rfl, Nat.le_refl _⟩)⟩
       generalize hres : ownE 3 (missN hs ver N).length (intsA (missN hs ver N)) 0 = res
       replace hn := Hid.mk hn
       replace hlen := Hid.mk hlen
       replace hlF := Hid.mk hlF
       replace hres := Hid.mk hres
       refine fspec_of_body follows Tryz.func22 (by unfold Tryz.f22; rfl) (by unfold Tryz.f22; simp) onceA (by unfold Tryz.f22; simp) (by kernel_rfl) ?_; unfold Tryz.f22
       simp only [↓pre, simprocAttr, parV, sx, tys22, onceA, postU]
       (first | refine call_plain (hh) (by first | rfl | simp only [parV, plQ, *]) ?_ | refine call_pure (hh) (by first | rfl | simp only [parV, plQ, *]) (by intro k; first | rfl | simp only [sq, sr, *]) ?_); simp only [↓pre, simprocAttr, parV, sx, tys22, onceA, postU, h1, h2, hrd.len']
       rw [codeW_loop]
       refine loop_intro (fun q e m => ∃ i lv, q + i = N ∧ e 2 = intV ver ∧ e 10 = lv ∧ e 28 = .tree N N (intsA (flatH hs)) true ∧ e 29 = intV (N : Nat) ∧ e 30 = intV (i : Nat) ∧ Hid (Own m 3 1 lv (missN hs ver i).length (intsA (missN hs ver i)))) N ⟨0, nilS, by omega, rfl, rfl, rfl, rfl, rfl, ⟨own_nil⟩⟩ ?_
       rintro q e m ⟨i, lv, hqi, e2, e10, e28, e29, e30, hJ⟩
       replace hqi := Hid.mk hqi
       by_cases hlt : i < N
       · have hlt' : ((i : Nat) : Int) < ((N : Nat) : Int) := by omega
         have w1 := wrap_succ (n := i) (by have := hn.out; omega)
         obtain ⟨x, hx⟩ : ∃ x, hs[i]? = some x := ⟨_, List.getElem?_eq_getElem (by have := hlen.out; omega)⟩
         obtain ⟨hF1, hF2⟩ := flatH_at _ _ _ hx
         obtain ⟨ht, htl⟩ := take2 (int_at (x := []) hF1) (int_at (x := []) hF2)
         rw [List.append_nil] at ht htl
         have hct := slices_Contains (.tree 2 2 [.val (.int .i64 x.1), .val (.int .i64 x.2)] true) [x.1, x.2] [] ver ⟨.inr (.inr ⟨2, true, rfl, Nat.le_refl _⟩)⟩ (by show 2 ≤ 1000000000000; omega)
         have hho : ([x.1, x.2].any fun n => decide (ver = n)) = holdsAt hs i ver := by
           unfold holdsAt
           rw [hx]
           have e : ∀ a : Int, decide (ver = a) = decide (a = ver) := fun a => by
             by_cases h : ver = a
             · rw [decide_eq_true h, decide_eq_true h.symm]
             · rw [decide_eq_false h, decide_eq_false (fun h' => h h'.symm)]
           simp only [List.any_cons, List.any_nil, Bool.or_false, e]
         rw [hho] at hct
         have hms := missN_succ hs ver i
         have hml := missN_le hs ver i
         replace hx := Hid.mk hx
         replace hho := Hid.mk hho
         replace hms := Hid.mk hms
         replace hml := Hid.mk hml
         simp only [↓pre, simprocAttr, parV, sx, tys22, onceA, postU, postA, allocE, storeE, eq_self, put_at, push_at, e2, e10, e28, e29, e30, hlt', hrd.addr', hlt, ht, htl, w1, slOk_arr, slice_two, Option.map_none, optNat]
         cases hho2 : holdsAt hs i ver with
         | true =>
           rw [hho2] at hct
           (first | refine call_plain (hct) (by first | rfl | simp only [parV, plQ, *]) ?_ | refine call_pure (hct) (by first | rfl | simp only [parV, plQ, *]) (by intro k; first | rfl | simp only [sq, sr, *]) ?_); simp only [↓pre, simprocAttr, parV, sx, tys22, onceA, postU, postV, boolV, cond_t, cond_f, w1, e2, e10, e28, e29, e30]
           refine ⟨q - 1, by have := hqi.out; omega, i + 1, lv, by have := hqi.out; omega, rfl, rfl, ⟨?_⟩⟩
           rw [hms.out, hho2, if_pos rfl, List.append_nil]
           exact hJ.out.pp _ _
         | false =>
           rw [hho2] at hct
           (first | refine call_plain (hct) (by first | rfl | simp only [parV, plQ, *]) ?_ | refine call_pure (hct) (by first | rfl | simp only [parV, plQ, *]) (by intro k; first | rfl | simp only [sq, sr, *]) ?_); simp only [↓pre, simprocAttr, parV, sx, tys22, onceA, postU, postV, boolV, cond_t, cond_f, w1, e2, e10, e28, e29, e30]
           refine app_keep (kd := .flat) (sz := 1) (y := 8) (zl := [.int .i64 0]) (by kernel_rfl) (hJ.out.pp _ _) (by kernel_rfl) (by kernel_rfl) (by kernel_rfl) rfl srcT1 (by rfl) (by have := hml.out; have := hn.out; omega) (by have := hml.out; have := hn.out; omega) ?_
           intro lv' m3 ho' hnx' hkeep hbl
           simp only [↓pre, simprocAttr, parV, sx, tys22, onceA, postU, e2, e10, e28, e29, e30, w1]
           refine ⟨q - 1, by have := hqi.out; omega, i + 1, lv', by have := hqi.out; omega, rfl, rfl, ⟨?_⟩⟩
           rw [hms.out, hho2, if_neg (by decide), List.length_append, intsA_append]
           exact ho'
       · have hlt' : ¬ ((i : Nat) : Int) < ((N : Nat) : Int) := by omega
         have hiN : i = N := by have := hqi.out; omega
         subst hiN
         have hcan := own_canon (P := Tryz.prog) (by kernel_rfl) hJ.out
         simp only [↓pre, simprocAttr, parV, sx, tys22, onceA, postU, e2, e10, e28, e29, e30, hlt', cond_f, hcan]
         rw [← hres.out]
         rfl
 · have he : missE k r c w ver ps = chkI k r c w ps := by unfold missE; rw [if_neg hc]
   have hl : missL k r c w ver ps = [] := by unfold missL; rw [he, if_neg hc]
   rw [hl, he]
   rw [if_neg hc] at hh
   generalize chkI k r c w ps = ck at *
   refine fspec_of_body follows Tryz.func22 (by unfold Tryz.f22; rfl) (by unfold Tryz.f22; simp) onceA (by unfold Tryz.f22; simp) (by kernel_rfl) ?_; unfold Tryz.f22
   simp only [↓pre, simprocAttr, parV, sx, tys22, onceA, postU]
   (first | refine call_plain (hh) (by first | rfl | simp only [parV, plQ, *]) ?_ | refine call_pure (hh) (by first | rfl | simp only [parV, plQ, *]) (by intro k; first | rfl | simp only [sq, sr, *]) ?_); simp only [↓pre, simprocAttr, parV, sx, tys22, onceA, postU, nilS, hc]
   rfl
theorem census_Missing (k r c w ver : Int) (v : AV) (ps : List PairB) (cells : List AV) (hv : RowV v ps cells) : FSpec Tryz.prog 22 [parV k r c w, v, intV ver] ⟨.tup [treeR (missL k r c w ver ps).length (intsA (missL k r c w ver ps)), intV (missE k r c w ver ps)], []⟩ :=
 frozen_ownE (by kernel_rfl) (census_Missing_own k r c w ver v ps cells hv)
abbrev Ents := List (Int × List Int)
def zipM (E : Ents) (A : List AV) : List (Value × AV) := List.zipWith (fun e a => (Value.int .i64 e.1, a)) E A
def idxE (v : Int) : Ents → Option Nat
 | [] => none
 | e :: E => if v = e.1 then some 0 else (idxE v E).map (· + 1)
theorem find_zip (v : Int) : ∀ (E : Ents) (A : List AV), A.length = E.length → findM (.int .i64) (.int .i64 v) (zipM E A) = some (idxE v E)
 | [], A, h => by cases A <;> rfl
 | e :: E, [], h => by simp at h
 | e :: E, a :: A, h => by
   have ih := find_zip v E A (by simpa using h)
   have e1 : zipM (e :: E) (a :: A) = (Value.int .i64 e.1, a) :: zipM E A := rfl
   rw [e1]
   unfold findM idxE
   by_cases hv : v = e.1
   · simp [Instr.sameNow, hv]
   · have hb : (v == e.1) = false := by simpa using hv
     simp [Instr.sameNow, hv, ih, hb]
theorem idxE_some {v : Int} : ∀ {E : Ents} {j : Nat}, idxE v E = some j → ∃ e, E[j]? = some e ∧ e.1 = v
 | [], j, h => by simp [idxE] at h
 | e :: E, j, h => by
   unfold idxE at h
   split at h
   · rename_i hv; cases h; exact ⟨e, rfl, hv.symm⟩
   · obtain ⟨i, hi, rfl⟩ := Option.map_eq_some_iff.1 h
     obtain ⟨e', h1, h2⟩ := idxE_some hi
     exact ⟨e', by simpa using h1, h2⟩
theorem idxE_none {v : Int} : ∀ {E : Ents}, idxE v E = none → ∀ e ∈ E, e.1 ≠ v
 | [], _, e, h => by cases h
 | e :: E, h, e', he => by
   unfold idxE at h
   split at h
   · cases h
   · rename_i hv
     rw [Option.map_eq_none_iff] at h
     rcases List.mem_cons.1 he with rfl | he
     · exact fun h' => hv h'.symm
     · exact idxE_none h e' he
def addE (v i : Int) (E : Ents) : Ents := match idxE v E with
 | some j => E.set j (v, ((E[j]?).map (·.2)).getD [] ++ [i])
 | none => E ++ [(v, [i])]
def cellsK (hs : List (Int × Int)) (v : Int) (i kk : Nat) : List Int := cellsN hs v i ++ (match hs[i]? with
 | some x => if (1 ≤ kk ∧ x.1 = v) ∨ (2 ≤ kk ∧ x.2 = v) then [(i : Int)] else []
 | none => [])
structure EI (hs : List (Int × Int)) (i kk : Nat) (E : Ents) : Prop where
 nd : (E.map (·.1)).Nodup
 is : ∀ e ∈ E, 0 < e.1 ∧ e.2 = cellsK hs e.1 i kk ∧ e.2 ≠ []
 all : ∀ v, 0 < v → cellsK hs v i kk ≠ [] → ∃ e ∈ E, e.1 = v
theorem ei_start (hs : List (Int × Int)) : EI hs 0 0 [] := ⟨List.nodup_nil, fun e h => (by cases h), fun v h1 h2 => by
 exfalso
 apply h2
 unfold cellsK
 have : cellsN hs v 0 = [] := rfl
 rw [this]
 cases h : hs[0]? with
 | none => rfl
 | some x => simp⟩
theorem cellsK_next {hs : List (Int × Int)} {v : Int} {i : Nat} (hi : i < hs.length) : cellsK hs v i 2 = cellsK hs v (i + 1) 0 := by
 have e1 : cellsK hs v (i + 1) 0 = cellsN hs v (i + 1) := by
   unfold cellsK
   cases h : hs[i + 1]? with
   | none => simp
   | some x => simp
 rw [e1, cellsN_succ]
 unfold cellsK holdsAt
 rw [List.getElem?_eq_getElem hi]
 simp
theorem ei_next {hs : List (Int × Int)} {i : Nat} {E : Ents} (hi : i < hs.length) (h : EI hs i 2 E) : EI hs (i + 1) 0 E :=
 ⟨h.nd, fun e he => by rw [← cellsK_next hi]; exact h.is e he, fun v h1 h2 => h.all v h1 (by rw [cellsK_next hi]; exact h2)⟩
theorem ei_skip {hs : List (Int × Int)} {i kk : Nat} {E : Ents} {x : Int × Int} (hx : hs[i]? = some x) (h : EI hs i kk E) (hk : kk < 2) (hs2 : ∀ v, 0 < v → cellsK hs v i (kk + 1) = cellsK hs v i kk) : EI hs i (kk + 1) E :=
 ⟨h.nd, fun e he => by have := h.is e he; exact ⟨this.1, by rw [hs2 _ this.1]; exact this.2.1, this.2.2⟩, fun v h1 h2 => h.all v h1 (by rw [← hs2 v h1]; exact h2)⟩
theorem ei_add {hs : List (Int × Int)} {i kk : Nat} {E : Ents} {z : Int} (h : EI hs i kk E) (hz : 0 < z) (h1 : cellsK hs z i (kk + 1) = cellsK hs z i kk ++ [(i : Int)]) (h2 : ∀ v, v ≠ z → cellsK hs v i (kk + 1) = cellsK hs v i kk) : EI hs i (kk + 1) (addE z i E) := by
 unfold addE
 cases hj : idxE z E with
 | some j =>
   obtain ⟨e, he, hez⟩ := idxE_some hj
   have hjl := (List.getElem?_eq_some_iff.1 he).1
   have hmem := List.mem_of_getElem? he
   have hkeys : (E.set j (z, ((E[j]?).map (·.2)).getD [] ++ [(i : Int)])).map (·.1) = E.map (·.1) := by
     rw [List.map_set]
     apply List.ext_getElem?
     intro k
     rw [List.getElem?_set]
     split
     · rename_i hk; subst hk
       have hej : E[j] = e := (List.getElem?_eq_some_iff.1 he).2
       simp [hjl, hej, hez]
     · rfl
   refine ⟨by simp only; rw [hkeys]; exact h.nd, fun e' he' => ?_, fun v hv hne => ?_⟩
   · simp only at he'
     obtain ⟨k, hk⟩ := List.getElem?_of_mem he'
     rw [List.getElem?_set] at hk
     split at hk
     · rename_i hkj
       subst hkj
       first | rw [if_pos hjl] at hk | skip
       cases hk
       rw [he]
       simp only [Option.map_some, Option.getD_some]
       have := h.is e hmem
       refine ⟨hz, ?_, by simp⟩
       rw [this.2.1, hez, h1]
     · rename_i hkj
       have hm := List.mem_of_getElem? hk
       have := h.is e' hm
       have hne : e'.1 ≠ z := by
         intro hh
         obtain ⟨hkl, hke⟩ := List.getElem?_eq_some_iff.1 hk
         obtain ⟨_, hje⟩ := List.getElem?_eq_some_iff.1 he
         have hp := List.pairwise_iff_getElem.1 h.nd
         rcases Nat.lt_trichotomy j k with hlt | hlt | hlt
         · have := hp j k (by simpa using hjl) (by simpa using hkl) hlt
           simp [hke, hje, hez, hh] at this
         · exact hkj hlt
         · have := hp k j (by simpa using hkl) (by simpa using hjl) hlt
           simp [hke, hje, hez, hh] at this
       exact ⟨this.1, by rw [h2 _ hne]; exact this.2.1, this.2.2⟩
   · simp only
     by_cases hvz : v = z
     · subst hvz
       exact ⟨_, List.mem_of_getElem? (i := j) (by rw [List.getElem?_set]; simp [hjl]; rfl), rfl⟩
     · obtain ⟨e', he', hev⟩ := h.all v hv (by rw [← h2 v hvz]; exact hne)
       refine ⟨e', ?_, hev⟩
       obtain ⟨k, hk⟩ := List.getElem?_of_mem he'
       have hkj : j ≠ k := by
         rintro rfl
         rw [he] at hk
         cases hk
         exact hvz (hev.symm.trans hez)
       exact List.mem_of_getElem? (i := k) (by rw [List.getElem?_set, if_neg hkj]; exact hk)
 | none =>
   have hno := idxE_none hj
   have hemp : cellsK hs z i kk = [] := by
     by_cases hc : cellsK hs z i kk = []
     · exact hc
     · obtain ⟨e, he, hez⟩ := h.all z hz hc
       exact absurd hez (hno e he)
   refine ⟨?_, fun e' he' => ?_, fun v hv hne => ?_⟩
   · simp only [List.map_append, List.map_cons, List.map_nil]
     rw [List.nodup_append]
     refine ⟨h.nd, by simp, fun a ha b hb => ?_⟩
     simp at hb
     subst hb
     obtain ⟨e, he, rfl⟩ := List.mem_map.1 ha
     exact hno e he
   · rcases List.mem_append.1 he' with he' | he'
     · have := h.is e' he'
       exact ⟨this.1, by rw [h2 _ (hno e' he')]; exact this.2.1, this.2.2⟩
     · simp at he'
       subst he'
       exact ⟨hz, by simp only; rw [h1, hemp]; rfl, by simp⟩
   · by_cases hvz : v = z
     · subst hvz
       exact ⟨(v, [(i : Int)]), by simp, rfl⟩
     · obtain ⟨e', he', hev⟩ := h.all v hv (by rw [← h2 v hvz]; exact hne)
       exact ⟨e', List.mem_append_left _ he', hev⟩
theorem ei_step {hs : List (Int × Int)} {i kk : Nat} {E : Ents} {x : Int × Int} {z : Int} (hx : hs[i]? = some x) (h : EI hs i kk E) (hk : kk < 2) (hz : z = if kk = 0 then x.1 else x.2) : EI hs i (kk + 1) (if 0 < z ∧ (kk = 0 ∨ z ≠ x.1) then addE z i E else E) := by
 have hc : ∀ v k, cellsK hs v i k = cellsN hs v i ++ (if (1 ≤ k ∧ x.1 = v) ∨ (2 ≤ k ∧ x.2 = v) then [(i : Int)] else []) := fun v k => by unfold cellsK; rw [hx]
 have hkk : kk = 0 ∨ kk = 1 := by omega
 rcases hkk with rfl | rfl
 · simp only [if_true] at hz
   subst hz
   by_cases h0 : 0 < x.1
   · rw [if_pos ⟨h0, .inl rfl⟩]
     refine ei_add h h0 ?_ fun v hv => ?_
     · rw [hc, hc]; simp
     · rw [hc, hc]
       have : ¬ x.1 = v := fun h => hv h.symm
       simp [this]
   · rw [if_neg (fun h => h0 h.1)]
     refine ei_skip hx h hk fun v hv => ?_
     rw [hc, hc]
     have : ¬ x.1 = v := by omega
     simp [this]
 · simp only [Nat.one_ne_zero, if_false, false_or] at hz ⊢
   subst hz
   by_cases h0 : 0 < x.2 ∧ x.2 ≠ x.1
   · rw [if_pos h0]
     refine ei_add h h0.1 ?_ fun v hv => ?_
     · rw [hc, hc]
       have : ¬ x.1 = x.2 := fun h => h0.2 h.symm
       simp [this]
     · rw [hc, hc]
       have : ¬ x.2 = v := fun h => hv h.symm
       simp [this]
   · rw [if_neg h0]
     refine ei_skip hx h hk fun v hv => ?_
     rw [hc, hc]
     by_cases h1 : x.1 = v
     · simp [h1]
     · have : ¬ x.2 = v := by omega
       simp [h1, this]
structure MapI (m : Mem) (g : Nat) (E : Ents) (A : List AV) : Prop where
 mp : m.mm.maps g = some (zipM E A)
 len : A.length = E.length
 own : ∀ (j : Nat) (e : Int × List Int) (a : AV), E[j]? = some e → A[j]? = some a → Own m 3 1 a e.2.length (intsA e.2)
 apart : ∀ (i j : Nat) (a b : AV) (x : Nat), A[i]? = some a → A[j]? = some b → blkOf a = some x → blkOf b = some x → i = j
def lookA (E : Ents) (A : List AV) (v : Int) : AV := match idxE v E with
 | some j => A.getD j nilS
 | none => nilS
def lookL (E : Ents) (v : Int) : List Int := match idxE v E with
 | some j => ((E[j]?).map (·.2)).getD []
 | none => []
def putA (E : Ents) (A : List AV) (v : Int) (a : AV) : List AV := match idxE v E with
 | some j => A.set j a
 | none => A ++ [a]
theorem mapT_tally : mapT Tryz.prog 331 = some (.int .i64, nilS) := by kernel_rfl
theorem zip_at {E : Ents} {A : List AV} (j : Nat) : (zipM E A)[j]? = (E[j]?).bind fun e => (A[j]?).map fun a => (Value.int .i64 e.1, a) := by
 unfold zipM
 rw [List.getElem?_zipWith]
 cases E[j]? <;> cases A[j]? <;> rfl
theorem MapI.look {m : Mem} {g : Nat} {E : Ents} {A : List AV} (h : MapI m g E A) (v : Int) : lookX Tryz.prog m 331 (.val (.map (some g))) (.val (.int .i64 v)) = some (lookA E A v) := by
 refine lookX_e ?_
 simp only [lookE, mapT_tally, mapAt, h.mp, toVal, Option.bind_some, Option.map_some, find_zip v E A h.len]
 unfold lookA
 cases hj : idxE v E with
 | none => rfl
 | some j =>
   obtain ⟨e, he, _⟩ := idxE_some hj
   have hl := (List.getElem?_eq_some_iff.1 he).1
   have hla : j < A.length := by rw [h.len]; exact hl
   have ha : A[j]? = some A[j] := List.getElem?_eq_getElem hla
   simp only [zip_at, he, ha, Option.bind_some, Option.map_some, List.getD_eq_getElem?_getD, Option.getD_some]
theorem MapI.own_look {m : Mem} {g : Nat} {E : Ents} {A : List AV} (h : MapI m g E A) (v : Int) : Own m 3 1 (lookA E A v) (lookL E v).length (intsA (lookL E v)) := by
 unfold lookA lookL
 cases hj : idxE v E with
 | none => exact own_nil
 | some j =>
   obtain ⟨e, he, _⟩ := idxE_some hj
   have hl := (List.getElem?_eq_some_iff.1 he).1
   have hla : j < A.length := by rw [h.len]; exact hl
   have ha : A[j]? = some A[j] := List.getElem?_eq_getElem hla
   have := h.own j e _ he ha
   simpa only [he, Option.map_some, Option.getD_some, List.getD_eq_getElem?_getD, ha] using this
theorem MapI.upd {m m' : Mem} {g : Nat} {E : Ents} {A : List AV} (h : MapI m g E A) (v i : Int) {a : AV} (hn : m.next ≤ m'.next) (hkeep : ∀ j k, m.at_ j = some k → j < m.next → blkOf (lookA E A v) ≠ some j → m'.at_ j = some k) (hbl : ∀ j, blkOf a = some j → j = m.next ∨ blkOf (lookA E A v) = some j) (hmm : m'.mm = m.mm) (ho : Own m' 3 1 a ((lookL E v).length + 1) (intsA (lookL E v) ++ [intV i])) :
   updX Tryz.prog m' 331 (.val (.map (some g))) (.val (.int .i64 v)) a = some ⟨undefA, m'.setM (m'.mm.set g (zipM (addE v i E) (putA E A v a))), none⟩ ∧ MapI (m'.setM (m'.mm.set g (zipM (addE v i E) (putA E A v a)))) g (addE v i E) (putA E A v a) := by
 have hmp : m'.mm.maps g = some (zipM E A) := by rw [hmm]; exact h.mp
 have hset : (m'.setM (m'.mm.set g (zipM (addE v i E) (putA E A v a)))).mm.maps g = some (zipM (addE v i E) (putA E A v a)) := by simp [Mem.setM, Maps.set]
 have hoth : ∀ (j : Nat) (e : Int × List Int) (b : AV), E[j]? = some e → A[j]? = some b → (∀ x, blkOf b = some x → blkOf (lookA E A v) ≠ some x) → Own m' 3 1 b e.2.length (intsA e.2) := fun j e b he hb hx => by
   have := h.own j e b he hb
   refine this.keep hn fun x k hbx hk => hkeep x k hk ?_ (hx x hbx)
   rcases this.form with ⟨rfl, _⟩ | ⟨b', rfl, _, hlt, _⟩
   · cases hbx
   · injection hbx with hbx; omega
 have hlt : ∀ (j : Nat) (b : AV) (x : Nat), A[j]? = some b → blkOf b = some x → x < m.next := fun j b x hb hx => by
   have hl := (List.getElem?_eq_some_iff.1 hb).1
   have hle : j < E.length := by rw [← h.len]; exact hl
   rcases (h.own j E[j] b (List.getElem?_eq_getElem hle) hb).form with ⟨rfl, _⟩ | ⟨b', rfl, _, hlt, _⟩
   · cases hx
   · injection hx with hx; omega
 cases hj : idxE v E with
 | none =>
   have hL : lookA E A v = nilS := by unfold lookA; rw [hj]
   have hLl : lookL E v = [] := by unfold lookL; rw [hj]
   have hA' : putA E A v a = A ++ [a] := by unfold putA; rw [hj]
   have hE' : addE v i E = E ++ [(v, [i])] := by unfold addE; rw [hj]
   rw [hL] at hbl hoth hkeep
   rw [hLl] at ho
   have hbn : ∀ x, blkOf a = some x → x = m.next := fun x hx => by
     rcases hbl x hx with h | h
     · exact h
     · cases h
   rw [hA', hE'] at *
   have hz : zipM (E ++ [(v, [i])]) (A ++ [a]) = zipM E A ++ [(Value.int .i64 v, a)] := by
     unfold zipM
     rw [List.zipWith_append (by rw [h.len])]
     rfl
   refine ⟨?_, by simp [Mem.setM, Maps.set], by simp [h.len], fun j e b he hb => ?_, fun i' j a' b' x ha' hb' hax hbx => ?_⟩
   · refine updX_e ?_
     simp only [updE, mapT_tally, mapAt, hmp, toVal, Option.bind_some, Option.map_some, find_zip v E A h.len, hj, hz]
     rfl
   · by_cases hjl : j < E.length
     · rw [List.getElem?_append_left hjl] at he
       rw [List.getElem?_append_left (by rw [h.len]; exact hjl)] at hb
       exact (hoth j e b he hb (fun x _ h => by cases h)).setM _
     · rw [List.getElem?_append_right (by omega)] at he
       rw [List.getElem?_append_right (by rw [h.len]; omega)] at hb
       have hj0 : j - E.length = 0 := by
         have := (List.getElem?_eq_some_iff.1 he).1
         simp at this
         omega
       have hj1 : j - A.length = 0 := by rw [h.len]; exact hj0
       rw [hj0] at he
       rw [hj1] at hb
       cases he
       cases hb
       exact ho.setM _
   · have hsp : ∀ (k : Nat) (c : AV), (A ++ [a])[k]? = some c → A[k]? = some c ∨ (k = A.length ∧ c = a) := fun k c hc => by
       by_cases hk : k < A.length
       · rw [List.getElem?_append_left hk] at hc; exact .inl hc
       · rw [List.getElem?_append_right (by omega)] at hc
         have := (List.getElem?_eq_some_iff.1 hc).1
         simp at this
         have hk0 : k - A.length = 0 := by omega
         rw [hk0] at hc
         cases hc
         exact .inr ⟨by omega, rfl⟩
     rcases hsp i' a' ha' with h1 | ⟨h1, rfl⟩ <;> rcases hsp j b' hb' with h2 | ⟨h2, rfl⟩
     · exact h.apart i' j a' b' x h1 h2 hax hbx
     · have := hlt i' a' x h1 hax; have := hbn x hbx; omega
     · have := hlt j b' x h2 hbx; have := hbn x hax; omega
     · omega
 | some j0 =>
   obtain ⟨e0, he0, hev⟩ := idxE_some hj
   have hl := (List.getElem?_eq_some_iff.1 he0).1
   have hla : j0 < A.length := by rw [h.len]; exact hl
   have ha0 : A[j0]? = some A[j0] := List.getElem?_eq_getElem hla
   have hL : lookA E A v = A[j0] := by unfold lookA; simp only [hj, List.getD_eq_getElem?_getD, ha0, Option.getD_some]
   have hLl : lookL E v = e0.2 := by unfold lookL; simp only [hj, he0, Option.map_some, Option.getD_some]
   have hA' : putA E A v a = A.set j0 a := by unfold putA; rw [hj]
   have hE' : addE v i E = E.set j0 (v, e0.2 ++ [i]) := by unfold addE; simp only [hj, he0, Option.map_some, Option.getD_some]
   rw [hL] at hbl hoth hkeep
   rw [hLl] at ho
   rw [hA', hE'] at *
   have hz : zipM (E.set j0 (v, e0.2 ++ [i])) (A.set j0 a) = (zipM E A).set j0 (Value.int .i64 v, a) := by
     apply List.ext_getElem?
     intro k
     rw [zip_at, List.getElem?_set, List.getElem?_set, List.getElem?_set, zip_at]
     by_cases hk : j0 = k
     · subst hk
       have h3 : j0 < (zipM E A).length := by unfold zipM; rw [List.length_zipWith]; omega
       simp [hl, h.len, h3]
     · simp [hk]
   refine ⟨?_, by simp [Mem.setM, Maps.set], by simp [h.len], fun j e b he hb => ?_, fun i' j a' b' x ha' hb' hax hbx => ?_⟩
   · refine updX_e ?_
     simp only [updE, mapT_tally, mapAt, hmp, toVal, Option.bind_some, Option.map_some, find_zip v E A h.len, hj, hz]
     rfl
   · rw [List.getElem?_set] at he hb
     by_cases hjj : j0 = j
     · subst hjj
       simp [hl] at he
       simp [h.len, hl] at hb
       subst he
       subst hb
       have : Own m' 3 1 a (e0.2 ++ [i]).length (intsA (e0.2 ++ [i])) := by
         rw [List.length_append, intsA_append]; exact ho
       exact this.setM _
     · rw [if_neg hjj] at he hb
       refine (hoth j e b he hb (fun x hx h2 => ?_)).setM _
       exact hjj (h.apart j0 j _ b x ha0 hb h2 hx)
   · have hsp : ∀ (k : Nat) (c : AV), (A.set j0 a)[k]? = some c → (k ≠ j0 ∧ A[k]? = some c) ∨ (k = j0 ∧ c = a) := fun k c hc => by
       rw [List.getElem?_set] at hc
       by_cases hk : j0 = k
       · subst hk
         simp [h.len, hl] at hc
         exact .inr ⟨rfl, hc.symm⟩
       · rw [if_neg hk] at hc; exact .inl ⟨fun h => hk h.symm, hc⟩
     rcases hsp i' a' ha' with ⟨h0, h1⟩ | ⟨h1, rfl⟩ <;> rcases hsp j b' hb' with ⟨h3, h2⟩ | ⟨h2, rfl⟩
     · exact h.apart i' j a' b' x h1 h2 hax hbx
     · exfalso
       rcases hbl x hbx with h4 | h4
       · have := hlt i' a' x h1 hax; omega
       · exact h0 (h.apart i' j0 a' _ x h1 ha0 hax h4)
     · exfalso
       rcases hbl x hax with h4 | h4
       · have := hlt j b' x h2 hbx; omega
       · exact h3 (h.apart j j0 b' _ x h2 ha0 hbx h4)
     · omega
def pairsA (L : List (Int × AV)) : List AV := L.flatMap fun x => [intV x.1, x.2]
theorem pairsA_append (a b : List (Int × AV)) : pairsA (a ++ b) = pairsA a ++ pairsA b := by simp [pairsA]
def insP (x : Int × AV) : List (Int × AV) → List (Int × AV)
 | [] => [x]
 | y :: l => if y.1 < x.1 then x :: y :: l else y :: insP x l
def sortL (L : List (Int × AV)) : List (Int × AV) := L.foldr insP []
theorem insP_perm (x : Int × AV) : ∀ l, (insP x l).Perm (x :: l)
 | [] => .refl _
 | y :: l => by
   unfold insP
   split
   · exact .refl _
   · exact ((insP_perm x l).cons y).trans (.swap x y l)
theorem sortL_perm : ∀ L, (sortL L).Perm L
 | [] => .refl _
 | x :: L => (insP_perm x (sortL L)).trans ((sortL_perm L).cons x)
theorem insP_pw (x : Int × AV) : ∀ l, l.Pairwise (fun a b => b.1 < a.1) → (∀ y ∈ l, y.1 ≠ x.1) → (insP x l).Pairwise (fun a b => b.1 < a.1)
 | [], _, _ => List.pairwise_singleton _ _
 | y :: l, h, hn => by
   unfold insP
   rw [List.pairwise_cons] at h
   split
   · rename_i hlt
     rw [List.pairwise_cons]
     refine ⟨fun z hz => ?_, List.pairwise_cons.2 h⟩
     rcases List.mem_cons.1 hz with rfl | hz
     · exact hlt
     · have := h.1 z hz; omega
   · rename_i hlt
     rw [List.pairwise_cons]
     refine ⟨fun z hz => ?_, insP_pw x l h.2 fun z hz => hn z (by simp [hz])⟩
     rw [(insP_perm x l).mem_iff, List.mem_cons] at hz
     rcases hz with rfl | hz
     · have := hn y (by simp); omega
     · exact h.1 z hz
theorem sortL_pw : ∀ L : List (Int × AV), (L.map (·.1)).Nodup → (sortL L).Pairwise (fun a b => b.1 < a.1)
 | [], _ => .nil
 | x :: L, h => by
   simp only [List.map_cons, List.nodup_cons] at h
   refine insP_pw x _ (sortL_pw L h.2) fun y hy => ?_
   have hy : y ∈ sortL L := hy
   rw [(sortL_perm L).mem_iff] at hy
   intro e
   exact h.1 (List.mem_map.2 ⟨y, hy, e⟩)
abbrev Trip := Int × Nat × List Int
def tripA (x : Trip) : Int × AV := (x.1, .sl x.2.1 0 x.2.2.length x.2.2.length false)
def nestO : Nat → List Trip → List AV
 | _, [] => []
 | n, x :: X => intV x.1 :: .sl n 0 x.2.2.length x.2.2.length false :: nestO (n + 1) X
def nestR (X : List Trip) : List (TypeId × List AV) := X.map fun x => (3, intsA x.2.2)
theorem nest_canon (m : Mem) (k : Nat) : ∀ (X : List Trip) (ids : List (Nat × Nat)) (rows : List (TypeId × List AV)), (∀ x ∈ X, m.at_ x.2.1 = some ⟨intsA x.2.2, 3, .flat, true⟩) → (X.map (·.2.1)).Nodup → (∀ x ∈ X, ∀ i ∈ ids, i.1 ≠ x.2.1) →
   canons Tryz.prog m k ids rows (pairsA (X.map tripA)) = some (nestO rows.length X, ids ++ X.map (fun x => (x.2.1, 0)), rows ++ nestR X)
 | [], ids, rows, _, _, _ => by
   have : pairsA (([] : List Trip).map tripA) = [] := rfl
   rw [this]
   cases k <;> (unfold canons; simp [nestO, nestR])
 | x :: X, ids, rows, h1, h2, h3 => by
   have k3 : kindT Tryz.prog 3 = .flat := by kernel_rfl
   simp only [List.map_cons, List.nodup_cons] at h2
   have e : pairsA ((x :: X).map tripA) = intV x.1 :: .sl x.2.1 0 x.2.2.length x.2.2.length false :: pairsA (X.map tripA) := rfl
   have ha := h1 x (by simp)
   have hids : ids.any (fun i => i.1 == x.2.1) = false := by
     rw [List.any_eq_false]
     intro i hi
     simpa using h3 x (by simp) i hi
   have ih := nest_canon m k X (ids ++ [(x.2.1, 0)]) (rows ++ [(3, intsA x.2.2)]) (fun y hy => h1 y (by simp [hy])) h2.2 (fun y hy i hi => by
     rcases List.mem_append.1 hi with hi | hi
     · exact h3 y (by simp [hy]) i hi
     · simp at hi
       subst hi
       intro e
       exact h2.1 (List.mem_map.2 ⟨y, hy, e.symm⟩))
   have hv : canon Tryz.prog m k ids rows (intV x.1) = some (intV x.1, ids, rows) := still_val _ m k ids rows
   have hs : canon Tryz.prog m k ids rows (.sl x.2.1 0 x.2.2.length x.2.2.length false) = some (.sl rows.length 0 x.2.2.length x.2.2.length false, ids ++ [(x.2.1, 0)], rows ++ [(3, intsA x.2.2)]) := by
     cases k <;> (unfold canon; simp only [ha, hids, k3, Option.bind_some, if_true, List.drop_zero, Bool.false_eq_true, ne_eq, not_true_eq_false, or_self, if_false])
   rw [e]
   have hc : ∀ (c : AV) (cs : List AV) (i : List (Nat × Nat)) (r : List (TypeId × List AV)), canons Tryz.prog m k i r (c :: cs) = (canon Tryz.prog m k i r c).bind fun r => (canons Tryz.prog m k r.2.1 r.2.2 cs).map fun s => (r.1 :: s.1, s.2) := by
     intro c cs i r
     cases k <;> (rw [canons])
   rw [hc, hv, Option.bind_some]
   simp only
   rw [hc, hs, Option.bind_some]
   simp only
   rw [ih]
   simp [nestO, nestR, List.append_assoc]
theorem fzVs_cons {P : Program} {rows : List (TypeId × List AV)} {d : Nat} {c : AV} {cs : List AV} : fzVs P rows d (c :: cs) = fzV P rows d c :: fzVs P rows d cs := by
 cases d <;> (rw [fzVs])
theorem fzOks_cons {P : Program} {rows : List (TypeId × List AV)} {d : Nat} {c : AV} {cs : List AV} : fzOks P rows d (c :: cs) = (fzOk P rows d c && fzOks P rows d cs) := by
 cases d <;> (rw [fzOks])
theorem nest_fz (P0 : List (TypeId × List AV)) (d : Nat) : ∀ (X : List Trip) (n : Nat), (∀ j x, X[j]? = some x → P0[n + j]? = some (3, intsA x.2.2)) → fzVs Tryz.prog P0 d (nestO n X) = X.flatMap (fun x => [intV x.1, .tree x.2.2.length x.2.2.length (intsA x.2.2) false]) ∧ fzOks Tryz.prog P0 d (nestO n X) = true
 | [], n, _ => by
   cases d <;> (unfold nestO fzVs fzOks; exact ⟨rfl, rfl⟩)
 | x :: X, n, h => by
   have k3 : kindT Tryz.prog 3 = .flat := by kernel_rfl
   have ih := nest_fz P0 d X (n + 1) fun j y hy => by
     have := h (j + 1) y (by simpa using hy)
     rw [← this]; congr 1; omega
   have h0 := h 0 x rfl
   rw [Nat.add_zero] at h0
   have hg : P0.getD n (0, []) = (3, intsA x.2.2) := by rw [List.getD_eq_getElem?_getD, h0]; rfl
   have e1 : fzV Tryz.prog P0 d (intV x.1) = intV x.1 := by cases d <;> (unfold intV fzV; rfl)
   have e2 : fzV Tryz.prog P0 d (.sl n 0 x.2.2.length x.2.2.length false) = .tree x.2.2.length x.2.2.length (intsA x.2.2) false := by
     cases d <;> (unfold fzV; simp only [hg, k3, if_true, List.drop_zero])
   have e3 : fzOk Tryz.prog P0 d (intV x.1) = true := by cases d <;> (unfold intV fzOk; rfl)
   have e4 : fzOk Tryz.prog P0 d (.sl n 0 x.2.2.length x.2.2.length false) = true := by
     cases d <;> (unfold fzOk; simp [h0, k3])
   constructor
   · have : fzVs Tryz.prog P0 d (nestO n (x :: X)) = fzV Tryz.prog P0 d (intV x.1) :: fzV Tryz.prog P0 d (.sl n 0 x.2.2.length x.2.2.length false) :: fzVs Tryz.prog P0 d (nestO (n + 1) X) := by
       show fzVs Tryz.prog P0 d (intV x.1 :: .sl n 0 x.2.2.length x.2.2.length false :: nestO (n + 1) X) = _
       rw [fzVs_cons, fzVs_cons]
     rw [this, e1, e2, ih.1]
     rfl
   · have : fzOks Tryz.prog P0 d (nestO n (x :: X)) = (fzOk Tryz.prog P0 d (intV x.1) && (fzOk Tryz.prog P0 d (.sl n 0 x.2.2.length x.2.2.length false) && fzOks Tryz.prog P0 d (nestO (n + 1) X))) := by
       show fzOks Tryz.prog P0 d (intV x.1 :: .sl n 0 x.2.2.length x.2.2.length false :: nestO (n + 1) X) = _
       rw [fzOks_cons, fzOks_cons]
     rw [this, e3, e4, ih.2]
     rfl
def insT (x : Trip) : List Trip → List Trip
 | [] => [x]
 | y :: l => if y.1 < x.1 then x :: y :: l else y :: insT x l
def sortT (L : List Trip) : List Trip := L.foldr insT []
theorem insT_map (x : Trip) : ∀ l : List Trip, insP (tripA x) (l.map tripA) = (insT x l).map tripA
 | [] => rfl
 | y :: l => by
   have ih := insT_map x l
   unfold insT
   show (if (tripA y).1 < (tripA x).1 then _ else tripA y :: insP (tripA x) (l.map tripA)) = _
   rw [ih]
   show (if y.1 < x.1 then _ else _) = _
   split <;> rfl
theorem sortT_map : ∀ L : List Trip, sortL (L.map tripA) = (sortT L).map tripA
 | [] => rfl
 | x :: L => by
   have ih := sortT_map L
   show insP (tripA x) (sortL (L.map tripA)) = _
   rw [ih, insT_map]
   rfl
theorem insT_perm (x : Trip) : ∀ l, (insT x l).Perm (x :: l)
 | [] => .refl _
 | y :: l => by
   unfold insT
   split
   · exact .refl _
   · exact ((insT_perm x l).cons y).trans (.swap x y l)
theorem sortT_perm : ∀ L, (sortT L).Perm L
 | [] => .refl _
 | x :: L => (insT_perm x (sortT L)).trans ((sortT_perm L).cons x)
def slB : AV → Nat
 | .sl b _ _ _ _ => b
 | _ => 0
def trip (E : Ents) (A : List AV) (j : Nat) : Trip := ((E.getD j (0, [])).1, slB (A.getD j nilS), (E.getD j (0, [])).2)
theorem tally_end {m : Mem} {g : Nat} {E : Ents} {A : List AV} {hs : List (Int × Int)} {N : Nat} {S : List Nat} (hM : MapI m g E A) (hE : EI hs N 0 E) (hN : hs.length = N) (hnd : S.Nodup) (hlt : ∀ j ∈ S, j < E.length) (hall : ∀ j, j < E.length → j ∈ S) :
   ((S.map fun j => ((E.getD j (0, [])).1, A.getD j nilS)).map (·.1)).Nodup ∧ (∀ x ∈ S.map fun j => ((E.getD j (0, [])).1, A.getD j nilS), oneA x.2 = true) ∧ ∃ X : List Trip, sortL (S.map fun j => ((E.getD j (0, [])).1, A.getD j nilS)) = X.map tripA ∧ (∀ x ∈ X, m.at_ x.2.1 = some ⟨intsA x.2.2, 3, .flat, true⟩ ∧ x.2.1 < m.next) ∧ (X.map (·.2.1)).Nodup ∧ X.map (fun x => (x.1, x.2.2)) = (versF hs).map (fun v => (v, cellsN hs v N)) := by
 have hat : ∀ j, j < E.length → ∃ ev b, E[j]? = some ev ∧ A[j]? = some (.sl b 0 ev.2.length ev.2.length false) ∧ m.at_ b = some ⟨intsA ev.2, 3, .flat, true⟩ ∧ b < m.next ∧ 0 < ev.1 ∧ ev.2 = cellsN hs ev.1 N ∧ ev.2 ≠ [] := by
   intro j hj
   have hja : j < A.length := by rw [hM.len]; exact hj
   have he : E[j]? = some E[j] := List.getElem?_eq_getElem hj
   have hi := hE.is _ (List.mem_of_getElem? he)
   have hck : cellsK hs E[j].1 N 0 = cellsN hs E[j].1 N := by
     unfold cellsK
     rw [List.getElem?_eq_none (by omega)]
     simp
   rw [hck] at hi
   obtain ⟨b, hb, h2, h3⟩ := (hM.own j _ _ he (List.getElem?_eq_getElem hja)).sl (List.length_pos_iff.2 hi.2.2)
   exact ⟨E[j], b, he, by rw [List.getElem?_eq_getElem hja, hb], h2, h3, hi.1, hi.2.1, hi.2.2⟩
 have htr : ∀ j, j < E.length → ((E.getD j (0, [])).1, A.getD j nilS) = tripA (trip E A j) := by
   intro j hj
   obtain ⟨ev, b, h1, h2, _⟩ := hat j hj
   simp only [trip, tripA, List.getD_eq_getElem?_getD, h1, h2, Option.getD_some, slB]
 have hL : (S.map fun j => ((E.getD j (0, [])).1, A.getD j nilS)) = (S.map (trip E A)).map tripA := by
   rw [List.map_map]
   exact List.map_congr_left fun j hj => htr j (hlt j hj)
 have hkeys : ((S.map fun j => ((E.getD j (0, [])).1, A.getD j nilS)).map (·.1)).Nodup := by
   rw [List.map_map]
   refine List.pairwise_map.2 (hnd.imp_of_mem fun {a b} ha hb hab he => ?_)
   have h1 := hlt a ha
   have h2 := hlt b hb
   simp only [Function.comp, List.getD_eq_getElem?_getD, List.getElem?_eq_getElem h1, List.getElem?_eq_getElem h2, Option.getD_some] at he
   have hp := List.pairwise_iff_getElem.1 hE.nd
   rcases Nat.lt_trichotomy a b with hh | hh | hh
   · exact hp a b (by simpa using h1) (by simpa using h2) hh (by simpa using he)
   · exact hab hh
   · exact hp b a (by simpa using h2) (by simpa using h1) hh (by simpa using he.symm)
 have hpw := sortL_pw _ hkeys
 have hperm := sortT_perm (S.map (trip E A))
 have hX : ∀ x ∈ sortT (S.map (trip E A)), ∃ j, j < E.length ∧ x = trip E A j := by
   intro x hx
   rw [hperm.mem_iff, List.mem_map] at hx
   obtain ⟨j, hj, rfl⟩ := hx
   exact ⟨j, hlt j hj, rfl⟩
 have hXs : ∀ x ∈ sortT (S.map (trip E A)), m.at_ x.2.1 = some ⟨intsA x.2.2, 3, .flat, true⟩ ∧ x.2.1 < m.next ∧ 0 < x.1 ∧ x.2.2 = cellsN hs x.1 N ∧ x.2.2 ≠ [] := by
   intro x hx
   obtain ⟨j, hj, rfl⟩ := hX x hx
   obtain ⟨ev, b, h1, h2, h3, h4, h5, h6, h7⟩ := hat j hj
   simp only [trip, List.getD_eq_getElem?_getD, h1, h2, Option.getD_some, slB]
   exact ⟨h3, h4, h5, h6, h7⟩
 refine ⟨hkeys, fun x hx => ?_, sortT (S.map (trip E A)), by rw [hL, sortT_map], fun x hx => ⟨(hXs x hx).1, (hXs x hx).2.1⟩, ?_, ?_⟩
 · rw [hL, List.mem_map] at hx
   obtain ⟨y, _, rfl⟩ := hx
   rfl
 · refine (hperm.map (·.2.1)).nodup_iff.2 ?_
   rw [List.map_map]
   refine List.pairwise_map.2 (hnd.imp_of_mem fun {a b} ha hb hab he => ?_)
   obtain ⟨ev, b1, h1, h2, _⟩ := hat a (hlt a ha)
   obtain ⟨ev', b2, h1', h2', _⟩ := hat b (hlt b hb)
   simp only [Function.comp, trip, List.getD_eq_getElem?_getD, h2, h2', Option.getD_some, slB] at he
   exact hab (hM.apart a b _ _ b1 h2 h2' rfl (by rw [he]; rfl))
 · have hvers : (sortT (S.map (trip E A))).map (·.1) = versF hs := by
     refine falls_vers ⟨?_, fun v => ?_⟩
     · rw [hL, sortT_map] at hpw
       rw [List.pairwise_map] at hpw ⊢
       exact hpw
     · constructor
       · intro hv
         obtain ⟨x, hx, rfl⟩ := List.mem_map.1 hv
         obtain ⟨_, _, h5, h6, h7⟩ := hXs x hx
         refine ⟨h5, by omega, ?_⟩
         rw [h6] at h7
         obtain ⟨c, hc⟩ := List.exists_mem_of_ne_nil _ h7
         unfold cellsN at hc
         obtain ⟨i, _, hi⟩ := List.mem_filterMap.1 hc
         split at hi
         · rename_i hh
           unfold holdsAt at hh
           cases hx2 : hs[i]? with
           | none => rw [hx2] at hh; simp at hh
           | some y =>
             rw [hx2] at hh
             simp only [Bool.or_eq_true, decide_eq_true_eq] at hh
             exact ⟨i, y, hx2, hh⟩
         · cases hi
       · rintro ⟨h1, _, i, y, hy, hh⟩
         have hil := (List.getElem?_eq_some_iff.1 hy).1
         have hne : cellsK hs v N 0 ≠ [] := by
           have : (i : Int) ∈ cellsN hs v N := by
             unfold cellsN
             rw [List.mem_filterMap]
             refine ⟨i, by rw [List.mem_range]; omega, ?_⟩
             have : holdsAt hs i v = true := by
               unfold holdsAt
               rw [hy]
               simpa using hh
             rw [if_pos this]
           intro h0
           unfold cellsK at h0
           rw [List.append_eq_nil_iff] at h0
           rw [h0.1] at this
           cases this
         obtain ⟨e, he, rfl⟩ := hE.all v h1 hne
         obtain ⟨j, hj⟩ := List.getElem?_of_mem he
         have hjl := (List.getElem?_eq_some_iff.1 hj).1
         refine List.mem_map.2 ⟨trip E A j, ?_, ?_⟩
         · rw [hperm.mem_iff]
           exact List.mem_map.2 ⟨j, hall j hjl, rfl⟩
         · simp only [trip, List.getD_eq_getElem?_getD, hj, Option.getD_some]
   rw [← hvers, List.map_map]
   exact List.map_congr_left fun x hx => by
     simp only [Function.comp]
     rw [← (hXs x hx).2.2.2.1]
theorem nestO_congr : ∀ (X Y : List Trip) (n : Nat), X.map (fun x => (x.1, x.2.2)) = Y.map (fun x => (x.1, x.2.2)) → nestO n X = nestO n Y ∧ nestR X = nestR Y
 | [], [], n, _ => ⟨rfl, rfl⟩
 | x :: X, y :: Y, n, h => by
   simp only [List.map_cons, List.cons.injEq, Prod.mk.injEq] at h
   obtain ⟨⟨h1, h2⟩, h3⟩ := h
   obtain ⟨i1, i2⟩ := nestO_congr X Y (n + 1) h3
   constructor
   · show intV x.1 :: .sl n 0 x.2.2.length x.2.2.length false :: nestO (n + 1) X = intV y.1 :: .sl n 0 y.2.2.length y.2.2.length false :: nestO (n + 1) Y
     rw [h1, h2, i1]
   · show (3, intsA x.2.2) :: nestR X = (3, intsA y.2.2) :: nestR Y
     rw [h2, i2]
 | [], _ :: _, n, h => by simp at h
 | _ :: _, [], n, h => by simp at h
def tX (hs : List (Int × Int)) : List Trip := (versF hs).map fun v => (v, 0, cellsN hs v hs.length)
def tallyR (hs : List (Int × Int)) : Res := if versF hs = [] then ⟨.tup [nilS, intV 0], []⟩ else ⟨.tup [.sl (versF hs).length 0 (versF hs).length (versF hs).length false, intV 0], nestR (tX hs) ++ [(226, nestO 0 (tX hs))]⟩
def SortSpec : Prop := ∀ (m : Mem) (b : Nat) (L : List (Int × AV)), m.at_ b = some ⟨pairsA L, 226, .var, true⟩ → (L.map (·.1)).Nodup → L.length ≤ 1000000 → (∀ x ∈ L, oneA x.2 = true) → OSpec Tryz.prog 322 [.sl b 0 L.length L.length false, .clo 323 []] m (fun v m' => v = undefA ∧ m' = m.put b (some ⟨pairsA (sortL L), 226, .var, true⟩))
def SortNil : Prop := FSpec Tryz.prog 322 [nilS, .clo 323 []] ⟨undefA, []⟩
def onceT : Nat → Bool := fun d => d != 71
theorem MapI.setM {m : Mem} {g : Nat} {E : Ents} {A : List AV} (h : MapI m g E A) {mm : Maps} (hm : mm.maps g = m.mm.maps g) : MapI (m.setM mm) g E A := ⟨by rw [← h.mp]; exact hm, h.len, fun j e a he ha => (h.own j e a he ha).setM _, h.apart⟩
theorem MapI.keep {m m' : Mem} {g : Nat} {E : Ents} {A : List AV} (h : MapI m g E A) (hm : m'.mm = m.mm) (hn : m.next ≤ m'.next) (hk : ∀ j k, m.at_ j = some k → j < m.next → k.kind = .flat → m'.at_ j = some k) : MapI m' g E A := ⟨by rw [hm]; exact h.mp, h.len, fun j e a he ha => by
 have := h.own j e a he ha
 rcases this.form with ⟨rfl, h1⟩ | ⟨b, rfl, h2, h3, h4⟩
 · exact ⟨.inl ⟨rfl, h1⟩, this.len⟩
 · exact ⟨.inr ⟨b, rfl, hk b _ h2 h3 rfl, by omega, h4⟩, this.len⟩, h.apart⟩
theorem MapI.pp {m : Mem} {g : Nat} {E : Ents} {A : List AV} (h : MapI m g E A) (x : Blk) (y : Option Blk) : MapI ((m.push x).put m.next y) g E A := h.keep rfl (by rw [put_next, push_next]; omega) fun j k hj hl _ => by rw [put_at, if_neg (by omega), push_at, if_neg (by omega)]; exact hj
theorem addE_len (v i : Int) (E : Ents) : (addE v i E).length ≤ E.length + 1 := by
 unfold addE
 split <;> simp
theorem census_Tallies_own (hso : SortSpec) (hsn : SortNil) (k r c w : Int) (v : AV) (ps : List PairB) (cells : List AV) (hv : RowV v ps cells) (hc : chkI k r c w ps = 0) : FSpec Tryz.prog 290 [parV k r c w, v] (tallyR (heldsP k r c w ps)) := by
 have hp := hv.rd.plain
 have hh := census_held k r c w v ps cells hv
 unfold heldV at hh
 rw [if_pos hc] at hh
 obtain ⟨_, _, _, hn⟩ := chk_ok hc
 have hlen := helds_len k r c w ps
 generalize hhs : heldsP k r c w ps = hs at *
 generalize hN : ps.length = N at *
 generalize hres : tallyR hs = res
 replace hres := Hid.mk hres
 have hrd : RdSl (.tree N N (intsA (flatH hs)) true) N (intsA (flatH hs)) := ⟨.inr (.inr ⟨_, true, rfl, Nat.le_refl _⟩)⟩
 replace hn := Hid.mk hn
 replace hlen := Hid.mk hlen
 refine fspec_of_body follows Tryz.func290 (by unfold Tryz.f290; rfl) (by unfold Tryz.f290; simp) onceT (by unfold Tryz.f290; simp) (by kernel_rfl) ?_; unfold Tryz.f290
 simp only [↓pre, simprocAttr, parV, sx, tys290, onceT, bne, postU, postA, postV, allocE, storeE, put_at, push_at, sr]
 (first | refine call_plain (hh) (by first | rfl | simp only [parV, plQ, *]) ?_ | refine call_pure (hh) (by first | rfl | simp only [parV, plQ, *]) (by intro k; first | rfl | simp only [sq, sr, *]) ?_); simp only [↓pre, simprocAttr, parV, sx, tys290, onceT, bne, postU, postA, postV, allocE, storeE, put_at, push_at, hrd.len', sr]
 intro g hg
 simp only [↓pre, simprocAttr, parV, sx, tys290, onceT, bne, postU, postA, postV, allocE, storeE, put_at, push_at, hrd.len', sr]
 rw [codeW_loop]
 refine loop_intro (fun q e m => ∃ i E A, q + i = N ∧ e 8 = .val (.map (some g)) ∧ e 26 = .tree N N (intsA (flatH hs)) true ∧ e 27 = intV (N : Nat) ∧ e 28 = intV (i : Nat) ∧ Hid (MapI m g E A ∧ EI hs i 0 E ∧ E.length ≤ 2 * i)) N ⟨0, [], [], by omega, rfl, rfl, rfl, rfl, ⟨⟨by simp [Mem.setM, Maps.add]; rfl, rfl, fun j e a he => by simp at he, fun i j a b x ha => by simp at ha⟩, ei_start hs, by simp⟩⟩ ?_
 rintro q e m ⟨i, E, A, hqi, e8, e26, e27, e28, hJ⟩
 replace hqi := Hid.mk hqi
 by_cases hlt : i < N
 · have hlt' : ((i : Nat) : Int) < ((N : Nat) : Int) := by omega
   have w1 := wrap_succ (n := i) (by have := hn.out; omega)
   have hilh : i < hs.length := by have := hlen.out; omega
   obtain ⟨x, hx⟩ : ∃ x, hs[i]? = some x := ⟨_, List.getElem?_eq_getElem hilh⟩
   obtain ⟨hF1, hF2⟩ := flatH_at _ _ _ hx
   obtain ⟨ht, htl⟩ := take2 (int_at (x := []) hF1) (int_at (x := []) hF2)
   rw [List.append_nil] at ht htl
   replace hx := Hid.mk hx
   replace hilh := Hid.mk hilh
   simp only [↓pre, simprocAttr, parV, sx, tys290, onceT, bne, postU, postA, postV, allocE, storeE, put_at, push_at, e8, e26, e27, e28, hlt', hrd.addr', hlt, ht, htl, sr]
   rw [codeW_loop]
   refine loop_intro (fun q e m => ∃ kk E A, q + kk = 2 ∧ e 8 = .val (.map (some g)) ∧ e 9 = intV (i : Nat) ∧ e 10 = .tptr 0 [intV x.1, intV x.2] ∧ e 26 = .tree N N (intsA (flatH hs)) true ∧ e 27 = intV (N : Nat) ∧ e 28 = intV (i : Nat) ∧ e 33 = .agg [intV x.1, intV x.2] ∧ e 34 = intV (kk : Nat) ∧ Hid (MapI m g E A ∧ EI hs i kk E ∧ E.length ≤ 2 * i + kk)) 2 ⟨0, E, A, by omega, e8, rfl, rfl, e26, e27, e28, rfl, rfl, ⟨hJ.out.1.pp _ _, hJ.out.2⟩⟩ ?_
   rintro q2 e m2 ⟨kk, E, A, hqk, e8, e9, e10, e26, e27, e28, e33, e34, hJ2⟩
   replace hqk := Hid.mk hqk
   by_cases hkk : kk < 2
   · obtain ⟨z, hz⟩ : ∃ z, z = if kk = 0 then x.1 else x.2 := ⟨_, rfl⟩
     have hst := ei_step hx.out hJ2.out.2.1 hkk hz
     have hap : ∀ (c : Prop) [Decidable c], True := fun _ _ => trivial
     have hM := hJ2.out.1
     have hlk := hM.look z
     have hown := hM.own_look z
     have hLle : (lookL E z).length ≤ 1000000 := by
       unfold lookL
       cases hj : idxE z E with
       | none => simp
       | some j =>
         obtain ⟨e, he, _⟩ := idxE_some hj
         have := (hJ2.out.2.1.is e (List.mem_of_getElem? he)).2.1
         simp only [he, Option.map_some, Option.getD_some]
         rw [this]
         unfold cellsK
         have h1 := cellsN_le hs e.1 i
         rw [hx.out]
         simp only [List.length_append]
         have := hn.out
         split <;> simp <;> omega
     replace hLle := Hid.mk hLle
     replace hM := Hid.mk hM
     have hk2 : kk = 0 ∨ kk = 1 := by omega
     rcases hk2 with rfl | rfl
     · have e34' : e 34 = intV 0 := e34
       simp only [if_true] at hz
       subst hz
       have w2 : IntKind.i64.wrap (0 + 1) = 1 := by rfl
       by_cases c1 : 0 < x.1
       · rw [if_pos ⟨c1, .inl rfl⟩] at hst
         simp only [↓pre, simprocAttr, parV, sx, tys290, onceT, bne, postU, postA, postV, allocE, storeE, put_at, push_at, e8, e9, e10, e26, e27, e28, e33, e34', hlk, w2, c1, sr]
         refine app_keepM (kd := .flat) (sz := 1) (y := 8) (zl := [.int .i64 0]) (by kernel_rfl) hown (by kernel_rfl) (by kernel_rfl) (by kernel_rfl) rfl srcT1 (by rfl) (by have := hLle.out; omega) (by have := hLle.out; omega) ?_
         intro a' m3 ho' hn' hkeep hbl hmm
         obtain ⟨hup, hM'⟩ := hM.out.upd x.1 i hn' hkeep hbl hmm ho'
         simp only [↓pre, simprocAttr, parV, sx, tys290, onceT, bne, postU, postA, postV, allocE, storeE, put_at, push_at, e8, e9, e10, e26, e27, e28, e33, e34', hlk, w2, c1, hup, sr]
         exact ⟨q2 - 1, by have := hqk.out; omega, 1, _, _, by have := hqk.out; omega, rfl, ⟨hM', hst, by have := addE_len x.1 i E; have := hJ2.out.2.2; omega⟩⟩
       · rw [if_neg (fun h => c1 h.1)] at hst
         simp only [↓pre, simprocAttr, parV, sx, tys290, onceT, bne, postU, postA, postV, allocE, storeE, put_at, push_at, e8, e9, e10, e26, e27, e28, e33, e34', hlk, w2, c1, sr]
         exact ⟨q2 - 1, by have := hqk.out; omega, 1, _, _, by have := hqk.out; omega, rfl, ⟨hM.out, hst, by have := hJ2.out.2.2; omega⟩⟩
     · have e34' : e 34 = intV 1 := e34
       simp only [Nat.one_ne_zero, if_false, false_or] at hz hst
       subst hz
       have w2 : IntKind.i64.wrap (1 + 1) = 2 := by rfl
       by_cases c1 : 0 < x.2
       · by_cases c2 : x.2 = x.1
         · rw [if_neg (fun h => h.2 c2)] at hst
           have c3 : 0 < x.1 := by rw [← c2]; exact c1
           simp only [↓pre, simprocAttr, parV, sx, tys290, onceT, bne, postU, postA, postV, allocE, storeE, put_at, push_at, e8, e9, e10, e26, e27, e28, e33, e34', hlk, w2, c3, c2, sr]
           exact ⟨q2 - 1, by have := hqk.out; omega, 2, _, _, by have := hqk.out; omega, rfl, ⟨hM.out, hst, by have := hJ2.out.2.2; omega⟩⟩
         · rw [if_pos ⟨c1, c2⟩] at hst
           simp only [↓pre, simprocAttr, parV, sx, tys290, onceT, bne, postU, postA, postV, allocE, storeE, put_at, push_at, e8, e9, e10, e26, e27, e28, e33, e34', hlk, w2, c1, c2, sr]
           refine app_keepM (kd := .flat) (sz := 1) (y := 8) (zl := [.int .i64 0]) (by kernel_rfl) hown (by kernel_rfl) (by kernel_rfl) (by kernel_rfl) rfl srcT1 (by rfl) (by have := hLle.out; omega) (by have := hLle.out; omega) ?_
           intro a' m3 ho' hn' hkeep hbl hmm
           obtain ⟨hup, hM'⟩ := hM.out.upd x.2 i hn' hkeep hbl hmm ho'
           simp only [↓pre, simprocAttr, parV, sx, tys290, onceT, bne, postU, postA, postV, allocE, storeE, put_at, push_at, e8, e9, e10, e26, e27, e28, e33, e34', hlk, w2, c1, c2, hup, sr]
           exact ⟨q2 - 1, by have := hqk.out; omega, 2, _, _, by have := hqk.out; omega, rfl, ⟨hM', hst, by have := addE_len x.2 i E; have := hJ2.out.2.2; omega⟩⟩
       · rw [if_neg (fun h => c1 h.1)] at hst
         simp only [↓pre, simprocAttr, parV, sx, tys290, onceT, bne, postU, postA, postV, allocE, storeE, put_at, push_at, e8, e9, e10, e26, e27, e28, e33, e34', hlk, w2, c1, sr]
         exact ⟨q2 - 1, by have := hqk.out; omega, 2, _, _, by have := hqk.out; omega, rfl, ⟨hM.out, hst, by have := hJ2.out.2.2; omega⟩⟩
   · have hkk' : ¬ ((kk : Nat) : Int) < 2 := by omega
     have : kk = 2 := by have := hqk.out; omega
     subst this
     simp only [↓pre, simprocAttr, parV, sx, tys290, onceT, bne, postU, postA, postV, allocE, storeE, put_at, push_at, e8, e9, e10, e26, e27, e28, e33, e34, hkk', w1, sr]
     exact ⟨q - 1, by have := hqi.out; omega, i + 1, E, A, by have := hqi.out; omega, rfl, ⟨hJ2.out.1, ei_next hilh.out hJ2.out.2.1, by have := hJ2.out.2.2; omega⟩⟩
 · have hlt' : ¬ ((i : Nat) : Int) < ((N : Nat) : Int) := by omega
   have hiN : i = N := by have := hqi.out; omega
   subst hiN
   simp only [↓pre, simprocAttr, parV, sx, tys290, onceT, bne, postU, postA, postV, allocE, storeE, put_at, push_at, e8, e26, e27, e28, hlt', sr]
   have hM := hJ.out.1
   have hE := hJ.out.2.1
   have hEl : E.length ≤ 32 := by have := hJ.out.2.2; have := hn.out; omega
   replace hEl := Hid.mk hEl
   refine ⟨(g, zipM E A), by rw [mapT_tally]; rfl, by simp only [mapAt, hM.mp, Option.map_some], ?_⟩
   intro rr hrr
   simp only [↓pre, simprocAttr, parV, sx, tys290, onceT, bne, postU, postA, postV, allocE, storeE, put_at, push_at, e8, e26, e27, e28, sr]
   rw [codeW_loop]
   refine loop_intro (fun q e m => ∃ S lv, q + S.length = E.length ∧ e 13 = lv ∧ e 61 = .val (.pointer (some ⟨rr, 0, none⟩)) ∧ m.mm.iters rr = some (g, S) ∧ Hid (MapI m g E A ∧ S.Nodup ∧ (∀ j ∈ S, j < E.length) ∧ OwnK .var m 226 2 lv S.length (pairsA (S.map fun j => ((E.getD j (0, [])).1, A.getD j nilS))))) E.length ⟨[], nilS, by simp, rfl, rfl, by simp [Mem.setM, Maps.walk], ⟨hM.setM rfl, List.nodup_nil, fun j h => (by cases h), own_nil⟩⟩ ?_
   rintro q e m3 ⟨S, lv, hq, e13, e61, hit, hJ3⟩
   replace hq := Hid.mk hq
   replace hM := Hid.mk hM
   replace hE := Hid.mk hE
   simp only [↓pre, simprocAttr, parV, sx, tys290, onceT, bne, postU, postA, postV, allocE, storeE, put_at, push_at, e13, e61, sr]
   have hM3 := hJ3.out.1
   have hlv := hJ3.out.2.2.2
   have hzl : (zipM E A).length = E.length := by unfold zipM; rw [List.length_zipWith, hM3.len]; omega
   refine ⟨(rr, (g, S), zipM E A), by simp only [iterAt, hit, hM3.mp, Option.bind_some, Option.map_some], fun hall => ?_, fun j kv hj hjs => ?_⟩
   · simp only at hall
     simp only [hzl] at hall
     obtain ⟨hk1, hk2, X, hX1, hX2, hX3, hX4⟩ := tally_end hM3 hE.out hlen.out hJ3.out.2.1 hJ3.out.2.2.1 hall
     have hlL : (S.map fun j => ((E.getD j (0, [])).1, A.getD j nilS)).length = S.length := by simp
     generalize hLg : (S.map fun j => ((E.getD j (0, [])).1, A.getD j nilS)) = L at *
     have hXl : X.length = L.length := by
       have := (sortL_perm L).length_eq
       rw [hX1, List.length_map] at this
       exact this
     have hvl : X.length = (versF hs).length := by
       have := congrArg List.length hX4
       simpa using this
     have hSl : S.length ≤ 32 := by have := hEl.out; have := hq.out; omega
     replace hX1 := Hid.mk hX1
     replace hX4 := Hid.mk hX4
     replace hLg := Hid.mk hLg
     replace hvl := Hid.mk hvl
     replace hXl := Hid.mk hXl
     replace hlL := Hid.mk hlL
     replace hSl := Hid.mk hSl
     rcases hlv.form with ⟨rfl, h0, _⟩ | ⟨b, rfl, hb, hbl, hpos⟩
     · have hv0 : versF hs = [] := List.eq_nil_of_length_eq_zero (by have := hvl.out; have := hXl.out; have := hlL.out; omega)
       simp only [↓pre, simprocAttr, parV, sx, tys290, onceT, bne, postU, postA, postV, allocE, storeE, put_at, push_at, e13, e61, sr]
       (first | refine call_plain (hsn) (by first | rfl | simp only [parV, plQ, *]) ?_ | refine call_pure (hsn) (by first | rfl | simp only [parV, plQ, *]) (by intro k; first | rfl | simp only [sq, sr, *]) ?_); simp only [↓pre, simprocAttr, parV, sx, tys290, onceT, bne, postU, postA, postV, allocE, storeE, put_at, push_at, e13, e61, nilS, sr]
       rw [← hres.out]
       unfold tallyR
       rw [if_pos hv0]
       rfl
     · have hne : ¬ versF hs = [] := by
         intro h
         have h1 := hvl.out
         rw [h, List.length_nil] at h1
         have h2 := hXl.out
         have h3 := hlL.out
         omega
       have hsort := hso m3 b L hb hk1 (by have := hlL.out; have := hSl.out; omega) hk2
       rw [hlL.out] at hsort
       have hms : ∀ x ∈ X, (m3.put b (some ⟨pairsA (sortL L), 226, .var, true⟩)).at_ x.2.1 = some ⟨intsA x.2.2, 3, .flat, true⟩ := by
         intro x hx
         have h1 := (hX2 x hx).1
         rw [put_at, if_neg ?_]
         · exact h1
         · intro e
           rw [e, hb] at h1
           have h2 := congrArg Blk.kind (Option.some.inj h1)
           cases h2
       have hcn := nest_canon (m3.put b (some ⟨pairsA (sortL L), 226, .var, true⟩)) 2 X [] [] hms hX3 (fun x hx i hi => by cases hi)
       rw [← hX1.out, List.length_nil, List.nil_append, List.nil_append] at hcn
       have hany : (X.map (fun x => (x.2.1, 0))).any (fun i : Nat × Nat => i.1 == b) = false := by
         rw [List.any_eq_false]
         intro i hi
         obtain ⟨x, hx, rfl⟩ := List.mem_map.1 hi
         have h1 := (hX2 x hx).1
         intro e
         have e : x.2.1 = b := by simpa using e
         rw [e, hb] at h1
         have h2 := congrArg Blk.kind (Option.some.inj h1)
         cases h2
       have hcan : canon Tryz.prog (m3.put b (some ⟨pairsA (sortL L), 226, .var, true⟩)) 3 [] [] (.sl b 0 S.length S.length false) = some (.sl X.length 0 S.length S.length false, X.map (fun x => (x.2.1, 0)) ++ [(b, 0)], nestR X ++ [(226, nestO 0 X)]) := by
         have k9 : kindT Tryz.prog 226 = .var := by kernel_rfl
         have hnr : (nestR X).length = X.length := by simp [nestR]
         unfold canon
         simp only [put_at, if_true, Option.bind_some, k9, and_self, List.drop_zero, hcn, hany, Bool.false_eq_true, if_false, hnr]
       simp only [↓pre, simprocAttr, parV, sx, tys290, onceT, bne, postU, postA, postV, allocE, storeE, put_at, push_at, e13, e61, sr]
       refine .inr (.inr (.inl ⟨_, _, hsort, ?_⟩))
       simp only [↓pre, simprocAttr, parV, sx, tys290, onceT, bne, postU, postA, postV, allocE, storeE, put_at, push_at, e13, e61, hcan, sr]
       rw [← hres.out]
       unfold tallyR
       rw [if_neg hne]
       obtain ⟨c1, c2⟩ := nestO_congr X (tX hs) 0 (by rw [hX4.out]; unfold tX; rw [List.map_map, hlen.out]; rfl)
       have h1 := hvl.out
       have h2 := hXl.out
       have h3 := hlL.out
       have h4 : S.length = (versF hs).length := by omega
       rw [h1, h4, c1, c2]
       rfl
   · simp only at hj hjs
     obtain ⟨ev, hev, hj⟩ := Option.bind_eq_some_iff.1 (zip_at (E := E) (A := A) j ▸ hj)
     obtain ⟨av, hav, rfl⟩ := Option.map_eq_some_iff.1 hj
     have hoj := hM3.own j ev av hev hav
     have hei := hE.out.is ev (List.mem_of_getElem? hev)
     obtain ⟨b', rfl, hb', hlt'⟩ := hoj.sl (List.length_pos_iff.2 hei.2.2)
     have hel : j < E.length := (List.getElem?_eq_some_iff.1 hev).1
     have hent : entE (m3.setM (m3.mm.walk rr (g, S ++ [j]))) (.val (.pointer (some ⟨rr, 0, none⟩))) = some (.tup [.val (.int .i64 ev.1), .sl b' 0 ev.2.length ev.2.length false]) := by
       have h1 : (m3.setM (m3.mm.walk rr (g, S ++ [j]))).mm.iters rr = some (g, S ++ [j]) := by simp [Mem.setM, Maps.walk]
       have h2 : (m3.setM (m3.mm.walk rr (g, S ++ [j]))).mm.maps g = some (zipM E A) := hM3.mp
       simp only [entE, iterAt, h1, h2, Option.bind_some, Option.map_some, List.getLast?_append, List.getLast?_singleton, Option.some_or, zip_at, hev, hav]
     have hlen2 : S.length < E.length := by
       have := hJ3.out.2.1
       have h3 := hJ3.out.2.2.1
       have : (S ++ [j]).Nodup := List.nodup_append.2 ⟨this, by simp, fun a ha b hb => by simp at hb; subst hb; rintro rfl; exact hjs ha⟩
       have hle := List.Nodup.length_le_of_subset this (l₂ := List.range E.length) (fun y hy => by
         rw [List.mem_range]
         rcases List.mem_append.1 hy with hy | hy
         · exact h3 y hy
         · simp at hy; omega)
       simp at hle
       omega
     have hbs := fun m => build_var1 (P := Tryz.prog) (m := m) (t := 223) (el := 226) (a := .int .i64 ev.1) (x := .sl b' 0 ev.2.length ev.2.length false) (z := [.int .i64 0, .slice none 0 0]) (by kernel_rfl) rfl rfl rfl (by kernel_rfl) (by kernel_rfl) (by kernel_rfl) rfl
     simp only [↓pre, simprocAttr, parV, sx, tys290, onceT, bne, postU, postA, postV, allocE, storeE, put_at, push_at, e13, e61, hent, hbs, sr]
     have hlv4 : OwnK .var ((m3.setM (m3.mm.walk rr (g, S ++ [j]))).push ⟨[.val (.int .i64 ev.1), .sl b' 0 ev.2.length ev.2.length false], 226, .var, true⟩) 226 2 lv S.length _ := (hlv.setM _).push _
     refine app_keepM (kd := .var) (sz := 2) (y := 32) (zl := [.int .i64 0, .slice none 0 0]) (by kernel_rfl) hlv4 (by kernel_rfl) (by kernel_rfl) (by kernel_rfl) rfl (src1a (by kernel_rfl) rfl) (by rfl) (by have := hEl.out; omega) (by have := hEl.out; omega) ?_
     intro lv' m5 ho5 hn5 hkeep5 hbl5 hmm5
     simp only [↓pre, simprocAttr, parV, sx, tys290, onceT, bne, postU, postA, postV, allocE, storeE, put_at, push_at, e13, e61, sr]
     refine ⟨q - 1, by have := hq.out; omega, S ++ [j], lv', by have := hq.out; simp; omega, rfl, ?_, ⟨?_, ?_, ?_, ?_⟩⟩
     · rw [hmm5]; simp [Mem.push, Mem.setM, Maps.walk]
     · have hMp : MapI ((m3.setM (m3.mm.walk rr (g, S ++ [j]))).push ⟨[.val (.int .i64 ev.1), .sl b' 0 ev.2.length ev.2.length false], 226, .var, true⟩) g E A := (hM3.setM (mm := m3.mm.walk rr (g, S ++ [j])) rfl).keep rfl (by rw [push_next]; omega) fun j k hj hl _ => by rw [push_at, if_neg (by omega)]; exact hj
       exact hMp.keep hmm5 hn5 fun j k hj hl hk => hkeep5 j k hj hl (hlv4.ne_kind hj (by rw [hk]; intro h; cases h))
     · exact List.nodup_append.2 ⟨hJ3.out.2.1, by simp, fun a ha b hb => by simp at hb; subst hb; rintro rfl; exact hjs ha⟩
     · intro y hy
       rcases List.mem_append.1 hy with hy | hy
       · exact hJ3.out.2.2.1 y hy
       · simp at hy; omega
     · have e1 : (E.getD j (0, [])).1 = ev.1 := by rw [List.getD_eq_getElem?_getD, hev]; rfl
       have e2 : A.getD j nilS = .sl b' 0 ev.2.length ev.2.length false := by rw [List.getD_eq_getElem?_getD, hav]; rfl
       rw [List.length_append, List.map_append, pairsA_append, List.map_cons, List.map_nil, e1, e2]
       exact ho5
end Go.Proofs.YtaekhhlgnbhnpaaGreat