import Derived.Test.YtaekhhlgnbhnpaaGreatWdcG21
import Derived.Test.YtaekhhlgnbhnpaaGreatWdcG15
set_option linter.unusedVariables false
set_option linter.unusedSimpArgs false
set_option maxRecDepth 10000
namespace Go.Proofs.YtaekhhlgnbhnpaaGreat
open Go Go.Tw Go.Proofs Go.Gf
abbrev obR : List ResultVar := [.cell 4 33, .cell 5 3, .cell 6 31, .cell 7 31, .cell 8 28]
abbrev obC : List AV := [.ptr 4 0, .ptr 0 0, .ptr 1 0, .ptr 2 0, .ptr 3 0]
structure ObE (e : Env) : Prop where
 a : e 4 = .ptr 0 0
 b : e 5 = .ptr 1 0
 c : e 6 = .ptr 2 0
 d : e 7 = .ptr 3 0
 e : e 8 = .ptr 4 0
theorem obj_res {m : Mem} {e : Env} {d0 d1 d2 ve lv sv : AV} {E : Int} (h : ObB m d0 d1 d2 ve lv sv E) (he : ObE e) : resultsE Tryz.prog obR e m = some (.tup [.agg [d0, d1, d2], ve, lv, sv, intV E]) := by
 obtain ⟨hd, hv, hl, hs, h4⟩ := h
 obtain ⟨ea, eb, ec, ed, ee⟩ := he
 simp only [resultsE, resEs, resE, loadE, ea, eb, ec, ed, ee, hd, hv, hl, hs, h4, Option.bind_some, if_neg (show ¬ Kind.var = Kind.hole by decide), partE, show aggE Tryz.prog 33 = some true by kernel_rfl, show szE Tryz.prog 33 = some 3 by kernel_rfl, show aggE Tryz.prog 3 = some false by kernel_rfl, show aggE Tryz.prog 31 = some false by kernel_rfl, show aggE Tryz.prog 28 = some false by kernel_rfl]
 rfl
theorem obj_endE {m : Mem} {e : Env} {d0 d1 d2 ve lv sv : AV} {E : Int} (h0 : E ≠ 0) (h : ObB m d0 d1 d2 ve lv sv E) (he : ObE e) : endD Tryz.prog obR 131 obC (fun v m => ∃ k, fzT k m v = some (.tup [desc0, intV 0, nilS, nilS, intV E])) .ret e m :=
 (obj_err m h0 h).mono fun _ m' h' => by
   rw [obj_res h' he]
   exact ⟨1, fzId_five desc0_fz (fzId_val _) (fzId_val _) (fzId_val _) (fzId_val _) 1 m'⟩
theorem obj_endO {m : Mem} {e : Env} {len dep W : Int} {DV lv sv LT ST : AV} {n : Nat} {cs : List AV} (hD : RdSl DV n cs) (h : ObB m (intV len) (intV dep) DV (intV W) lv sv 0) (hl : fzT 1 m lv = some LT) (hs : fzT 1 m sv = some ST) (he : ObE e) : endD Tryz.prog obR 131 obC (fun v m => ∃ k, fzT k m v = some (.tup [.agg [intV len, intV dep, DV], intV W, LT, ST, intV 0])) .ret e m :=
 (obj_ok m h).mono fun _ m' h' => by
   subst h'
   rw [obj_res h he]
   refine ⟨1, ?_⟩
   have h1 : fzT 1 m' (.agg [intV len, intV dep, DV]) = some (.agg [intV len, intV dep, DV]) := fzId_agg (fun c hc => by
     simp only [List.mem_cons, List.not_mem_nil, or_false] at hc
     rcases hc with rfl | rfl | rfl
     · exact fzId_val _
     · exact fzId_val _
     · exact fzId_rd hD) 1 m'
   simp only [intV] at h1 ⊢
   simp only [fzT_tup, fzTs_cons, h1, hl, hs, Option.bind_some, fzT_val, fzTs_nil, Option.map_some]
def onceOb : Nat → Bool := fun d => d != 4 && d != 5 && d != 6 && d != 7 && d != 8
theorem tree_Object (k r c w row : Int) (v : AV) (L : List (List UInt8)) (cells : List AV) (hv : RowsV v L cells) : FSpec Tryz.prog 59 [imV k r c w v, intV row] ⟨objV k r c w L row, []⟩ := by
 refine fspec_fzT ?_
 have hp := hv.rd.plain
 have hf := rd_fz hv.rd
 have ho := rd_one hv.rd
 have hck := image_Check k r c w v L cells hv
 have hrw := image_Row k r c w row v L cells hv
 unfold objV objE
 unfold imV at hck hrw ⊢
 unfold rowVal at hrw
 have hz3 : zeroE Tryz.prog 33 = some [.int .i64 0, .int .i64 0, .slice none 0 0] := by kernel_rfl
 by_cases hR : rowE k r c w L row = 0
 · rw [if_pos hR] at hrw ⊢
   obtain ⟨hrb, hm⟩ := row_rowB hR
   have hE : imE k r c w L = 0 := by
     unfold rowE at hR
     split at hR
     · assumption
     · assumption
   have hrow : ¬ row < 0 ∧ ¬ w ≤ row := by
     unfold rowE at hR
     rw [if_pos hE] at hR
     split at hR
     · omega
     · omega
   obtain ⟨h1, h2⟩ := hrow
   rw [hE] at hck
   have hmn := may_n hm
   have hrv := row_rowV k r c w L row (by omega)
   have hcr := commit_Read k r c w _ _ _ hrv
   have hpr := hrv.rd.plain
   have hsr := rd_shift hrv.rd
   have hoR := rd_one hrv.rd
   unfold objL objS objD
   generalize treeR (k + r).toNat (prA (rowL k r w L row)) = RV at *
   generalize rowL k r w L row = ps at *
   unfold comV at hcr
   refine ospec_of_defer follows Tryz.func59 (by unfold Tryz.f59; rfl) (by unfold Tryz.f59; simp) onceOb (by unfold Tryz.f59; simp) (by kernel_rfl) (by kernel_rfl) (by unfold Tryz.f59; decide) (by kernel_rfl) ?_
   unfold deferW Tryz.f59
   by_cases hC : comE k r c w ps = 0
   · rw [if_pos hC] at hcr ⊢
     have hD := com_desc hC
     obtain ⟨hl0, hl1, hdep, hll, hlr⟩ := desc_bounds hD
     obtain ⟨hoE, hdF, hlc⟩ := desc_oE hD
     have hRr := treeR_rd (pRefs (comD k r c w ps)).length (refsA (pRefs (comD k r c w ps)))
     have hw := may_w hm
     have hdb := d_bounds hw.1 hw.2
     have hcl := clone_refs (pRefs (comD k r c w ps)) (by unfold dI at hll; omega)
     have hst := layout_stripes k r c w (pLen (comD k r c w ps))
     have hlf := layout_Leaf k r c w
     simp only [hm, if_true] at hlf
     rw [hoE] at hst
     unfold descA at hcr ⊢
     unfold refsT
     generalize winI k r c w ps = W at *
     generalize pDep (comD k r c w ps) = PD at *
     generalize pLen (comD k r c w ps) = PL at *
     generalize pRefs (comD k r c w ps) = PR at *
     have hfR := rd_fz hRr
     have hoL := rd_one hRr
     have hsL := rd_shift hRr
     have hpL := hRr.plain
     by_cases hd0 : PD = 0
     · rw [if_pos hd0, if_pos hd0, if_pos hd0, if_pos rfl]
       rw [hd0] at hcr ⊢
       replace hd0 := Hid.mk hd0
       have hfin := fzId_rd hRr
       replace hfin := Hid.mk hfin
       have hcL := rd_cells hRr
       have hkL := rd_okA hRr
       generalize treeR PR.length (refsA PR) = RT at *
       simp only [intV] at hcr hrw
       simp only [↓pre, simprocAttr, parV, sx, tys59, cellsR, onceOb, bne, postU, storeE, allocE, put_at, push_at, put_next, push_next, me0, Nat.one_ne_zero, Nat.zero_ne_one, Nat.reduceEqDiff, hf, ho, sr]
       refine call_plain (hck) (by simp only [parV, plQ, *]) ?_; simp only [↓pre, simprocAttr, parV, sx, tys59, cellsR, onceOb, bne, postU, storeE, allocE, put_at, push_at, put_next, push_next, me0, Nat.one_ne_zero, Nat.zero_ne_one, Nat.reduceEqDiff, hf, ho, h1, h2, hoR, hsr, hsL, hoL, hcL, hkL, sr]; refine call_plain (hrw) (by simp only [parV, plQ, *]) ?_; simp only [↓pre, simprocAttr, parV, sx, tys59, cellsR, onceOb, bne, postU, storeE, allocE, put_at, push_at, put_next, push_next, me0, Nat.one_ne_zero, Nat.zero_ne_one, Nat.reduceEqDiff, hf, ho, h1, h2, hoR, hsr, hsL, hoL, hcL, hkL, sr]; refine call_plain (hcr) (by simp only [parV, plQ, *]) ?_; simp only [↓pre, simprocAttr, parV, sx, tys59, cellsR, onceOb, bne, postU, storeE, allocE, put_at, push_at, put_next, push_next, me0, Nat.one_ne_zero, Nat.zero_ne_one, Nat.reduceEqDiff, hf, ho, h1, h2, hoR, hsr, hsL, hoL, hcL, hkL, sr]; refine call_plain (hcl) (by simp only [parV, plQ, *]) ?_; simp only [↓pre, simprocAttr, parV, sx, tys59, cellsR, onceOb, bne, postU, storeE, allocE, put_at, push_at, put_next, push_next, me0, Nat.one_ne_zero, Nat.zero_ne_one, Nat.reduceEqDiff, hf, ho, h1, h2, hoR, hsr, hsL, hoL, hcL, hkL, sr]
       exact obj_endO hRr ⟨rfl, rfl, rfl, rfl, rfl⟩ fzT_val (hfin.out _ _) ⟨rfl, rfl, rfl, rfl, rfl⟩
     · rw [if_neg hd0, if_neg hd0, if_neg hd0]
       have hPD : PD = 1 := by omega
       rw [if_neg hd0] at hlc
       have hos : 0 ≤ oS k r c w PL ∧ oS k r c w PL ≤ 40000 := by
         have := up_bounds (a := PL) (b := wI k c) hl0 hl1 (by unfold wI; omega) (by unfold wI; omega)
         unfold oS
         rw [if_pos hoE]
         unfold sI
         omega
       have hlb := l_bounds hw.1 hw.2
       have hlfb : 5 ≤ lI k c ∧ lI k c ≤ 128 := hlb
       have hPRl : PR.length ≤ 126 := by unfold dI at hll; omega
       have hlea := fun (i : Nat) (x : RefI) (hi : PR[i]? = some x) n => tree_leaf k r c w v L cells hv hE x (by
         have := hlr x (List.mem_of_getElem? hi)
         unfold refB
         exact decide_eq_true this) n
       have hcells := fun i x hi => refsA_at PR [] i x hi
       rw [List.append_nil] at hcells
       unfold imV at hlea
       have hlenRT := fun t ht => hRr.len' (P := Tryz.prog) (t := t) ht
       have haddRT := fun t j ht => hRr.addr' (P := Tryz.prog) (t := t) (k := j) ht
       have hcL := rd_cells hRr
       have hkL := rd_okA hRr
       generalize treeR PR.length (refsA PR) = RT at *
       generalize hEE : leavesE k r c w L PR (oS k r c w PL) = EE at *
       generalize hRR : leavesR k r c w L PR (oS k r c w PL) = RR at *
       generalize oS k r c w PL = OS at *
       generalize hLI : lI k c = LI at *
       replace hLI := Hid.mk hLI
       simp only [intV] at hcr hrw
       generalize hRES : (if EE = 0 then AV.tup [AV.agg [intV PL, intV PD, RT], intV W, RT, treeR RR.length (refsA RR), intV 0] else AV.tup [desc0, intV 0, nilS, nilS, intV EE]) = RES
       replace hRES := Hid.mk hRES
       replace hPD := Hid.mk hPD
       replace hEE := Hid.mk hEE
       replace hRR := Hid.mk hRR
       replace hos := Hid.mk hos
       replace hlr := Hid.mk hlr
       replace hlea := Hid.mk hlea
       replace hcells := Hid.mk hcells
       replace hdF := Hid.mk hdF
       replace hlc := Hid.mk hlc
       replace hrv := Hid.mk hrv
       replace hmn := Hid.mk hmn
       replace hlfb := Hid.mk hlfb
       replace hlb := Hid.mk hlb
       replace hw := Hid.mk hw
       replace hdb := Hid.mk hdb
       replace hD := Hid.mk hD
       simp only [↓pre, simprocAttr, parV, sx, tys59, cellsR, onceOb, bne, postU, storeE, allocE, put_at, push_at, put_next, push_next, me0, Nat.one_ne_zero, Nat.zero_ne_one, Nat.reduceEqDiff, hf, ho, sr]
       refine call_plain (hck) (by simp only [parV, plQ, *]) ?_; simp only [↓pre, simprocAttr, parV, sx, tys59, cellsR, onceOb, bne, postU, storeE, allocE, put_at, push_at, put_next, push_next, me0, Nat.one_ne_zero, Nat.zero_ne_one, Nat.reduceEqDiff, hf, ho, h1, h2, hoR, hsr, hsL, hoL, hcL, hkL, hd0, hlenRT, sr]; refine call_plain (hrw) (by simp only [parV, plQ, *]) ?_; simp only [↓pre, simprocAttr, parV, sx, tys59, cellsR, onceOb, bne, postU, storeE, allocE, put_at, push_at, put_next, push_next, me0, Nat.one_ne_zero, Nat.zero_ne_one, Nat.reduceEqDiff, hf, ho, h1, h2, hoR, hsr, hsL, hoL, hcL, hkL, hd0, hlenRT, sr]; refine call_plain (hcr) (by simp only [parV, plQ, *]) ?_; simp only [↓pre, simprocAttr, parV, sx, tys59, cellsR, onceOb, bne, postU, storeE, allocE, put_at, push_at, put_next, push_next, me0, Nat.one_ne_zero, Nat.zero_ne_one, Nat.reduceEqDiff, hf, ho, h1, h2, hoR, hsr, hsL, hoL, hcL, hkL, hd0, hlenRT, sr]; refine call_plain (hcl) (by simp only [parV, plQ, *]) ?_; simp only [↓pre, simprocAttr, parV, sx, tys59, cellsR, onceOb, bne, postU, storeE, allocE, put_at, push_at, put_next, push_next, me0, Nat.one_ne_zero, Nat.zero_ne_one, Nat.reduceEqDiff, hf, ho, h1, h2, hoR, hsr, hsL, hoL, hcL, hkL, hd0, hlenRT, sr]; refine call_plain (hst) (by rfl) ?_; simp only [↓pre, simprocAttr, parV, sx, tys59, cellsR, onceOb, bne, postU, storeE, allocE, put_at, push_at, put_next, push_next, me0, Nat.one_ne_zero, Nat.zero_ne_one, Nat.reduceEqDiff, hf, ho, h1, h2, hoR, hsr, hsL, hoL, hcL, hkL, hd0, hlenRT, sr]; refine call_plain (hlf) (by rfl) ?_; simp only [↓pre, simprocAttr, parV, sx, tys59, cellsR, onceOb, bne, postU, storeE, allocE, put_at, push_at, put_next, push_next, me0, Nat.one_ne_zero, Nat.zero_ne_one, Nat.reduceEqDiff, hf, ho, h1, h2, hoR, hsr, hsL, hoL, hcL, hkL, hd0, hlenRT, sr]
       rw [codeW_loop]
       refine loop_intro (fun q e m => ∃ i left acc lv, q + i = PR.length ∧ ObE e ∧ e 2 = .tptr 0 [intV k, intV r, intV c, intV w, v] ∧ e 10 = intV left ∧ e 11 = intV LI ∧ e 74 = RT ∧ e 75 = intV (PR.length : Nat) ∧ e 76 = intV (i : Nat) ∧ Hid ((0 ≤ left ∧ left ≤ 40000) ∧ ObB m (intV PL) (intV PD) RT (intV W) RT lv 0 ∧ 4 < m.next ∧ Own m 67 2 lv acc.length (refsA acc) ∧ (∀ j, blkOf lv = some j → 4 < j) ∧ leavesE k r c w L (PR.drop i) left = EE ∧ acc ++ leavesR k r c w L (PR.drop i) left = RR ∧ acc.length ≤ i * 128)) PR.length ⟨0, OS, [], nilS, by omega, ⟨rfl, rfl, rfl, rfl, rfl⟩, rfl, rfl, rfl, rfl, rfl, rfl, ⟨hos.out, ⟨rfl, rfl, rfl, rfl, rfl⟩, by simp [put_next, push_next, me0], own_nil, fun j h => by simp [blkOf, nilS] at h, hEE.out, hRR.out, by simp⟩⟩ ?_
       rintro q e m ⟨i, left, acc, lv, hq, he, e2, e10, e11, e74, e75, e76, hJ⟩
       replace hq := Hid.mk hq
       obtain ⟨hleft, hB, hnx, hown, hblk, hLE, hLR, hacc⟩ := hJ.out
       clear hJ
       obtain ⟨e4, e5, e6, e7, e8⟩ := he
       obtain ⟨b0, b1, b2, b3, b4⟩ := hB
       have g0 : ¬ (0 = m.next) := by omega
       have g1 : ¬ (1 = m.next) := by omega
       have g2 : ¬ (2 = m.next) := by omega
       have g3 : ¬ (3 = m.next) := by omega
       have g4 : ¬ (4 = m.next) := by omega
       by_cases hlt : i < PR.length
       · have hlt' : ((i : Nat) : Int) < ((PR.length : Nat) : Int) := by omega
         have wi := wrap_succ (n := i) (by omega)
         obtain ⟨x, hx⟩ : ∃ x, PR[i]? = some x := ⟨_, List.getElem?_eq_getElem hlt⟩
         obtain ⟨ha, hb⟩ := hcells.out i x hx
         obtain ⟨ht, htl⟩ := take2 ha hb
         have hdrop : PR.drop i = x :: PR.drop (i + 1) := by
           rw [List.drop_eq_getElem_cons hlt]
           congr 1
           rw [List.getElem?_eq_getElem hlt] at hx
           exact Option.some.inj hx
         have hlf2 := hlea.out i x hx (min left LI)
         rw [hdrop] at hLE hLR
         simp only [leavesE, leavesR, hLI.out] at hLE hLR
         unfold leafV at hlf2
         replace hdrop := Hid.mk hdrop
         replace hx := Hid.mk hx
         have hlL := leafR_len k r c w L x (min left LI)
         have hok := leaf_ok (k := k) (r := r) (c := c) (w := w) (L := L) (x := x) (n := min left LI)
         by_cases hE0 : leafE k r c w L x (min left LI) = 0
         · rw [if_pos hE0] at hLE hlf2
           obtain ⟨hn1, hn2⟩ := hok hE0
           obtain ⟨N, hN⟩ : ∃ N : Nat, min left LI = (N : Int) := ⟨(min left LI).toNat, by omega⟩
           rw [hN] at hLE hlf2 hLR hlL hn1 hn2
           rw [Int.toNat_natCast] at hlf2 hlL
           generalize leafR k r c w L x ↑N = LR at *
           have hTr := treeR_rd N (refsA LR)
           have pT := hTr.plain
           have sT := rd_shift hTr
           have lT := fun t ht => hTr.len' (P := Tryz.prog) (t := t) ht
           have hsrc := fun m => hTr.src (P := Tryz.prog) (m := m) (el := 67) (sz := 2) (by rw [refsA_len]; omega)
           rw [show (refsA LR).take (N * 2) = refsA LR from List.take_of_length_le (by rw [refsA_len]; omega)] at hsrc
           generalize treeR N (refsA LR) = TR at *
           have hNl : N ≤ 128 := by have := hlfb.out; omega
           have wl : IntKind.i64.wrap (left - (N : Int)) = left - (N : Int) := wrap_id (by omega) (by omega)
           replace hlL := Hid.mk hlL
           replace hLE := Hid.mk hLE
           replace hLR := Hid.mk hLR
           replace hown := Hid.mk hown
           replace hblk := Hid.mk hblk
           replace hacc := Hid.mk hacc
           replace hok := Hid.mk hok
           replace hTr := Hid.mk hTr
           replace hsrc := Hid.mk hsrc
           replace hE0 := Hid.mk hE0
           have hne : 4 < m.next := hnx
           simp only [↓pre, simprocAttr, parV, sx, tys59, cellsR, onceOb, bne, postU, storeE, allocE, put_at, push_at, put_next, push_next, me0, Nat.one_ne_zero, Nat.zero_ne_one, Nat.reduceEqDiff, hf, ho, e2, e4, e5, e6, e7, e8, e10, e11, e74, e75, e76, b0, b1, b2, b3, b4, g0, g1, g2, g3, g4, hoL, hcL, hkL, postV, hlt', hlt, haddRT, ht, htl, hN, sr]
           refine call_plain (hlf2) (by simp only [parV, plQ, *]) ?_; simp only [↓pre, simprocAttr, parV, sx, tys59, cellsR, onceOb, bne, postU, storeE, allocE, put_at, push_at, put_next, push_next, me0, Nat.one_ne_zero, Nat.zero_ne_one, Nat.reduceEqDiff, hf, ho, e2, e4, e5, e6, e7, e8, e10, e11, e74, e75, e76, b0, b1, b2, b3, b4, g0, g1, g2, g3, g4, hoL, hcL, hkL, postV, hN, sT, sr]
           generalize hm3 : Mem.put (Mem.put (Mem.push m _) _ _) _ _ = m3
           have c0 : m3.at_ 0 = some ⟨[intV PL, intV PD, RT], 33, .var, true⟩ := by rw [← hm3]; simp [put_at, push_at, b0, g0]
           have c1 : m3.at_ 1 = some ⟨[intV W], 3, .var, true⟩ := by rw [← hm3]; simp [put_at, push_at, b1, g1]
           have c2 : m3.at_ 2 = some ⟨[RT], 31, .var, true⟩ := by rw [← hm3]; simp [put_at, push_at, b2, g2]
           have c3 : m3.at_ 3 = some ⟨[lv], 31, .var, true⟩ := by rw [← hm3]; simp [put_at, push_at, b3, g3]
           have c4 : m3.at_ 4 = some ⟨[intV 0], 28, .var, true⟩ := by rw [← hm3]; simp [put_at, push_at, intV]
           have cn : 4 < m3.next := by rw [← hm3]; simp only [put_next, push_next]; omega
           have co : Own m3 67 2 lv acc.length (refsA acc) := hown.out.keep (by rw [← hm3]; simp only [put_next, push_next]; omega) fun j kk hj hk => by
             have h4 := hblk.out j hj
             have hjl : j < m.next := by
               rcases hown.out.form with ⟨rfl, _⟩ | ⟨b, rfl, _, hb, _⟩
               · simp [blkOf, nilS] at hj
               · simp only [blkOf, Option.some.injEq] at hj; omega
             rw [← hm3, put_at, if_neg (by omega), put_at, if_neg (by omega), push_at, if_neg (by omega)]
             exact hk
           clear hm3 hown
           have hacc2 := hacc.out
           have hNb : N ≤ 1000000 := by omega
           refine app_keep (kd := .flat) (y := 16) (zl := [.int .i64 0, .int .i64 0]) (by kernel_rfl) co (by kernel_rfl) (by kernel_rfl) (by kernel_rfl) rfl (hsrc.out m3) (by rw [refsA_len]; have := hlL.out; omega) (by omega) (by omega) ?_
           intro lv' m4 ho' hn' hkp hbk
           have hnb : ∀ j, j ≤ 4 → blkOf lv ≠ some j := fun j h1 h2 => by have := hblk.out j h2; omega
           have d0 := hkp 0 _ c0 (by omega) (hnb 0 (by omega))
           have d1 := hkp 1 _ c1 (by omega) (hnb 1 (by omega))
           have d2 := hkp 2 _ c2 (by omega) (hnb 2 (by omega))
           have d3 := hkp 3 _ c3 (by omega) (hnb 3 (by omega))
           have d4 := hkp 4 _ c4 (by omega) (hnb 4 (by omega))
           have hbk' : ∀ j, blkOf lv' = some j → 4 < j := fun j hj => by
             rcases hbk j hj with h | h
             · omega
             · exact hblk.out j h
           have ocl : lv'.cells = [lv'] ∧ okA lv' = true := by
             rcases ho'.form with ⟨rfl, _⟩ | ⟨b, rfl, _⟩
             · exact ⟨rfl, rfl⟩
             · exact ⟨rfl, rfl⟩
           obtain ⟨ok1, ok2⟩ := ocl
           replace hkp := Hid.mk hkp
           replace hbk := Hid.mk hbk
           replace hbk' := Hid.mk hbk'
           replace hnb := Hid.mk hnb
           replace ho' := Hid.mk ho'
           replace hacc2 := Hid.mk hacc2
           simp only [↓pre, simprocAttr, parV, sx, tys59, cellsR, onceOb, bne, postU, storeE, allocE, put_at, push_at, put_next, push_next, me0, Nat.one_ne_zero, Nat.zero_ne_one, Nat.reduceEqDiff, hf, ho, e2, e4, e5, e6, e7, e8, e10, e11, e74, e75, e76, d3, ok1, ok2, lT, wl, wi, sr]
           refine ⟨q - 1, by have := hq.out; omega, i + 1, left - N, acc ++ LR, lv', by have := hq.out; omega, ⟨e4, e5, e6, e7, e8⟩, rfl, rfl, ⟨⟨by omega, by omega⟩, ⟨?_, ?_, ?_, ?_, ?_⟩, by omega, ?_, hbk'.out, hLE.out, by rw [List.append_assoc]; exact hLR.out, by rw [List.length_append]; have := hlL.out; have := hacc2.out; omega⟩⟩
           · rw [put_at, if_neg (by decide)]; exact d0
           · rw [put_at, if_neg (by decide)]; exact d1
           · rw [put_at, if_neg (by decide)]; exact d2
           · rw [put_at, if_pos rfl]
           · rw [put_at, if_neg (by decide)]; exact d4
           · rw [refsA_append, List.length_append, hlL.out]
             exact ho'.out.keep (by rw [put_next]; exact Nat.le_refl _) fun j kk hj hk => by
               have := hbk'.out j hj
               rw [put_at, if_neg (by omega)]
               exact hk
         · rw [if_neg hE0] at hLE hlf2
           have hres := hRES.out
           rw [← hLE, if_neg hE0] at hres
           generalize leafE k r c w L x (min left LI) = E at *
           replace hres := Hid.mk hres
           replace hLE := Hid.mk hLE
           replace hown := Hid.mk hown
           replace hok := Hid.mk hok
           unfold nilS at hlf2
           simp only [↓pre, simprocAttr, parV, sx, tys59, cellsR, onceOb, bne, postU, storeE, allocE, put_at, push_at, put_next, push_next, me0, Nat.one_ne_zero, Nat.zero_ne_one, Nat.reduceEqDiff, hf, ho, e2, e4, e5, e6, e7, e8, e10, e11, e74, e75, e76, b0, b1, b2, b3, b4, g0, g1, g2, g3, g4, hoL, hcL, hkL, hlt', hlt, haddRT, ht, htl, sr]
           refine call_plain (hlf2) (by simp only [parV, plQ, *]) ?_; simp only [↓pre, simprocAttr, parV, sx, tys59, cellsR, onceOb, bne, postU, storeE, allocE, put_at, push_at, put_next, push_next, me0, Nat.one_ne_zero, Nat.zero_ne_one, Nat.reduceEqDiff, hf, ho, e2, e4, e5, e6, e7, e8, e10, e11, e74, e75, e76, b0, b1, b2, b3, b4, g0, g1, g2, g3, g4, hoL, hcL, hkL, hE0, sr]
           rw [← hres.out]
           refine obj_endE (d0 := intV PL) (d1 := intV PD) (d2 := RT) (ve := intV W) (lv := RT) (sv := lv) hE0 ⟨?_, ?_, ?_, ?_, ?_⟩ ⟨e4, e5, e6, e7, e8⟩
           all_goals simp [put_at, push_at, b0, b1, b2, b3, b4, g0, g1, g2, g3, g4, intV]
       · have hlt' : ¬ ((i : Nat) : Int) < ((PR.length : Nat) : Int) := by omega
         rw [List.drop_of_length_le (by omega)] at hLE hLR
         simp only [leavesE, leavesR, List.append_nil] at hLE hLR
         have hres := hRES.out
         rw [← hLE, if_pos rfl] at hres
         replace hres := Hid.mk hres
         replace hLE := Hid.mk hLE
         replace hLR := Hid.mk hLR
         replace hown := Hid.mk hown
         simp only [↓pre, simprocAttr, parV, sx, tys59, cellsR, onceOb, bne, postU, storeE, allocE, put_at, push_at, put_next, push_next, me0, Nat.one_ne_zero, Nat.zero_ne_one, Nat.reduceEqDiff, hf, ho, e2, e4, e5, e6, e7, e8, e10, e11, e74, e75, e76, b0, b1, b2, b3, b4, g0, g1, g2, g3, g4, hoL, hcL, hkL, hlt', sr]
         rw [← hres.out, ← hLR.out]
         exact obj_endO hRr ⟨b0, b1, b2, b3, b4⟩ (fzT_rd hRr) (own_fzT hown.out 1) ⟨e4, e5, e6, e7, e8⟩
   · rw [if_neg hC] at hcr
     rw [if_neg hC, if_neg hC]
     unfold desc0 nilS at hcr
     simp only [intV] at hcr hrw
     replace hrv := Hid.mk hrv
     replace hmn := Hid.mk hmn
     replace hR := Hid.mk hR
     generalize comE k r c w ps = E at *
     simp only [↓pre, simprocAttr, parV, sx, tys59, cellsR, onceOb, bne, postU, storeE, allocE, put_at, push_at, put_next, push_next, me0, Nat.one_ne_zero, Nat.zero_ne_one, Nat.reduceEqDiff, hf, ho, sr]
     refine call_plain (hck) (by simp only [parV, plQ, *]) ?_; simp only [↓pre, simprocAttr, parV, sx, tys59, cellsR, onceOb, bne, postU, storeE, allocE, put_at, push_at, put_next, push_next, me0, Nat.one_ne_zero, Nat.zero_ne_one, Nat.reduceEqDiff, hf, ho, h1, h2, hoR, hsr, hC, sr]; refine call_plain (hrw) (by simp only [parV, plQ, *]) ?_; simp only [↓pre, simprocAttr, parV, sx, tys59, cellsR, onceOb, bne, postU, storeE, allocE, put_at, push_at, put_next, push_next, me0, Nat.one_ne_zero, Nat.zero_ne_one, Nat.reduceEqDiff, hf, ho, h1, h2, hoR, hsr, hC, sr]; refine call_plain (hcr) (by simp only [parV, plQ, *]) ?_; simp only [↓pre, simprocAttr, parV, sx, tys59, cellsR, onceOb, bne, postU, storeE, allocE, put_at, push_at, put_next, push_next, me0, Nat.one_ne_zero, Nat.zero_ne_one, Nat.reduceEqDiff, hf, ho, h1, h2, hoR, hsr, hC, sr]
     exact obj_endE hC ⟨rfl, rfl, rfl, rfl, rfl⟩ ⟨rfl, rfl, rfl, rfl, rfl⟩
 · have hRE : rowE k r c w L row = if imE k r c w L = 0 then (if row < 0 ∨ w ≤ row then 2 else 0) else imE k r c w L := rfl
   rw [if_neg hR, if_neg hR]
   refine ospec_of_defer follows Tryz.func59 (by unfold Tryz.f59; rfl) (by unfold Tryz.f59; simp) onceOb (by unfold Tryz.f59; simp) (by kernel_rfl) (by kernel_rfl) (by unfold Tryz.f59; decide) (by kernel_rfl) ?_
   unfold deferW Tryz.f59
   by_cases hE : imE k r c w L = 0
   · rw [if_pos hE] at hRE
     rw [hE] at hck
     have hrow : row < 0 ∨ w ≤ row := by
       by_cases h : row < 0 ∨ w ≤ row
       · exact h
       · rw [if_neg h] at hRE; exact absurd hRE hR
     rw [if_pos hrow] at hRE
     rw [hRE] at *
     by_cases h1 : row < 0
     · simp only [↓pre, simprocAttr, parV, sx, tys59, cellsR, onceOb, bne, postU, storeE, allocE, put_at, push_at, put_next, push_next, me0, Nat.one_ne_zero, Nat.zero_ne_one, Nat.reduceEqDiff, hf, ho, sr]
       refine call_plain (hck) (by simp only [parV, plQ, *]) ?_; simp only [↓pre, simprocAttr, parV, sx, tys59, cellsR, onceOb, bne, postU, storeE, allocE, put_at, push_at, put_next, push_next, me0, Nat.one_ne_zero, Nat.zero_ne_one, Nat.reduceEqDiff, hf, ho, h1, sr]
       exact obj_endE (E := 2) (by decide) ⟨rfl, rfl, rfl, rfl, rfl⟩ ⟨rfl, rfl, rfl, rfl, rfl⟩
     · have h2 : w ≤ row := by omega
       simp only [↓pre, simprocAttr, parV, sx, tys59, cellsR, onceOb, bne, postU, storeE, allocE, put_at, push_at, put_next, push_next, me0, Nat.one_ne_zero, Nat.zero_ne_one, Nat.reduceEqDiff, hf, ho, sr]
       refine call_plain (hck) (by simp only [parV, plQ, *]) ?_; simp only [↓pre, simprocAttr, parV, sx, tys59, cellsR, onceOb, bne, postU, storeE, allocE, put_at, push_at, put_next, push_next, me0, Nat.one_ne_zero, Nat.zero_ne_one, Nat.reduceEqDiff, hf, ho, h1, h2, sr]
       exact obj_endE (E := 2) (by decide) ⟨rfl, rfl, rfl, rfl, rfl⟩ ⟨rfl, rfl, rfl, rfl, rfl⟩
   · rw [if_neg hE] at hRE
     rw [hRE]
     simp only [↓pre, simprocAttr, parV, sx, tys59, cellsR, onceOb, bne, postU, storeE, allocE, put_at, push_at, put_next, push_next, me0, Nat.one_ne_zero, Nat.zero_ne_one, Nat.reduceEqDiff, hf, ho, sr]
     refine call_plain (hck) (by simp only [parV, plQ, *]) ?_; simp only [↓pre, simprocAttr, parV, sx, tys59, cellsR, onceOb, bne, postU, storeE, allocE, put_at, push_at, put_next, push_next, me0, Nat.one_ne_zero, Nat.zero_ne_one, Nat.reduceEqDiff, hf, ho, hE, sr]
     exact obj_endE hE ⟨rfl, rfl, rfl, rfl, rfl⟩ ⟨rfl, rfl, rfl, rfl, rfl⟩
def lostB (k r c w : Int) (L : List (List UInt8)) (x : RefI) : Bool := decide (manyN k r c w (rowL k r w L x.1) 1 x.2 < k.toNat)
def meetB (W fr to i : Nat) : Bool := decide (max fr (i * W) < min to ((i + 1) * W))
def cutE (k r c w : Int) (L : List (List UInt8)) (l : List RefI) (fr to : Nat) : Int := if (List.range l.length).any (fun i => meetB (wI k c).toNat fr to i && lostB k r c w L (l.getD i (0, 0))) = true then 5 else 0
theorem refsOk_at {w : Int} {l : List RefI} (h : refsOk w l = true) : ∀ x ∈ l, refB w x = true := fun x hx => List.all_eq_true.1 h x hx
theorem leaves_refs {k r c w : Int} {L : List (List UInt8)} (hk : lI k c ≤ 128) : ∀ (l : List RefI) (n : Int), leavesE k r c w L l n = 0 → (∀ x ∈ leavesR k r c w L l n, refB w x = true) ∧ (leavesR k r c w L l n).length ≤ l.length * 128
 | [], n, _ => ⟨fun x hx => by simp [leavesR] at hx, by simp [leavesR]⟩
 | y :: l, n, h => by
   unfold leavesE at h
   split at h
   · rename_i h1
     obtain ⟨h2, h3⟩ := leaves_refs hk l _ h
     obtain ⟨hn1, hn2⟩ := leaf_ok h1
     unfold leavesR
     refine ⟨fun x hx => ?_, ?_⟩
     · rcases List.mem_append.1 hx with hx | hx
       · unfold leafE at h1
         split at h1
         · omega
         · unfold refsE at h1
           split at h1
           · omega
           · split at h1
             · rename_i h4
               exact refsOk_at h4.1 x hx
             · omega
       · exact h2 x hx
     · rw [List.length_append, leafR_len, List.length_cons]
       omega
   · contradiction
theorem obj_refs {k r c w : Int} {L : List (List UInt8)} {row : Int} (h : objE k r c w L row = 0) : imE k r c w L = 0 ∧ rowE k r c w L row = 0 ∧ comE k r c w (rowL k r w L row) = 0 ∧ (∀ x ∈ objS k r c w L row, refB w x = true) ∧ (objS k r c w L row).length ≤ 20000 ∧ 0 ≤ pLen (objD k r c w L row) ∧ pLen (objD k r c w L row) ≤ 32768 := by
 unfold objE at h
 split at h
 · rename_i hR
   split at h
   · rename_i hC
     have hD := com_desc hC
     obtain ⟨hl0, hl1, hdep, hll, hlr⟩ := desc_bounds hD
     obtain ⟨hrb, hm⟩ := row_rowB hR
     have hw := may_w hm
     have hdb := d_bounds hw.1 hw.2
     have hlb := l_bounds hw.1 hw.2
     have hE : imE k r c w L = 0 := by
       unfold rowE at hR
       split at hR
       · assumption
       · assumption
     refine ⟨hE, hR, hC, ?_⟩
     have hPR : (pRefs (objD k r c w L row)).length ≤ 126 := by unfold dI at hll; unfold objD; omega
     have hre : ∀ x ∈ pRefs (objD k r c w L row), refB w x = true := fun x hx => by
       have := hlr x hx
       unfold refB
       exact decide_eq_true this
     unfold objS
     split at h
     · rename_i hd
       rw [if_pos hd]
       exact ⟨hre, by omega, hl0, hl1⟩
     · rename_i hd
       rw [if_neg hd]
       obtain ⟨h1, h2⟩ := leaves_refs (by unfold lI; omega) _ _ h
       exact ⟨h1, by omega, hl0, hl1⟩
   · contradiction
 · contradiction
theorem appz2 {P : Program} {m : Mem} {t t2 ty : TypeId} {s x : AV} (h2 : notInt P t2 = false) (h3 : isInt P t2 = true) : builtinE P m #[t, t2] ty [s, x] .append = (elE P t).bind fun el => (natOf x).bind fun n => appZ P el m s n := by simp [builtinE, h2, h3]
theorem cap1 {P : Program} {m : Mem} {t ty : TypeId} {x : AV} : builtinE P m #[t] ty [x] .cap = (elE P t).bind fun _ => outO (capE x) m := rfl
def zeroR (n : Nat) : List AV := zcells [.int .i64 0, .int .i64 0] (n * 2)
theorem zeroR_len (n : Nat) : (zeroR n).length = n * 2 := by simp [zeroR, zcells]
def growM (m : Mem) (n : Nat) : Mem := if n = 0 then m else m.push ⟨zeroR n, 67, .flat, true⟩
def growA (m : Mem) (n : Nat) : AV := if n = 0 then nilS else .sl m.next 0 0 n false
theorem grow_refs (m : Mem) (n : Nat) (hn : n ≤ 100000) : OSpec Tryz.prog 220 [nilS, intV (n : Nat)] m fun r m' => r = growA m n ∧ m' = growM m n := by
 have g0 : ¬ ((n : Nat) : Int) < 0 := by omega
 have w1 : IntKind.i64.wrap ((n : Nat) : Int) = ((n : Nat) : Int) := wrap_nat (by omega)
 have hcap : capE nilS = some (.val (.int .i64 0)) := rfl
 have hlen : lenE Tryz.prog 31 nilS = some (.val (.int .i64 0)) := by kernel_rfl
 have hsl : sliceE Tryz.prog 31 none (some 0) none nilS = some nilS := by kernel_rfl
 have hso : slOk Tryz.prog m 31 nilS = true := rfl
 have hno : notInt Tryz.prog 3 = false := by kernel_rfl
 have hin : isInt Tryz.prog 3 = true := by kernel_rfl
 have n0 : natOf (.val (.int .i64 0)) = some 0 := rfl
 have w0 : IntKind.i64.wrap 0 = 0 := by decide
 have w2 : IntKind.i64.wrap (((n : Nat) : Int) - 0) = ((n : Nat) : Int) := by rw [Int.sub_zero]; exact w1
 unfold nilS at hcap hlen hsl hso
 by_cases h0 : n = 0
 · subst h0
   refine ospec_of_body follows Tryz.func220 (by unfold Tryz.f220; rfl) (by unfold Tryz.f220; simp) onceA (by unfold Tryz.f220; simp) (by kernel_rfl) ?_; unfold Tryz.f220
   simp only [↓pre, simprocAttr, parV, sx, tys220, onceA, postU, postV, cap1, hcap, hlen, hsl, hso, w0, w1, w2, g0, optNat, Option.map_some, Option.map_none, n0, nilS, Int.natCast_zero, Int.cast_ofNat_Int, sr]
   exact ⟨rfl, rfl⟩
 · have h0' : (0 : Int) < ((n : Nat) : Int) := by omega
   have haz : appZ Tryz.prog 67 m (.val (.slice none 0 0)) n = some ⟨.sl m.next 0 n n false, m.push ⟨zeroR n, 67, .flat, true⟩, none⟩ := by
     have h1 : szE Tryz.prog 67 = some 2 := by kernel_rfl
     have h2 : byE Tryz.prog 67 = some 16 := by kernel_rfl
     have h3 : zeroE Tryz.prog 67 = some [.int .i64 0, .int .i64 0] := by kernel_rfl
     have h4 : kindT Tryz.prog 67 = .flat := by kernel_rfl
     simp only [appZ, h1, h2, h3, h4, slView, Option.bind_some]
     rw [if_pos ⟨by omega, by omega, rfl, h0, .inl trivial, by simp⟩]
     simp [outV, zeroR]
   have hsl2 : sliceE Tryz.prog 31 none (some 0) none (.sl m.next 0 n n false) = some (.sl m.next 0 0 n false) := by
     have h3 : elE Tryz.prog 31 = some 67 := by kernel_rfl
     have h4 : szE Tryz.prog 67 = some 2 := by kernel_rfl
     simp [sliceE, h3, h4, Tw.cutE]
   have hso2 : slOk Tryz.prog (m.push ⟨zeroR n, 67, .flat, true⟩) 31 (.sl m.next 0 n n false) = true := by
     have : elE Tryz.prog 31 = some 67 := by kernel_rfl
     simp [slOk, push_at, this]
   have nn : natOf (.val (.int .i64 ((n : Nat) : Int))) = some n := nat_of
   have haz2 := appz2 (P := Tryz.prog) (m := m) (t := 31) (t2 := 3) (ty := 31) (s := .val (.slice none 0 0)) (x := .val (.int .i64 ((n : Nat) : Int))) hno hin
   refine ospec_of_body follows Tryz.func220 (by unfold Tryz.f220; rfl) (by unfold Tryz.f220; simp) onceA (by unfold Tryz.f220; simp) (by kernel_rfl) ?_; unfold Tryz.f220
   simp only [↓pre, simprocAttr, parV, sx, tys220, onceA, postU, postV, cap1, hcap, hlen, hsl, hso, w0, w1, w2, g0, optNat, Option.map_some, Option.map_none, n0, nilS, h0', haz2, nn, haz, hsl2, hso2, sr]
   exact ⟨by unfold growA; rw [if_neg h0], by unfold growM; rw [if_neg h0]⟩
structure Room (m : Mem) (v : AV) (N : Nat) (pre : List RefI) : Prop where
 ex : ∃ j rest, v = .sl j 0 pre.length N false ∧ m.at_ j = some ⟨refsA pre ++ rest, 67, .flat, true⟩ ∧ j < m.next ∧ (refsA pre ++ rest).length = N * 2
theorem app_room {m : Mem} {v x : AV} {N : Nat} {pre l : List RefI} {K : Out → Prop} (h : Room m v N pre) (hN : N ≤ 100000) (hfit : pre.length + l.length ≤ N) (hsrc : srcE Tryz.prog 67 2 m x = some (refsA l, l.length)) (hK : ∀ v' m', Room m' v' N (pre ++ l) → K ⟨v', m', none⟩) : outW (appE Tryz.prog 67 m v x) K := by
 obtain ⟨j, rest, rfl, hb, hj, hlen⟩ := h.ex
 have h1 : szE Tryz.prog 67 = some 2 := by kernel_rfl
 have h2 : byE Tryz.prog 67 = some 16 := by kernel_rfl
 have h3 : zeroE Tryz.prog 67 = some [.int .i64 0, .int .i64 0] := by kernel_rfl
 have h4 : kindT Tryz.prog 67 = .flat := by kernel_rfl
 have hpl := refsA_len pre
 have hll := refsA_len l
 by_cases hf : pre.length * 2 = (refsA pre ++ rest).length
 · have hl0 : l = [] := List.eq_nil_of_length_eq_zero (by omega)
   subst hl0
   have : appE Tryz.prog 67 m (.sl j 0 pre.length N false) x = some ⟨.sl m.next 0 pre.length pre.length false, (m.put j none).push ⟨refsA pre ++ rest, 67, .flat, true⟩, none⟩ := by
     simp only [appE, h1, h2, h3, h4, hsrc, slView, hb, Option.bind_some, if_true]
     rw [if_pos ⟨by simp; omega, by simp; omega, rfl⟩]
     have ht : Go.Tw.tight (.sl j 0 pre.length N false) ([] : List RefI).length = false := rfl
     simp only [Bool.false_and, Bool.false_eq_true, if_false, ht, hb, Option.bind_some, List.drop_zero, Nat.zero_add]
     rw [if_pos ⟨trivial, trivial, hf⟩]
     simp [outV, refsA]
   rw [this]
   have hn : N = pre.length := by omega
   refine hK _ _ ⟨m.next, rest, by rw [List.append_nil, hn], by rw [push_at, if_pos (by rw [put_next]), List.append_nil], by rw [push_next, put_next]; omega, by rw [List.append_nil]; exact hlen⟩
 · have : appE Tryz.prog 67 m (.sl j 0 pre.length N false) x = some ⟨.sl j 0 (pre.length + l.length) N false, m.put j (some ⟨splice (refsA pre ++ rest) (pre.length * 2) (refsA l), 67, .flat, true⟩), none⟩ := by
     simp only [appE, h1, h2, h3, h4, hsrc, slView, hb, Option.bind_some, if_true]
     rw [if_pos ⟨by omega, by omega, rfl⟩]
     have hf' : ¬ (pre.length * 2 = (refsA pre).length + rest.length) := by rw [List.length_append] at hf; exact hf
     rw [List.length_append] at hlen
     have hc : (pre.length + l.length) * 2 ≤ (refsA pre).length + rest.length := by omega
     have ht : Go.Tw.tight (.sl j 0 pre.length N false) l.length = false := rfl
     simp only [Bool.false_and, Bool.false_eq_true, if_false, ht, hb, Option.bind_some, List.drop_zero, Nat.zero_add, List.length_append]
     rw [if_neg (fun h => hf' h.2.2), if_pos ⟨trivial, trivial, hfit, hc⟩]
     rfl
   rw [this]
   have hsp : splice (refsA pre ++ rest) (pre.length * 2) (refsA l) = refsA (pre ++ l) ++ rest.drop (l.length * 2) := by
     unfold splice
     rw [refsA_append, ← hpl, List.take_left]
     congr 1
     rw [List.drop_append, List.drop_eq_nil_of_le (by omega), List.nil_append]
     congr 1
     omega
   rw [hsp]
   refine hK _ _ ⟨j, rest.drop (l.length * 2), by rw [List.length_append], by rw [put_at, if_pos rfl], by rw [put_next]; exact hj, ?_⟩
   rw [← hsp, splice_length _ _ _ (by omega)]
   exact hlen
theorem room_fz {m : Mem} {v : AV} {N : Nat} {pre : List RefI} (h : Room m v N pre) (hN : pre.length = N) (h0 : N ≠ 0) (k : Nat) : fzT k m v = some (treeR N (refsA pre)) := by
 obtain ⟨j, rest, rfl, hb, hj, hlen⟩ := h.ex
 have hpl := refsA_len pre
 have hr : rest = [] := List.eq_nil_of_length_eq_zero (by rw [List.length_append] at hlen; omega)
 subst hr
 rw [fzT_flat hb, List.drop_zero, List.append_nil]
 unfold treeR
 rw [if_neg h0, hN]
theorem app_nil0 {m : Mem} {x : AV} (hsrc : srcE Tryz.prog 67 2 m x = some ([], 0)) : appE Tryz.prog 67 m (.val (.slice none 0 0)) x = some ⟨.val (.slice none 0 0), m, none⟩ := by
 have h1 : szE Tryz.prog 67 = some 2 := by kernel_rfl
 have h2 : byE Tryz.prog 67 = some 16 := by kernel_rfl
 have h3 : zeroE Tryz.prog 67 = some [.int .i64 0, .int .i64 0] := by kernel_rfl
 simp [appE, h1, h2, h3, hsrc, slView, outV]
def conL (a b : List RefI) (i : Nat) : List RefI := if i = 0 then [] else if i = 1 then a else a ++ b
theorem concat_refs (LV SV : AV) (a b : List RefI) (ha : RdSl LV a.length (refsA a)) (hb : RdSl SV b.length (refsA b)) (hl : a.length + b.length ≤ 50000) : FSpec Tryz.prog 139 [.tree 2 2 [LV, SV] true] ⟨treeR (a ++ b).length (refsA (a ++ b)), []⟩ := by
 refine fspec_fzT ?_
 obtain ⟨N, hN⟩ : ∃ N, a.length + b.length = N := ⟨_, rfl⟩
 have hgr := fun m => grow_refs m N (by omega)
 have oA := rd_one ha
 have oB := rd_one hb
 have lA := fun t ht => ha.len' (P := Tryz.prog) (t := t) ht
 have lB := fun t ht => hb.len' (P := Tryz.prog) (t := t) ht
 have sA := fun m => ha.src (P := Tryz.prog) (m := m) (el := 67) (sz := 2) (by rw [refsA_len]; omega)
 have sB := fun m => hb.src (P := Tryz.prog) (m := m) (el := 67) (sz := 2) (by rw [refsA_len]; omega)
 rw [show (refsA a).take (a.length * 2) = refsA a from List.take_of_length_le (by rw [refsA_len]; omega)] at sA
 rw [show (refsA b).take (b.length * 2) = refsA b from List.take_of_length_le (by rw [refsA_len]; omega)] at sB
 have w1 : IntKind.i64.wrap (0 + ((a.length : Nat) : Int)) = ((a.length : Nat) : Int) := by rw [Int.zero_add]; exact wrap_nat (by omega)
 have w2 : IntKind.i64.wrap (((a.length : Nat) : Int) + ((b.length : Nat) : Int)) = ((N : Nat) : Int) := by rw [show ((a.length : Nat) : Int) + ((b.length : Nat) : Int) = ((N : Nat) : Int) by omega]; exact wrap_nat (by omega)
 have g1 : ¬ ((a.length : Nat) : Int) < 0 := by omega
 have g2 : ¬ ((N : Nat) : Int) < 0 := by omega
 have wi0 : IntKind.i64.wrap (0 + 1) = 1 := by decide
 have wi1 : IntKind.i64.wrap (1 + 1) = 2 := by decide
 have n0 : natOf (.val (.int .i64 0)) = some 0 := rfl
 have n1 : natOf (.val (.int .i64 1)) = some 1 := rfl
 have hlen2 : lenE Tryz.prog 243 (.tree 2 2 [LV, SV] true) = some (.val (.int .i64 2)) := by
   have : elE Tryz.prog 243 = some 31 := by kernel_rfl
   simp [lenE, this, slLen, intV]
 have hadd : ∀ k, k < 2 → addrE Tryz.prog 243 k (.tree 2 2 [LV, SV] true) = some (.tptr k [LV, SV]) := fun k hk => by
   have h1 : elE Tryz.prog 243 = some 31 := by kernel_rfl
   have h2 : szE Tryz.prog 31 = some 1 := by kernel_rfl
   simp [addrE, h1, h2, hk]
 have hadd0 := hadd 0 (by decide)
 have hadd1 := hadd 1 (by decide)
 clear hadd
 replace sA := Hid.mk sA
 replace sB := Hid.mk sB
 refine ospec_of_body follows Tryz.func139 (by unfold Tryz.f139; rfl) (by unfold Tryz.f139; simp) onceA (by unfold Tryz.f139; simp) (by kernel_rfl) ?_; unfold Tryz.f139
 simp only [↓pre, simprocAttr, parV, sx, tys139, onceA, postU, postV, hlen2, hadd0, hadd1, oA, oB, lA, lB, w1, w2, g1, g2, wi0, wi1, n0, n1, sr]
 rw [codeW_loop]
 refine loop_intro (fun q e m => ∃ i s : Nat, q + i = 2 ∧ e 0 = .tree 2 2 [LV, SV] true ∧ e 9 = .tree 2 2 [LV, SV] true ∧ e 10 = intV 2 ∧ e 11 = intV (i : Nat) ∧ e 3 = intV (s : Nat) ∧ m = Mem.empty ∧ s = (conL a b i).length) 2 ⟨0, 0, by omega, rfl, rfl, rfl, rfl, rfl, rfl, rfl⟩ ?_
 rintro q e m ⟨i, s, hq, e0, e9, e10, e11, e3, hm, hs⟩
 replace hq := Hid.mk hq
 obtain rfl | rfl | rfl : i = 0 ∨ i = 1 ∨ i = 2 := by have := hq.out; omega
 · replace hs : s = 0 := hs
   subst hs
   simp only [↓pre, simprocAttr, parV, sx, tys139, onceA, postU, postV, hlen2, hadd0, hadd1, oA, oB, lA, lB, w1, w2, g1, g2, wi0, wi1, n0, n1, e0, e9, e10, e11, e3, Int.natCast_zero, Int.cast_ofNat_Int, sr]
   exact ⟨q - 1, by have := hq.out; omega, 1, a.length, by have := hq.out; omega, rfl, rfl, hm, rfl⟩
 · replace hs : s = a.length := hs
   subst hs
   simp only [↓pre, simprocAttr, parV, sx, tys139, onceA, postU, postV, hlen2, hadd0, hadd1, oA, oB, lA, lB, w1, w2, g1, g2, wi0, wi1, n0, n1, e0, e9, e10, e11, e3, Int.natCast_one, Int.cast_ofNat_Int, sr]
   exact ⟨q - 1, by have := hq.out; omega, 2, N, by have := hq.out; omega, rfl, rfl, hm, by rw [← hN]; exact (List.length_append ..).symm⟩
 · have hs2 : s = N := by rw [hs, ← hN]; exact List.length_append ..
   subst hs2
   subst hm
   replace hs := Hid.mk hs
   simp only [↓pre, simprocAttr, parV, sx, tys139, onceA, postU, postV, hlen2, hadd0, hadd1, oA, oB, lA, lB, w1, w2, g1, g2, wi0, wi1, n0, n1, e0, e9, e10, e11, e3, Int.cast_ofNat_Int, show (((2 : Nat) : Int)) = 2 from rfl, sr]
   refine call_det (hgr _) ?_
   simp only [↓pre, simprocAttr, parV, sx, tys139, onceA, postU, postV, hlen2, hadd0, hadd1, oA, oB, lA, lB, w1, w2, g1, g2, wi0, wi1, n0, n1, e0, e9, e10, e11, e3, sr]
   by_cases h0 : s = 0
   · have ha0 : a = [] := List.eq_nil_of_length_eq_zero (by omega)
     have hb0 : b = [] := List.eq_nil_of_length_eq_zero (by omega)
     have ap0 := fun m => app_nil0 (m := m) (x := LV) (by have := sA.out m; rw [ha0] at this; exact this)
     have ap1 := fun m => app_nil0 (m := m) (x := SV) (by have := sB.out m; rw [hb0] at this; exact this)
     simp only [growA, growM, if_pos h0]
     rw [codeW_loop]
     refine loop_intro (fun q e m => ∃ i : Nat, q + i = 2 ∧ e 6 = .val (.slice none 0 0) ∧ e 25 = .tree 2 2 [LV, SV] true ∧ e 26 = intV 2 ∧ e 27 = intV (i : Nat)) 2 ⟨0, by omega, rfl, rfl, rfl, rfl⟩ ?_
     rintro q e m ⟨i, hq, e6, e25, e26, e27⟩
     replace hq := Hid.mk hq
     obtain rfl | rfl | rfl : i = 0 ∨ i = 1 ∨ i = 2 := by have := hq.out; omega
     · simp only [↓pre, simprocAttr, parV, sx, tys139, onceA, postU, postV, hlen2, hadd0, hadd1, oA, oB, lA, lB, w1, w2, g1, g2, wi0, wi1, n0, n1, e6, e25, e26, e27, Int.natCast_zero, Int.cast_ofNat_Int, ap0, sr]
       exact ⟨q - 1, by have := hq.out; omega, 1, by have := hq.out; omega, rfl⟩
     · simp only [↓pre, simprocAttr, parV, sx, tys139, onceA, postU, postV, hlen2, hadd0, hadd1, oA, oB, lA, lB, w1, w2, g1, g2, wi0, wi1, n0, n1, e6, e25, e26, e27, Int.natCast_one, Int.cast_ofNat_Int, ap1, sr]
       exact ⟨q - 1, by have := hq.out; omega, 2, by have := hq.out; omega, rfl⟩
     · have e : treeR (a ++ b).length (refsA (a ++ b)) = nilS := by rw [ha0, hb0]; rfl
       rw [e]
       simp only [↓pre, simprocAttr, parV, sx, tys139, onceA, postU, postV, hlen2, hadd0, hadd1, oA, oB, lA, lB, w1, w2, g1, g2, wi0, wi1, n0, n1, e6, e25, e26, e27, Int.cast_ofNat_Int, show (((2 : Nat) : Int)) = 2 from rfl, sr]
       exact ⟨0, fzT_val⟩
   · have hroom : ∀ m : Mem, Room (growM m s) (growA m s) s [] := fun m => by
       unfold growM growA
       rw [if_neg h0, if_neg h0]
       exact ⟨m.next, zeroR s, rfl, by rw [push_at, if_pos rfl]; rfl, by rw [push_next]; omega, zeroR_len s⟩
     rw [codeW_loop]
     refine loop_intro (fun q e m => ∃ i : Nat, q + i = 2 ∧ e 25 = .tree 2 2 [LV, SV] true ∧ e 26 = intV 2 ∧ e 27 = intV (i : Nat) ∧ Hid (Room m (e 6) s (conL a b i))) 2 ⟨0, by omega, rfl, rfl, rfl, ⟨hroom _⟩⟩ ?_
     rintro q e m ⟨i, hq, e25, e26, e27, hJ⟩
     replace hq := Hid.mk hq
     generalize hv6 : e 6 = v6 at *
     obtain rfl | rfl | rfl : i = 0 ∨ i = 1 ∨ i = 2 := by have := hq.out; omega
     · simp only [↓pre, simprocAttr, parV, sx, tys139, onceA, postU, postV, hlen2, hadd0, hadd1, oA, oB, lA, lB, w1, w2, g1, g2, wi0, wi1, n0, n1, hv6, e25, e26, e27, Int.natCast_zero, Int.cast_ofNat_Int, sr]
       refine app_room (l := a) hJ.out (by omega) (by simp only [conL]; simp; omega) (sA.out m) ?_
       intro v' m' hr
       simp only [↓pre, simprocAttr, parV, sx, tys139, onceA, postU, postV, hlen2, hadd0, hadd1, oA, oB, lA, lB, w1, w2, g1, g2, wi0, wi1, n0, n1, hv6, e25, e26, e27, sr]
       exact ⟨q - 1, by have := hq.out; omega, 1, by have := hq.out; omega, rfl, ⟨by simpa [conL] using hr⟩⟩
     · simp only [↓pre, simprocAttr, parV, sx, tys139, onceA, postU, postV, hlen2, hadd0, hadd1, oA, oB, lA, lB, w1, w2, g1, g2, wi0, wi1, n0, n1, hv6, e25, e26, e27, Int.natCast_one, Int.cast_ofNat_Int, sr]
       refine app_room (l := b) hJ.out (by omega) (by simp only [conL]; simp; omega) (sB.out m) ?_
       intro v' m' hr
       simp only [↓pre, simprocAttr, parV, sx, tys139, onceA, postU, postV, hlen2, hadd0, hadd1, oA, oB, lA, lB, w1, w2, g1, g2, wi0, wi1, n0, n1, hv6, e25, e26, e27, sr]
       exact ⟨q - 1, by have := hq.out; omega, 2, by have := hq.out; omega, rfl, ⟨by simpa [conL] using hr⟩⟩
     · have hr := hJ.out
       have e : (a ++ b).length = s := by rw [List.length_append]; omega
       rw [e]
       have hfin := room_fz hr e h0 0
       replace hfin := Hid.mk hfin
       simp only [↓pre, simprocAttr, parV, sx, tys139, onceA, postU, postV, hlen2, hadd0, hadd1, oA, oB, lA, lB, w1, w2, g1, g2, wi0, wi1, n0, n1, hv6, e25, e26, e27, Int.cast_ofNat_Int, show (((2 : Nat) : Int)) = 2 from rfl, sr]
       exact ⟨0, hfin.out⟩
abbrev LiveI := Int × Int × Int
def liveA (l : List LiveI) : List AV := l.flatMap fun x => [intV x.1, .val (.int .u8 x.2.1), intV x.2.2]
theorem liveA_len (l : List LiveI) : (liveA l).length = l.length * 3 := by
 induction l with
 | nil => rfl
 | cons a l ih => simp only [liveA, List.flatMap_cons, List.length_append, List.length_cons, List.length_nil] at ih ⊢; omega
theorem liveA_append (a b : List LiveI) : liveA (a ++ b) = liveA a ++ liveA b := by simp [liveA]
theorem liveA_at : ∀ (l : List LiveI) (i : Nat) (a : LiveI), l[i]? = some a → (liveA l)[i * 3]? = some (intV a.1) ∧ (liveA l)[i * 3 + 1]? = some (.val (.int .u8 a.2.1)) ∧ (liveA l)[i * 3 + 2]? = some (intV a.2.2)
 | [], i, a, h => by simp at h
 | b :: l, 0, a, h => by simp at h; subst h; exact ⟨rfl, rfl, rfl⟩
 | b :: l, i + 1, a, h => by
   have ih := liveA_at l i a (by simpa using h)
   have e : liveA (b :: l) = intV b.1 :: .val (.int .u8 b.2.1) :: intV b.2.2 :: liveA l := rfl
   rw [e, show (i + 1) * 3 = i * 3 + 1 + 1 + 1 by omega]
   simpa using ih
def liveT (l : List LiveI) : AV := .tree l.length l.length (liveA l) (decide (l.length = 1))
theorem liveT_rd (l : List LiveI) : RdSl (liveT l) l.length (liveA l) := ⟨.inr (.inr ⟨_, _, rfl, Nat.le_refl _⟩)⟩
def datL (l : List RefI) : List LiveI := l.map fun x => (x.1, 1, x.2)
theorem datL_len (l : List RefI) : (datL l).length = l.length := by simp [datL]
theorem datL_succ {l : List RefI} {i : Nat} {x : RefI} (h : l[i]? = some x) : datL (l.take (i + 1)) = datL (l.take i) ++ [(x.1, 1, x.2)] := by
 rw [List.take_add_one, h]
 simp [datL]
def strL (k r c w : Int) (L : List (List UInt8)) (row : Int) : List LiveI := (row, 2, winI k r c w (rowL k r w L row)) :: datL (objL k r c w L row ++ objS k r c w L row)
def strV17 (k r c w : Int) (L : List (List UInt8)) (row : Int) : AV := if objE k r c w L row = 0 then .tup [liveT (strL k r c w L row), intV 0] else .tup [nilS, intV (objE k r c w L row)]
theorem objL_len {k r c w : Int} {L : List (List UInt8)} {row : Int} (h : objE k r c w L row = 0) : (objL k r c w L row).length ≤ 126 := by
 obtain ⟨_, hR, hC, _⟩ := obj_refs h
 have hD := com_desc hC
 obtain ⟨_, _, _, hll, _⟩ := desc_bounds hD
 obtain ⟨_, hm⟩ := row_rowB hR
 have hw := may_w hm
 unfold objL
 split
 · simp
 · unfold dI at hll
   unfold objD
   omega
theorem tree_Stripes (k r c w row : Int) (v : AV) (L : List (List UInt8)) (cells : List AV) (hv : RowsV v L cells) : FSpec Tryz.prog 63 [imV k r c w v, intV row] ⟨strV17 k r c w L row, []⟩ := by
 refine fspec_fzT ?_
 have hp := hv.rd.plain
 have hf := rd_fz hv.rd
 have ho := rd_one hv.rd
 have hob := tree_Object k r c w row v L cells hv
 unfold strV17
 unfold objV at hob
 unfold imV at hob ⊢
 by_cases hE : objE k r c w L row = 0
 · rw [if_pos hE] at hob ⊢
   have hLl := objL_len hE
   obtain ⟨_, _, _, _, hSl, _, _⟩ := obj_refs hE
   have hRr := treeR_rd (pRefs (objD k r c w L row)).length (refsA (pRefs (objD k r c w L row)))
   have hLr := treeR_rd (objL k r c w L row).length (refsA (objL k r c w L row))
   have hSr := treeR_rd (objS k r c w L row).length (refsA (objS k r c w L row))
   have hcc := concat_refs _ _ _ _ hLr hSr (by omega)
   unfold descA refsT at hob
   unfold strL
   generalize hAl : objL k r c w L row ++ objS k r c w L row = al at *
   have hal : al.length ≤ 30000 := by rw [← hAl, List.length_append]; omega
   have hAr := treeR_rd al.length (refsA al)
   generalize treeR (pRefs (objD k r c w L row)).length (refsA (pRefs (objD k r c w L row))) = DV at *
   generalize treeR (objL k r c w L row).length (refsA (objL k r c w L row)) = LV at *
   generalize treeR (objS k r c w L row).length (refsA (objS k r c w L row)) = SV at *
   generalize treeR al.length (refsA al) = AL at *
   have f2 := rd_fz hRr
   have o2 := rd_one hRr
   have s2 := rd_shift hRr
   have s3 := rd_shift hLr
   have s4 := rd_shift hSr
   have s5 := rd_shift hAr
   have o3 := rd_okA hLr
   have o4 := rd_okA hSr
   have c3 := rd_cells hLr
   have c4 := rd_cells hSr
   have q3 := rd_one hLr
   have q4 := rd_one hSr
   have hbt : ∀ m, buildTreeE Tryz.prog m 243 2 [(0, LV), (1, SV)] = some ⟨.tree 2 2 [LV, SV] true, m, none⟩ := fun m => buildT_of (el := 31) (sz := 1) (z := [.val (.slice none 0 0), .val (.slice none 0 0)]) (by kernel_rfl) (by kernel_rfl) (by kernel_rfl) (by simp [fillE, o3, o4, c3, c4, splice]) (by simp [hasRefs, rd_ref hLr, rd_ref hSr]) (by decide)
   generalize pLen (objD k r c w L row) = PL at *
   generalize pDep (objD k r c w L row) = PD at *
   generalize winI k r c w (rowL k r w L row) = W at *
   have hbl : ∀ m (a kd b : Int), buildTreeE Tryz.prog m 96 1 [(0, .agg [.val (.int .i64 a), .val (.int .u8 kd), .val (.int .i64 b)])] = some ⟨.tree 1 1 [.val (.int .i64 a), .val (.int .u8 kd), .val (.int .i64 b)] true, m, none⟩ := fun m a kd b => buildT_of (el := 104) (sz := 3) (z := [.val (.int .i64 0), .val (.int .u8 0), .val (.int .i64 0)]) (by kernel_rfl) (by kernel_rfl) (by kernel_rfl) rfl rfl (by decide)
   have hsr : ∀ m (a kd b : Int), srcE Tryz.prog 104 3 m (.tree 1 1 [.val (.int .i64 a), .val (.int .u8 kd), .val (.int .i64 b)] true) = some ([.val (.int .i64 a), .val (.int .u8 kd), .val (.int .i64 b)], 1) := fun m a kd b => src_tree (by simp)
   have hats := fun (i : Nat) (x : RefI) (hi : al[i]? = some x) => refsA_at al [] i x hi
   rw [List.append_nil] at hats
   simp only [intV] at hob
   replace hE := Hid.mk hE
   replace hLl := Hid.mk hLl
   replace hSl := Hid.mk hSl
   replace hAl := Hid.mk hAl
   replace hRr := Hid.mk hRr
   replace hLr := Hid.mk hLr
   replace hSr := Hid.mk hSr
   replace hsr := Hid.mk hsr
   replace hats := Hid.mk hats
   refine ospec_of_body follows Tryz.func63 (by unfold Tryz.f63; rfl) (by unfold Tryz.f63; simp) onceA (by unfold Tryz.f63; simp) (by kernel_rfl) ?_; unfold Tryz.f63
   simp only [↓pre, simprocAttr, parV, sx, tys63, onceA, postU, postV, hf, ho, storeE, allocE, put_at, push_at, sr]
   refine call_plain (hob) (by simp only [parV, plQ, *]) ?_; simp only [↓pre, simprocAttr, parV, sx, tys63, onceA, postU, postV, hf, ho, storeE, allocE, put_at, push_at, f2, o2, s2, s3, s4, q3, q4, hbl, hbt, s5, hAr.len', sr]; refine call_plain (hcc) (by rfl) ?_; simp only [↓pre, simprocAttr, parV, sx, tys63, onceA, postU, postV, hf, ho, storeE, allocE, put_at, push_at, f2, o2, s2, s3, s4, q3, q4, hbl, hbt, s5, hAr.len', sr]
   rw [codeW_loop]
   refine loop_intro (fun q e m => ∃ i, q + i = al.length ∧ e 33 = AL ∧ e 34 = intV (al.length : Nat) ∧ e 35 = intV (i : Nat) ∧ Hid ((i = 0 ∧ e 11 = .tree 1 1 [.val (.int .i64 row), .val (.int .u8 2), .val (.int .i64 W)] true) ∨ (0 < i ∧ Own m 104 3 (e 11) (1 + i) (liveA ((row, 2, W) :: datL (al.take i)))))) al.length ⟨0, by omega, rfl, rfl, rfl, ⟨.inl ⟨rfl, rfl⟩⟩⟩ ?_
   rintro q e m ⟨i, hq, e33, e34, e35, hJ⟩
   replace hq := Hid.mk hq
   generalize hv11 : e 11 = v11 at *
   by_cases hlt : i < al.length
   · have hlt' : ((i : Nat) : Int) < ((al.length : Nat) : Int) := by omega
     have wi := wrap_succ (n := i) (by omega)
     obtain ⟨x, hx⟩ : ∃ x, al[i]? = some x := ⟨_, List.getElem?_eq_getElem hlt⟩
     obtain ⟨ha, hb⟩ := hats.out i x hx
     obtain ⟨ht, htl⟩ := take2 ha hb
     have hsuc := datL_succ hx
     have hcell : liveA ((row, 2, W) :: datL (al.take (i + 1))) = liveA ((row, 2, W) :: datL (al.take i)) ++ [.val (.int .i64 x.1), .val (.int .u8 1), .val (.int .i64 x.2)] := by
       rw [hsuc, ← List.cons_append, liveA_append]
       rfl
     replace hx := Hid.mk hx
     replace hsuc := Hid.mk hsuc
     replace hcell := Hid.mk hcell
     simp only [↓pre, simprocAttr, parV, sx, tys63, onceA, postU, postV, hf, ho, storeE, allocE, put_at, push_at, hv11, e33, e34, e35, hlt', hAr.addr', hlt, ht, htl, hbl, sr]
     have hstep : ∀ (m2 : Mem) (K : Out → Prop), m.next ≤ m2.next → (∀ j kk, m.at_ j = some kk → j < m.next → m2.at_ j = some kk) → (∀ lv' m', Own m' 104 3 lv' (1 + (i + 1)) (liveA ((row, 2, W) :: datL (al.take (i + 1)))) → K ⟨lv', m', none⟩) → outW (appE Tryz.prog 104 m2 v11 (.tree 1 1 [.val (.int .i64 x.1), .val (.int .u8 1), .val (.int .i64 x.2)] true)) K := by
       intro m2 K hn hk hK
       rcases hJ.out with ⟨hi0, rfl⟩ | ⟨hi0, hown⟩
       · subst hi0
         have h1 : szE Tryz.prog 104 = some 3 := by kernel_rfl
         have h2 : byE Tryz.prog 104 = some 24 := by kernel_rfl
         have h3 : zeroE Tryz.prog 104 = some [.int .i64 0, .int .u8 0, .int .i64 0] := by kernel_rfl
         have h4 : kindT Tryz.prog 104 = .flat := by kernel_rfl
         have : appE Tryz.prog 104 m2 (.tree 1 1 [.val (.int .i64 row), .val (.int .u8 2), .val (.int .i64 W)] true) (.tree 1 1 [.val (.int .i64 x.1), .val (.int .u8 1), .val (.int .i64 x.2)] true) = some ⟨.sl m2.next 0 2 2 false, m2.push ⟨[.val (.int .i64 row), .val (.int .u8 2), .val (.int .i64 W)] ++ [.val (.int .i64 x.1), .val (.int .u8 1), .val (.int .i64 x.2)], 104, .flat, true⟩, none⟩ := by
           simp only [appE, h1, h2, h3, h4, hsr.out m2, slView, Option.bind_some]
           simp [outV]
         rw [this]
         refine hK _ _ ⟨.inr ⟨m2.next, rfl, ?_, by rw [push_next]; omega, by omega⟩, ?_⟩
         · rw [push_at, if_pos rfl, hcell.out]; rfl
         · rw [liveA_len, List.length_cons, datL_len, List.length_take]; omega
       · have ho2 : Own m2 104 3 v11 (1 + i) (liveA ((row, 2, W) :: datL (al.take i))) := hown.keep hn fun j kk hj hk2 => by
           rcases hown.form with ⟨h, _⟩ | ⟨b, h, _, hb2, _⟩
           · rw [h] at hj; simp [blkOf, nilS] at hj
           · rw [h] at hj
             simp only [blkOf, Option.some.injEq] at hj
             exact hk j kk hk2 (by omega)
         refine app_rule (kd := .flat) (sz := 3) (y := 24) (zl := [.int .i64 0, .int .u8 0, .int .i64 0]) (by kernel_rfl) ho2 (by kernel_rfl) (by kernel_rfl) (by kernel_rfl) rfl (hsr.out m2 _ _ _) rfl (by omega) (by omega) ?_
         intro lv' m' ho' hn'
         rw [← hcell.out] at ho'
         exact hK _ _ (by rw [show 1 + (i + 1) = 1 + i + 1 by omega]; exact ho')
     refine hstep _ _ (by simp only [put_next, push_next]; omega) (fun j kk hj hjl => by rw [put_at, if_neg (by omega), push_at, if_neg (by omega)]; exact hj) ?_
     intro lv' m' ho'
     replace ho' := Hid.mk ho'
     clear hstep
     simp only [↓pre, simprocAttr, parV, sx, tys63, onceA, postU, postV, hf, ho, storeE, allocE, put_at, push_at, hv11, e33, e34, e35, wi, sr]
     exact ⟨q - 1, by have := hq.out; omega, i + 1, by have := hq.out; omega, rfl, ⟨.inr ⟨by omega, ho'.out⟩⟩⟩
   · have hlt' : ¬ ((i : Nat) : Int) < ((al.length : Nat) : Int) := by omega
     have hi : i = al.length := by have := hq.out; omega
     have hfin : ∃ kk, fzT kk m v11 = some (liveT ((row, 2, W) :: datL al)) := by
       rcases hJ.out with ⟨hi0, rfl⟩ | ⟨hi0, hown⟩
       · have : al = [] := List.eq_nil_of_length_eq_zero (by omega)
         subst this
         exact ⟨0, fzT_tree⟩
       · rw [hi, List.take_length] at hown
         refine ⟨0, ?_⟩
         rw [own_fzT hown 0]
         unfold treeR liveT
         rw [if_neg (by omega)]
         have : ((row, 2, W) :: datL al).length = 1 + al.length := by rw [List.length_cons, datL_len]; omega
         rw [this, decide_eq_false (by omega)]
     obtain ⟨kk, hfin⟩ := hfin
     replace hfin := Hid.mk hfin
     simp only [↓pre, simprocAttr, parV, sx, tys63, onceA, postU, postV, hf, ho, storeE, allocE, put_at, push_at, hv11, e33, e34, e35, hlt', sr]
     exact ⟨kk, by rw [fzT_tup, fzTs_cons, hfin.out, Option.bind_some, fzTs_cons, fzT_val, fzTs_nil]; rfl⟩
 · rw [if_neg hE] at hob ⊢
   unfold desc0 nilS at hob
   simp only [intV] at hob
   refine ospec_of_body follows Tryz.func63 (by unfold Tryz.f63; rfl) (by unfold Tryz.f63; simp) onceA (by unfold Tryz.f63; simp) (by kernel_rfl) ?_; unfold Tryz.f63
   simp only [↓pre, simprocAttr, parV, sx, tys63, onceA, postU, postV, hf, ho, storeE, allocE, put_at, push_at, sr]
   refine call_plain (hob) (by simp only [parV, plQ, *]) ?_; simp only [↓pre, simprocAttr, parV, sx, tys63, onceA, postU, postV, hf, ho, storeE, allocE, put_at, push_at, hE, sr]
   exact ⟨1, fzId_two (fzId_val (.slice none 0 0)) (fzId_val (.int .i64 (objE k r c w L row))) 1 _⟩
theorem tree_Rows_bad (k r c w row : Int) (v : AV) (L : List (List UInt8)) (cells : List AV) (hv : RowsV v L cells) (hE : ¬ objE k r c w L row = 0) : FSpec Tryz.prog 61 [imV k r c w v, intV row] ⟨.tup [nilS, intV (objE k r c w L row)], []⟩ := by
 refine fspec_fzT ?_
 have hp := hv.rd.plain
 have hf := rd_fz hv.rd
 have ho := rd_one hv.rd
 have hst := tree_Stripes k r c w row v L cells hv
 unfold strV17 at hst
 unfold imV at hst ⊢
 rw [if_neg hE] at hst
 unfold nilS at hst
 simp only [intV] at hst
 refine ospec_of_body follows Tryz.func61 (by unfold Tryz.f61; rfl) (by unfold Tryz.f61; simp) onceA (by unfold Tryz.f61; simp) (by kernel_rfl) ?_; unfold Tryz.f61
 simp only [↓pre, simprocAttr, parV, sx, tys61, onceA, postU, hf, ho, sr]
 refine call_plain (hst) (by simp only [parV, plQ, *]) ?_; simp only [↓pre, simprocAttr, parV, sx, tys61, onceA, postU, hf, ho, hE, sr]
 exact ⟨1, fzId_two (fzId_val (.slice none 0 0)) (fzId_val (.int .i64 (objE k r c w L row))) 1 _⟩
theorem law17_awake : FSpec Tryz.prog 57 [] ⟨boolV true, []⟩ := by
 have hE : objE 0 0 0 0 [] 0 = 2 := by
   have h3 : imE 0 0 0 0 [] = 2 := by
     unfold imE
     rw [if_neg (by decide)]
   have h2 : rowE 0 0 0 0 [] 0 = 2 := by
     unfold rowE
     rw [h3, if_neg (by decide)]
   unfold objE
   rw [h2, if_neg (by decide)]
 have h1 := tree_Rows_bad 0 0 0 0 0 nilS [] [] ⟨⟨.inl ⟨rfl, rfl⟩⟩, fun i b h => by simp at h⟩ (by rw [hE]; decide)
 rw [hE] at h1
 unfold imV nilS at h1
 simp only [intV] at h1
 refine fspec_of_body follows Tryz.func57 (by unfold Tryz.f57; rfl) (by unfold Tryz.f57; simp) onceA (by unfold Tryz.f57; simp) (by kernel_rfl) ?_; unfold Tryz.f57
 simp only [↓pre, simprocAttr, parV, sx, tys57, onceA, postU, sr]
 refine call_plain (h1) (by rfl) ?_; simp only [↓pre, simprocAttr, parV, sx, tys57, onceA, postU, sr]
theorem law17_big (k r c w : Int) (v : AV) (L : List (List UInt8)) (cells : List AV) (hv : RowsV v L cells) : FSpec Tryz.prog 58 [imV k r c w v] ⟨boolV (mayB k r c w && decide (400 < (k + r) * w)), []⟩ := by
 have hp := hv.rd.plain
 have hf := rd_fz hv.rd
 have ho := rd_one hv.rd
 have h1 := ref06_may k r c w
 have h2 := fun h => ref06_N k r c w h
 unfold imV
 cases hm : mayB k r c w with
 | false =>
   rw [hm] at h1
   replace h2 := Hid.mk h2
   refine fspec_of_body follows Tryz.func58 (by unfold Tryz.f58; rfl) (by unfold Tryz.f58; simp) onceA (by unfold Tryz.f58; simp) (by kernel_rfl) ?_; unfold Tryz.f58
   simp only [↓pre, simprocAttr, parV, sx, tys58, onceA, postU, hf, ho, sr]
   (refine call_pure (h1) (by rfl) (by intro k; rfl) ?_); simp only [↓pre, simprocAttr, parV, sx, tys58, onceA, postU, hf, ho, sr]
 | true =>
   rw [hm] at h1
   have h2 := h2 hm
   have hb := im_bound hm
   have wm : IntKind.i64.wrap ((k + r) * w) = (k + r) * w := wrap_id (by omega) (by omega)
   replace hb := Hid.mk hb
   refine fspec_of_body follows Tryz.func58 (by unfold Tryz.f58; rfl) (by unfold Tryz.f58; simp) onceA (by unfold Tryz.f58; simp) (by kernel_rfl) ?_; unfold Tryz.f58
   simp only [↓pre, simprocAttr, parV, sx, tys58, onceA, postU, hf, ho, sr]
   (refine call_pure (h1) (by rfl) (by intro k; rfl) ?_); simp only [↓pre, simprocAttr, parV, sx, tys58, onceA, postU, hf, ho, wm, sr]; (refine call_pure (h2) (by rfl) (by intro k; rfl) ?_); simp only [↓pre, simprocAttr, parV, sx, tys58, onceA, postU, hf, ho, wm, sr]
def takL (L : List (List UInt8)) : List AV := L.map takA
theorem takA_rd (b : List UInt8) : RdSl (takA b) b.length (bytesA b ++ []) := taken_rd b
def mixL (L : List (List UInt8)) (i : Nat) : List AV := (List.range L.length).map fun j => if j < i then takA (L.getD j []) else nilS
theorem mixL_len (L : List (List UInt8)) (i : Nat) : (mixL L i).length = L.length := by simp [mixL]
theorem mixL_at {L : List (List UInt8)} {i j : Nat} (h : j < L.length) : (mixL L i)[j]? = some (if j < i then takA (L.getD j []) else nilS) := by
 unfold mixL
 rw [List.getElem?_map, List.getElem?_range h]
 rfl
theorem mixL_set {L : List (List UInt8)} {i : Nat} {b : List UInt8} (h : L[i]? = some b) : splice (mixL L i) i [takA b] = mixL L (i + 1) := by
 have hi := (List.getElem?_eq_some_iff.1 h).1
 refine List.ext_getElem? fun j => ?_
 rw [splice_get _ _ _ (by rw [mixL_len, List.length_singleton]; omega)]
 by_cases hj : j < L.length
 · rw [mixL_at hj, mixL_at hj]
   by_cases h2 : i ≤ j ∧ j < i + [takA b].length
   · have : j = i := by rw [List.length_singleton] at h2; omega
     subst this
     rw [if_pos h2, if_pos (by omega), Nat.sub_self, List.getD_eq_getElem?_getD, h]
     rfl
   · rw [if_neg h2]
     rw [List.length_singleton] at h2
     by_cases h3 : j < i
     · rw [if_pos h3, if_pos (by omega)]
     · rw [if_neg h3, if_neg (by omega)]
 · rw [if_neg (by rw [List.length_singleton]; omega), List.getElem?_eq_none (by rw [mixL_len]; omega), List.getElem?_eq_none (by rw [mixL_len]; omega)]
theorem mixL_all (L : List (List UInt8)) : mixL L L.length = takL L := by
 refine List.ext_getElem? fun j => ?_
 unfold takL
 rw [List.getElem?_map]
 by_cases hj : j < L.length
 · rw [mixL_at hj, if_pos hj, List.getD_eq_getElem?_getD, List.getElem?_eq_getElem hj]
   rfl
 · rw [List.getElem?_eq_none (by rw [mixL_len]; omega), List.getElem?_eq_none (by omega)]
   rfl
theorem mixL_zero (L : List (List UInt8)) : mixL L 0 = (List.range L.length).map fun _ => nilS := by
 unfold mixL
 refine List.map_congr_left fun j _ => ?_
 rw [if_neg (by omega)]
theorem make_rowsN (m : Mem) {n : Nat} (hn : n ≤ 100000) : makeE Tryz.prog m 45 n n = some ⟨.sl m.next 0 n n true, m.push ⟨(List.range n).map fun _ => nilS, 52, .var, true⟩, none⟩ := by
 have h1 : elE Tryz.prog 45 = some 52 := by kernel_rfl
 have h2 : szE Tryz.prog 52 = some 1 := by kernel_rfl
 have h3 : byE Tryz.prog 52 = some 24 := by kernel_rfl
 have h4 : kindT Tryz.prog 52 = .var := by kernel_rfl
 have hz := zeros_one h2 (x := .slice none 0 0) (by kernel_rfl) n
 simp only [makeE, h1, h2, h3, h4, hz, outV, Option.bind_some, Nat.mul_one]
 rw [if_pos (by omega), List.take_of_length_le (by simp)]
 rfl
def onceTn : Nat → Bool := fun d => d != 2
theorem image_twin (k r c w : Int) (v : AV) (L : List (List UInt8)) (cells : List AV) (hv : RowsV v L cells) (hb : ∀ b ∈ L, b.length ≤ 65536) (hn : L.length ≤ 10000) (m0 : Mem) : OSpec Tryz.prog 156 [imV k r c w v] m0 fun res m' => ∃ b, res = .agg [intV k, intV r, intV c, intV w, .sl b 0 L.length L.length true] ∧ m'.at_ b = some ⟨takL L, 52, .var, true⟩ ∧ m0.next ≤ b ∧ b < m'.next ∧ m0.next ≤ m'.next ∧ ∀ j, j < m0.next → m'.at_ j = m0.at_ j := by
 have hp := hv.rd.plain
 have hf := rd_fz hv.rd
 have ho := rd_one hv.rd
 unfold imV
 have hmk := fun m => make_rowsN m (n := L.length) (by omega)
 have hz47 : zeroE Tryz.prog 47 = some [.int .i64 0, .int .i64 0, .int .i64 0, .int .i64 0, .slice none 0 0] := by kernel_rfl
 obtain ⟨N, hN⟩ : ∃ N, m0.next = N := ⟨_, rfl⟩
 refine ospec_of_body follows Tryz.func156 (by unfold Tryz.f156; rfl) (by unfold Tryz.f156; simp) onceTn (by unfold Tryz.f156; simp) (by kernel_rfl) ?_; unfold Tryz.f156
 simp only [↓pre, simprocAttr, parV, sx, tys156, cellsR, onceTn, bne, postU, postA, storeE, allocE, hf, ho, hz47, hv.rd.len', hN, hmk, sr]
 generalize hm3 : Mem.push (Mem.push m0 _) _ = m3
 have c0 : m3.at_ N = some ⟨[.val (.int .i64 0), .val (.int .i64 0), .val (.int .i64 0), .val (.int .i64 0), .val (.slice none 0 0)], 47, .var, true⟩ := by rw [← hm3]; simp [push_at, push_next, hN]
 have c1 : m3.at_ (N + 1) = some ⟨mixL L 0, 52, .var, true⟩ := by rw [← hm3, mixL_zero]; simp [push_at, push_next, hN]
 have c2 : m3.next = N + 2 := by rw [← hm3]; simp only [push_next, hN]
 have c3 : ∀ j, j < N → m3.at_ j = m0.at_ j := fun j hj => by rw [← hm3]; rw [push_at, if_neg (by rw [push_next]; omega), push_at, if_neg (by omega)]
 clear hm3
 rw [codeW_loop]
 refine loop_intro (fun q e m => ∃ i, q + i = L.length ∧ e 1 = .tptr 0 [intV k, intV r, intV c, intV w, v] ∧ e 2 = .ptr N 0 ∧ e 3 = .sl (N + 1) 0 L.length L.length true ∧ e 11 = v ∧ e 12 = intV (L.length : Nat) ∧ e 13 = intV (i : Nat) ∧ Hid (m.at_ N = some ⟨[.val (.int .i64 0), .val (.int .i64 0), .val (.int .i64 0), .val (.int .i64 0), .val (.slice none 0 0)], 47, .var, true⟩ ∧ m.at_ (N + 1) = some ⟨mixL L i, 52, .var, true⟩ ∧ m.next = N + 2 ∧ ∀ j, j < N → m.at_ j = m0.at_ j)) L.length ⟨0, by omega, rfl, rfl, rfl, rfl, rfl, rfl, ⟨c0, c1, c2, c3⟩⟩ ?_
 clear c0 c1 c2 c3
 rintro q e m ⟨i, hq, e1, e2, e3, e11, e12, e13, hJ⟩
 replace hq := Hid.mk hq
 obtain ⟨c0, c1, c2, c3⟩ := hJ.out
 clear hJ
 replace c2 := Hid.mk c2
 replace c3 := Hid.mk c3
 by_cases hlt : i < L.length
 · have hlt' : ((i : Nat) : Int) < ((L.length : Nat) : Int) := by omega
   have wi := wrap_succ (n := i) (by omega)
   obtain ⟨b, hbi⟩ : ∃ b, L[i]? = some b := ⟨_, List.getElem?_eq_getElem hlt⟩
   obtain ⟨a, x, ha, hra⟩ := hv.at_ i b hbi
   have t0 : FSpec Tryz.prog 153 [a] ⟨takA b, []⟩ := image_taken a b x hra (hb b (List.mem_of_getElem? hbi))
   have hset : List.take i (mixL L i) ++ [takA b] ++ List.drop (i + 1) (mixL L i) = mixL L (i + 1) := mixL_set hbi
   have hml := mixL_len L i
   have pa := hra.plain
   have oa := rd_one hra
   have hr := takA_rd b
   have kT := rd_okA hr
   have cT := rd_cells hr
   have sT := rd_shift hr
   generalize takA b = T at *
   have hi1 : i + 1 ≤ L.length := by omega
   replace hbi := Hid.mk hbi
   replace hr := Hid.mk hr
   simp only [↓pre, simprocAttr, parV, sx, tys156, cellsR, onceTn, bne, postU, postA, storeE, allocE, hf, ho, hz47, hv.rd.len', hN, e1, e2, e3, e11, e12, e13, hlt', hlt, hv.rd.addr', ha, oa, sr]
   refine call_plain (t0) (by simp only [parV, plQ, *]) ?_; simp only [↓pre, simprocAttr, parV, sx, tys156, cellsR, onceTn, bne, postU, postA, storeE, allocE, hf, ho, hz47, hv.rd.len', hN, e1, e2, e3, e11, e12, e13, hlt, sT, kT, cT, c1, hml, hi1, wi, hset, sr]
   refine ⟨q - 1, by have := hq.out; omega, i + 1, by have := hq.out; omega, rfl, ⟨?_, rfl, c2.out, ?_⟩⟩
   · rw [if_neg (by omega)]; exact c0
   · intro j hj
     rw [if_neg (by omega)]
     exact c3.out j hj
 · have hlt' : ¬ ((i : Nat) : Int) < ((L.length : Nat) : Int) := by omega
   have hi : i = L.length := by have := hq.out; omega
   rw [hi, mixL_all] at c1
   simp only [↓pre, simprocAttr, parV, sx, tys156, cellsR, onceTn, bne, postU, postA, storeE, allocE, hf, ho, hz47, hv.rd.len', hN, e1, e2, e3, e11, e12, e13, hlt', c0, put_at, sr]
   refine ⟨N + 1, rfl, ?_, by omega, ?_, ?_, ?_⟩
   · rw [if_neg (by omega)]; exact c1
   · rw [c2.out]; omega
   · rw [c2.out]; omega
   · intro j hj
     rw [if_neg (by omega)]
     exact c3.out j hj
def wipL (L : List (List UInt8)) (a b : Nat) : List (List UInt8) := (List.range L.length).map fun j => if a ≤ j ∧ j < b then [] else L.getD j []
theorem wipL_len (L : List (List UInt8)) (a b : Nat) : (wipL L a b).length = L.length := by simp [wipL]
theorem wipL_at {L : List (List UInt8)} {a b j : Nat} (h : j < L.length) : (wipL L a b)[j]? = some (if a ≤ j ∧ j < b then [] else L.getD j []) := by
 unfold wipL
 rw [List.getElem?_map, List.getElem?_range h]
 rfl
theorem takL_len (L : List (List UInt8)) : (takL L).length = L.length := by simp [takL]
theorem wipL_cells {L : List (List UInt8)} {a b : Nat} (hab : a ≤ b) (hb : b ≤ L.length) : splice (takL L) a (zcells [.slice none 0 0] ((b - a) * 1)) = takL (wipL L a b) := by
 have hz : (zcells [.slice none 0 0] ((b - a) * 1)).length = b - a := by simp [zcells]
 refine List.ext_getElem? fun j => ?_
 rw [splice_get _ _ _ (by rw [takL_len, hz]; omega), hz]
 unfold takL
 rw [List.getElem?_map, List.getElem?_map]
 by_cases hj : j < L.length
 · rw [wipL_at hj]
   by_cases h : a ≤ j ∧ j < b
   · rw [if_pos (by omega), if_pos h]
     unfold zcells
     rw [List.getElem?_map, List.getElem?_range (by omega)]
     simp [takA, nilS, Nat.mod_one]
   · rw [if_neg (by omega), if_neg h, List.getD_eq_getElem?_getD, List.getElem?_eq_getElem hj]
     rfl
 · rw [if_neg (by omega), List.getElem?_eq_none (by omega), List.getElem?_eq_none (by rw [wipL_len]; omega)]
theorem takL_rows (L : List (List UInt8)) (n : Nat) (f : Bool) (hn : n = L.length) : RowsV (.tree n n (takL L) f) L (takL L) := by
 subst hn
 refine ⟨⟨.inr (.inr ⟨_, _, rfl, Nat.le_refl _⟩)⟩, fun i b hb => ⟨takA b, [], ?_, takA_rd b⟩⟩
 unfold takL
 rw [List.getElem?_map, hb]
 rfl
theorem takL_id (L : List (List UInt8)) : ∀ c ∈ takL L, fzId c := fun c hc => by
 unfold takL at hc
 obtain ⟨b, _, rfl⟩ := List.mem_map.1 hc
 exact fzId_rd (takA_rd b)
def wipE (k r c w : Int) (L : List (List UInt8)) (d : Int) : Int := if imE k r c w L = 0 then (if d < 0 ∨ k + r ≤ d then 2 else 0) else imE k r c w L
def wipO (w : Int) (L : List (List UInt8)) (d : Int) : List (List UInt8) := wipL L (d.toNat * (2 * w.toNat)) ((d.toNat + 1) * (2 * w.toNat))
def wipV (k r c w : Int) (L : List (List UInt8)) (d : Int) : AV := if wipE k r c w L d = 0 then .tup [imV k r c w (.tree L.length L.length (takL (wipO w L d)) true), intV 0] else .tup [imV 0 0 0 0 nilS, intV (wipE k r c w L d)]
theorem imV0_id : fzId (imV 0 0 0 0 nilS) := fzId_agg fun c hc => by
 simp only [List.mem_cons, List.not_mem_nil, or_false] at hc
 rcases hc with rfl | rfl | rfl | rfl | rfl <;> exact fzId_val _
def onceWp : Nat → Bool := fun d => d != 4 && d != 7
theorem image_Wiped (k r c w d : Int) (v : AV) (L : List (List UInt8)) (cells : List AV) (hv : RowsV v L cells) : FSpec Tryz.prog 86 [imV k r c w v, intV d] ⟨wipV k r c w L d, []⟩ := by
 refine fspec_fzT ?_
 have hp := hv.rd.plain
 have hf := rd_fz hv.rd
 have ho := rd_one hv.rd
 have kV := rd_okA hv.rd
 have cV := rd_cells hv.rd
 have hck := image_Check k r c w v L cells hv
 have htw := fun h1 h2 m => image_twin k r c w v L cells hv h1 h2 m
 unfold wipV wipE
 unfold imV at hck htw ⊢
 have hz47 : zeroE Tryz.prog 47 = some [.int .i64 0, .int .i64 0, .int .i64 0, .int .i64 0, .slice none 0 0] := by kernel_rfl
 have bad : ∀ (E : Int) (m : Mem), ∃ kk, fzT kk m (.tup [.agg [.val (.int .i64 0), .val (.int .i64 0), .val (.int .i64 0), .val (.int .i64 0), .val (.slice none 0 0)], .val (.int .i64 E)]) = some (.tup [.agg [intV 0, intV 0, intV 0, intV 0, nilS], intV E]) := fun E m => ⟨0, fzId_two imV0_id (fzId_val (.int .i64 E)) 0 m⟩
 by_cases hE : imE k r c w L = 0
 · rw [hE] at hck
   obtain ⟨hm, hl, hlen⟩ := im_parts hE
   have hmn := may_n hm
   have hml := mayB_of.1 hm
   have hb := im_bound hm
   have wkr : IntKind.i64.wrap (k + r) = k + r := wrap_id (by omega) (by omega)
   rw [if_pos hE]
   by_cases hd : d < 0 ∨ k + r ≤ d
   · rw [if_pos hd, if_neg (by decide)]
     replace htw := Hid.mk htw
     replace hmn := Hid.mk hmn
     replace hml := Hid.mk hml
     replace hE := Hid.mk hE
     replace hb := Hid.mk hb
     by_cases h1 : d < 0
     · refine ospec_of_body follows Tryz.func86 (by unfold Tryz.f86; rfl) (by unfold Tryz.f86; simp) onceWp (by unfold Tryz.f86; simp) (by kernel_rfl) ?_; unfold Tryz.f86
       simp only [↓pre, simprocAttr, parV, sx, tys86, cellsR, onceWp, bne, postU, postA, storeE, allocE, me0, put_at, push_at, hf, ho, hz47, sr]
       refine call_plain (hck) (by simp only [parV, plQ, *]) ?_; simp only [↓pre, simprocAttr, parV, sx, tys86, cellsR, onceWp, bne, postU, postA, storeE, allocE, me0, put_at, push_at, hf, ho, hz47, h1, sr]
       exact bad 2 _
     · have h2 : k + r ≤ d := by omega
       refine ospec_of_body follows Tryz.func86 (by unfold Tryz.f86; rfl) (by unfold Tryz.f86; simp) onceWp (by unfold Tryz.f86; simp) (by kernel_rfl) ?_; unfold Tryz.f86
       simp only [↓pre, simprocAttr, parV, sx, tys86, cellsR, onceWp, bne, postU, postA, storeE, allocE, me0, put_at, push_at, hf, ho, hz47, sr]
       refine call_plain (hck) (by simp only [parV, plQ, *]) ?_; simp only [↓pre, simprocAttr, parV, sx, tys86, cellsR, onceWp, bne, postU, postA, storeE, allocE, me0, put_at, push_at, hf, ho, hz47, h1, wkr, h2, sr]
       exact bad 2 _
   · rw [if_neg hd, if_pos rfl]
     have h1 : ¬ d < 0 := by omega
     have h2 : ¬ k + r ≤ d := by omega
     obtain ⟨D, hD⟩ : ∃ D : Nat, d = (D : Int) := ⟨d.toNat, by omega⟩
     obtain ⟨W, hW⟩ : ∃ W : Nat, w = (W : Int) := ⟨w.toNat, by omega⟩
     obtain ⟨N, hN⟩ : ∃ N : Nat, k + r = (N : Int) := ⟨(k + r).toNat, by omega⟩
     have hle : (D + 1) * (2 * W) ≤ L.length := by
       have h3 : (D + 1) * (2 * W) ≤ N * (2 * W) := Nat.mul_le_mul_right _ (by omega)
       have h4 : (L.length : Int) = ((N * (2 * W) : Nat) : Int) := by rw [hl, hN, hW]; simp [Int.mul_assoc, Int.mul_comm, Int.mul_left_comm]
       omega
     have hLb : L.length ≤ 10000 := by omega
     have hab : D * (2 * W) ≤ (D + 1) * (2 * W) := Nat.mul_le_mul_right _ (by omega)
     have htw := fun m => htw (fun b hb => by have := lenB_le hm (hlen b hb); omega) hLb m
     unfold wipO
     rw [show d.toNat = D by omega, show w.toNat = W by omega]
     have hcells := wipL_cells hab hle
     have w2 : IntKind.i64.wrap (2 * w) = ((2 * W : Nat) : Int) := by rw [hW, show 2 * (W : Int) = ((2 * W : Nat) : Int) by simp]; exact wrap_nat (by omega)
     have w3 : IntKind.i64.wrap (d * ((2 * W : Nat) : Int)) = ((D * (2 * W) : Nat) : Int) := by rw [hD, show (D : Int) * ((2 * W : Nat) : Int) = ((D * (2 * W) : Nat) : Int) by simp]; exact wrap_nat (by omega)
     have w4 : IntKind.i64.wrap (d + 1) = ((D + 1 : Nat) : Int) := by rw [hD]; exact wrap_succ (n := D) (by omega)
     have w5 : IntKind.i64.wrap (((D + 1 : Nat) : Int) * ((2 * W : Nat) : Int)) = (((D + 1) * (2 * W) : Nat) : Int) := by rw [show ((D + 1 : Nat) : Int) * ((2 * W : Nat) : Int) = (((D + 1) * (2 * W) : Nat) : Int) by simp]; exact wrap_nat (by omega)
     generalize hA : D * (2 * W) = A at *
     generalize hB : (D + 1) * (2 * W) = B at *
     have hAB : A < B := by rw [← hA, ← hB, Nat.add_mul, Nat.one_mul]; omega
     have n1 : natOf (.val (.int .i64 ((A : Nat) : Int))) = some A := nat_of
     have n2 : natOf (.val (.int .i64 ((B : Nat) : Int))) = some B := nat_of
     replace hmn := Hid.mk hmn
     replace hml := Hid.mk hml
     replace hE := Hid.mk hE
     replace hb := Hid.mk hb
     replace hN := Hid.mk hN
     replace hW := Hid.mk hW
     replace hD := Hid.mk hD
     replace hA := Hid.mk hA
     replace hB := Hid.mk hB
     replace hl := Hid.mk hl
     replace hlen := Hid.mk hlen
     replace hcells := Hid.mk hcells
     refine ospec_of_body follows Tryz.func86 (by unfold Tryz.f86; rfl) (by unfold Tryz.f86; simp) onceWp (by unfold Tryz.f86; simp) (by kernel_rfl) ?_; unfold Tryz.f86
     simp only [↓pre, simprocAttr, parV, sx, tys86, cellsR, onceWp, bne, postU, postA, storeE, allocE, me0, put_at, push_at, hf, ho, hz47, sr]
     refine call_plain (hck) (by simp only [parV, plQ, *]) ?_; simp only [↓pre, simprocAttr, parV, sx, tys86, cellsR, onceWp, bne, postU, postA, storeE, allocE, me0, put_at, push_at, hf, ho, hz47, h1, wkr, h2, sr]
     refine call_open (htw _) ?_
     rintro res m' ⟨b, rfl, hb1, hb2, hb3, hb4, hb5⟩
     simp only [push_next, me0, Nat.zero_add] at hb2 hb3 hb4 hb5
     have c0 := hb5 0 (by decide)
     simp only [push_at, me0, if_true] at c0
     have hb0 : ¬ (0 = b) := by omega
     have hbn : ¬ (b = m'.next) := by omega
     have h0n : ¬ (0 = m'.next) := by omega
     have hnb : ¬ (m'.next = b) := by omega
     have hso : ∀ m : Mem, m.at_ b = some ⟨takL L, 52, .var, true⟩ → slOk Tryz.prog m 45 (.sl b 0 L.length L.length true) = true := fun m h => by
       have : elE Tryz.prog 45 = some 52 := by kernel_rfl
       simp [slOk, h, this]
     have hsl : sliceE Tryz.prog 45 (some A) (some B) (some B) (.sl b 0 L.length L.length true) = some (.sl b A (B - A) (B - A) true) := by
       have h3 : elE Tryz.prog 45 = some 52 := by kernel_rfl
       have h4 : szE Tryz.prog 52 = some 1 := by kernel_rfl
       simp only [sliceE, h3, h4, Option.isSome_some, Option.isNone_some, Bool.and_false, Bool.false_eq_true, if_false, Option.bind_some, Option.getD_some, Go.Tw.cutE]
       rw [if_pos (by omega), if_neg (by omega)]
       simp
     have hcl : ∀ m : Mem, m.at_ b = some ⟨takL L, 52, .var, true⟩ → clearE Tryz.prog 52 m (.sl b A (B - A) (B - A) true) = some ⟨undefA, m.put b (some ⟨takL (wipL L A B), 52, .var, true⟩), none⟩ := fun m h => by
       have h3 : zeroE Tryz.prog 52 = some [.slice none 0 0] := by kernel_rfl
       have h4 : szE Tryz.prog 52 = some 1 := by kernel_rfl
       have h5 := takL_len L
       simp only [clearE, h3, h4, h, Option.bind_some]
       rw [if_neg (by omega), if_pos ⟨by decide, trivial, rfl, by omega⟩, hcells.out]
       rfl
     have hc1 : ∀ (m : Mem) (ty : TypeId) (x : AV), builtinE Tryz.prog m #[45] ty [x] .clear = clearE Tryz.prog 52 m x := fun m ty x => by
       have h3 : elE Tryz.prog 45 = some 52 := by kernel_rfl
       simp [builtinE, h3]
     have hwl := wipL_len L A B
     replace hb2 := Hid.mk hb2
     replace hb3 := Hid.mk hb3
     replace hb4 := Hid.mk hb4
     replace hb5 := Hid.mk hb5
     simp only [↓pre, simprocAttr, parV, sx, tys86, cellsR, onceWp, bne, postU, postA, storeE, allocE, me0, put_at, push_at, hf, ho, hz47, hb1, c0, hb0, hbn, h0n, hnb, hso, hsl, hcl, hc1, w2, w3, w4, w5, n1, n2, optNat, Option.map_some, Option.map_none, push_next, put_next, sr]
     have hfin : ∀ m : Mem, m.at_ b = some ⟨takL (wipL L A B), 52, .var, true⟩ → fzT 1 m (.sl b 0 L.length L.length true) = some (.tree L.length L.length (takL (wipL L A B)) true) := fun m h => fzT_var h (by rw [List.drop_zero]; exact fzTs_id _ (takL_id _))
     refine ⟨1, ?_⟩
     rw [fzT_tup, fzTs_cons, fzT_agg]
     simp only [fzTs_cons, fzTs_nil, fzT_val, Option.bind_some, Option.map_some]
     rw [hfin _ (by rw [put_at, if_neg (fun h => hb0 h.symm), put_at, if_pos rfl])]
     rfl
 · rw [if_neg hE, if_neg hE]
   replace htw := Hid.mk htw
   refine ospec_of_body follows Tryz.func86 (by unfold Tryz.f86; rfl) (by unfold Tryz.f86; simp) onceWp (by unfold Tryz.f86; simp) (by kernel_rfl) ?_; unfold Tryz.f86
   simp only [↓pre, simprocAttr, parV, sx, tys86, cellsR, onceWp, bne, postU, postA, storeE, allocE, me0, put_at, push_at, hf, ho, hz47, sr]
   refine call_plain (hck) (by simp only [parV, plQ, *]) ?_; simp only [↓pre, simprocAttr, parV, sx, tys86, cellsR, onceWp, bne, postU, postA, storeE, allocE, me0, put_at, push_at, hf, ho, hz47, hE, sr]
   exact bad _ _
theorem law17_same (v v' : AV) (l l' : List Int) (x x' : List AV) (hv : RdSl v l.length (intsA l ++ x)) (hv' : RdSl v' l'.length (intsA l' ++ x')) (hn : l.length ≤ 1000000000000) (hn' : l'.length ≤ 1000000000000) : FSpec Tryz.prog 155 [v, v'] ⟨boolV (sameI l l'), []⟩ := by
 refine fspec_of_body follows Tryz.func155 (by unfold Tryz.f155; rfl) (by unfold Tryz.f155; simp) onceA (by unfold Tryz.f155; simp) (by kernel_rfl) ?_; unfold Tryz.f155
 simp only [↓pre, simprocAttr, parV, sx, tys155, onceA, postU, hv.len', hv'.len']
 refine cond_ndec (fun he => ?_) (fun he => ?_)
 · have hlen : l.length = l'.length := by omega
   simp only [↓pre, simprocAttr, parV, sx, tys155, onceA, postU, hv.len', hv'.len']
   rw [codeW_loop]
   refine loop_intro (fun n e m => ∃ i, n + i = l.length ∧ e 0 = v ∧ e 1 = v' ∧ e 5 = intV (i : Nat) ∧ ∀ j, j < i → l[j]? = l'[j]?) l.length ⟨0, by omega, ?_⟩ ?_
   · simp [Env.set, entryE, intV]
   · rintro n e m ⟨i, hi, e0, e1, e5, hpre⟩
     replace hpre := Hid.mk hpre
     replace hlen := Hid.mk hlen
     simp only [↓pre, simprocAttr, parV, sx, tys155, onceA, postU, e0, e1, e5, hv.len', hv'.len']
     refine cond_dec (fun hlt => ?_) (fun hlt => ?_)
     · obtain ⟨z, hsr⟩ : ∃ r, l[i]? = some r := ⟨_, List.getElem?_eq_getElem (by omega)⟩
       obtain ⟨z', hsr'⟩ : ∃ r, l'[i]? = some r := ⟨_, List.getElem?_eq_getElem (by have := hlen.out; omega)⟩
       have a1 := int_at (x := x) hsr
       have c1 := int_at (x := x') hsr'
       have hil : i < l.length := by omega
       have hil' : i < l'.length := by have := hlen.out; omega
       have w1 := wrap_succ (n := i) (by omega)
       simp only [↓pre, simprocAttr, parV, sx, tys155, onceA, postU, e0, e1, e5, hv.addr', hv'.addr', Nat.mul_one, a1, c1, hil, hil', w1]
       refine cond_ndec (fun hq => ?_) (fun hq => ?_)
       · simp only [↓pre, simprocAttr, parV, sx, tys155, onceA, postU, e0, e1, e5, w1]
         refine ⟨n - 1, by omega, i + 1, by omega, rfl, fun j hj => ?_⟩
         by_cases hji : j = i
         · rw [hji, hsr, hsr', hq]
         · exact hpre.out j (by omega)
       · have hne : sameI l l' = false := by
           unfold sameI
           simp only [decide_eq_false_iff_not]
           intro hll
           subst hll
           rw [hsr] at hsr'
           simp only [Option.some.injEq] at hsr'
           exact hq hsr'
         simp only [↓pre, simprocAttr, parV, sx, tys155, onceA, postU, e0, e1, e5, hne, boolV]
     · have hall : sameI l l' = true := by
         unfold sameI
         simp only [decide_eq_true_eq]
         refine List.ext_getElem? fun j => ?_
         by_cases hj : j < i
         · exact hpre.out j hj
         · have := hlen.out
           rw [List.getElem?_eq_none (by omega), List.getElem?_eq_none (by omega)]
       simp only [↓pre, simprocAttr, parV, sx, tys155, onceA, postU, e0, e1, e5, hall, boolV]
 · have hne : sameI l l' = false := by
     unfold sameI
     simp only [decide_eq_false_iff_not]
     intro hll
     subst hll
     exact he rfl
   simp only [↓pre, simprocAttr, parV, sx, tys155, onceA, postU, hne, boolV]
theorem stripe_Vector (k r c w kd ver : Int) (v : AV) (ps : List PairB) (cells : List AV) (hv : RowV v ps cells) (hm : mayB k r c w = true) (hr : rowB k r c ps = true) (hk : kd = 1 ∨ kd = 2) (hver : verB ver = true) : FSpec Tryz.prog 154 [parV k r c w, v, .val (.int .u8 kd), intV ver] ⟨.tup [vecA (toldL k r c w ps kd ver), boolV (toldL k r c w ps kd ver).isSome, intV 0], []⟩ := by
 have hp := hv.rd.plain
 have h1 := stripe_asked k r c w v ps cells hv kd ver
 rw [ask_ok hm hr hk hver] at h1
 have h2 := stripe_told k r c w kd ver v ps cells hv hm hr
 have hel : elE Tryz.prog 41 = some 3 := by kernel_rfl
 cases hT : toldL k r c w ps kd ver with
 | none =>
   rw [hT] at h2
   have hq : ∀ x y, binE Tryz.prog .neq 41 x y (.val (.slice none 0 0)) (.val (.slice none 0 0)) = some (boolV false) := fun x y => by rfl
   unfold vecA nilS at h2 ⊢
   refine fspec_of_body follows Tryz.func154 (by unfold Tryz.f154; rfl) (by unfold Tryz.f154; simp) onceA (by unfold Tryz.f154; simp) (by kernel_rfl) ?_; unfold Tryz.f154
   simp only [↓pre, simprocAttr, parV, sx, tys154, onceA, postU, sr]
   refine call_plain (h1) (by simp only [parV, plQ, *]) ?_; simp only [↓pre, simprocAttr, parV, sx, tys154, onceA, postU, hq, sr]; refine call_plain (h2) (by simp only [parV, plQ, *]) ?_; simp only [↓pre, simprocAttr, parV, sx, tys154, onceA, postU, hq, sr]
   rfl
 | some l =>
   rw [hT] at h2
   have hq : ∀ x y, binE Tryz.prog .neq 41 x y (.tree l.length l.length (intsA l) false) (.val (.slice none 0 0)) = some (boolV true) := fun x y => by
     simp [binE, hel, isNil, boolV]
   unfold vecA at h2 ⊢
   refine fspec_of_body follows Tryz.func154 (by unfold Tryz.f154; rfl) (by unfold Tryz.f154; simp) onceA (by unfold Tryz.f154; simp) (by kernel_rfl) ?_; unfold Tryz.f154
   simp only [↓pre, simprocAttr, parV, sx, tys154, onceA, postU, sr]
   refine call_plain (h1) (by simp only [parV, plQ, *]) ?_; simp only [↓pre, simprocAttr, parV, sx, tys154, onceA, postU, hq, sr]; refine call_plain (h2) (by simp only [parV, plQ, *]) ?_; simp only [↓pre, simprocAttr, parV, sx, tys154, onceA, postU, hq, sr]
theorem four_t {b : Bool} {P Q R : Prop} [Decidable P] [Decidable Q] [Decidable R] (h : (b && (decide P && (decide Q && decide R))) = true) : b = true ∧ P ∧ Q ∧ R := by
 simpa using h
theorem four_f {b : Bool} {P Q R : Prop} [Decidable P] [Decidable Q] [Decidable R] (h : (b && (decide P && (decide Q && decide R))) = false) : b = false ∨ (b = true ∧ ¬ P) ∨ (b = true ∧ P ∧ ¬ Q) ∨ (b = true ∧ P ∧ Q ∧ ¬ R) := by
 cases b with
 | false => exact .inl rfl
 | true =>
   by_cases h1 : P
   · by_cases h2 : Q
     · by_cases h3 : R
       · simp [h1, h2, h3] at h
       · exact .inr (.inr (.inr ⟨rfl, h1, h2, h3⟩))
     · exact .inr (.inr (.inl ⟨rfl, h1, h2⟩))
   · exact .inr (.inl ⟨rfl, h1⟩)
def tellB (k r c w : Int) (p : PairB) (i : Nat) (kd ver : Int) : Bool := toldB k r c w p.1 (i : Nat) kd ver || toldB k r c w p.2 (i : Nat) kd ver
def telN (k r c w : Int) (ps : List PairB) (kd ver : Int) : Nat → Nat
 | 0 => 0
 | n + 1 => telN k r c w ps kd ver n + (if tellB k r c w (ps.getD n ([], [])) n kd ver = true then 1 else 0)
theorem telN_le (k r c w : Int) (ps : List PairB) (kd ver : Int) : ∀ n, telN k r c w ps kd ver n ≤ n
 | 0 => Nat.le_refl _
 | n + 1 => by
   unfold telN
   have := telN_le k r c w ps kd ver n
   split <;> omega
def onceTd : Nat → Bool := fun d => d != 9 && d != 12
set_option maxHeartbeats 4000000 in
theorem law17_told (k r c w row kd ver : Int) (v : AV) (L : List (List UInt8)) (cells : List AV) (hv : RowsV v L cells) (hR : rowE k r c w L row = 0) : FSpec Tryz.prog 85 [imV k r c w v, .agg [intV row, .val (.int .u8 kd), intV ver]] ⟨intV (telN k r c w (rowL k r w L row) kd ver (rowL k r w L row).length : Nat), []⟩ := by
 refine fspec_fzT ?_
 have hp := hv.rd.plain
 have hf := rd_fz hv.rd
 have ho := rd_one hv.rd
 have hr := image_Row k r c w row v L cells hv
 unfold rowVal at hr
 rw [if_pos hR] at hr
 obtain ⟨hrb, hm⟩ := row_rowB hR
 have hmn := may_n hm
 have hrv := row_rowV k r c w L row (by omega)
 unfold imV at hr ⊢
 generalize treeR (k + r).toNat (prA (rowL k r w L row)) = RV at *
 generalize prA (rowL k r w L row) = pcells at *
 generalize rowL k r w L row = ps at *
 have sR := rd_shift hrv.rd
 have pR := hrv.rd.plain
 obtain ⟨hl, hpr⟩ := row_at hrb
 have hcs : ∀ n, telN k r c w ps kd ver (n + 1) = telN k r c w ps kd ver n + (if tellB k r c w (ps.getD n ([], [])) n kd ver = true then 1 else 0) := fun n => rfl
 have hcl := telN_le k r c w ps kd ver
 have hc0 : telN k r c w ps kd ver 0 = 0 := rfl
 generalize telN k r c w ps kd ver = CT at *
 have hl16 : ps.length ≤ 16 := by omega
 simp only [intV] at hr
 replace hmn := Hid.mk hmn
 replace hl := Hid.mk hl
 replace hpr := Hid.mk hpr
 replace hR := Hid.mk hR
 replace hcs := Hid.mk hcs
 replace hcl := Hid.mk hcl
 replace hc0 := Hid.mk hc0
 refine ospec_of_body follows Tryz.func85 (by unfold Tryz.f85; rfl) (by unfold Tryz.f85; simp) onceTd (by unfold Tryz.f85; simp) (by kernel_rfl) ?_; unfold Tryz.f85
 simp only [↓pre, simprocAttr, parV, sx, tys85, onceTd, bne, postU, postA, hf, ho, storeE, allocE, put_at, push_at, sr]
 refine call_plain (hr) (by simp only [parV, plQ, *]) ?_; simp only [↓pre, simprocAttr, parV, sx, tys85, onceTd, bne, postU, postA, hf, ho, storeE, allocE, put_at, push_at, sR, sr]
 rw [codeW_loop]
 refine loop_intro (fun q e m => ∃ i, q + i = ps.length ∧ e 2 = .tptr 0 [intV k, intV r, intV c, intV w, v] ∧ e 3 = .tptr 0 [intV row, .val (.int .u8 kd), intV ver] ∧ e 5 = RV ∧ e 7 = intV (CT i : Nat) ∧ e 8 = intV (i : Nat)) ps.length ⟨0, by omega, rfl, rfl, rfl, by rw [hc0.out]; rfl, rfl⟩ ?_
 rintro q e m ⟨i, hq, e2, e3, e5, e7, e8⟩
 replace hq := Hid.mk hq
 by_cases hlt : i < ps.length
 · have hlt' : ((i : Nat) : Int) < ((ps.length : Nat) : Int) := by omega
   have wi := wrap_succ (n := i) (by omega)
   have wc := wrap_succ (n := CT i) (by have := hcl.out i; omega)
   obtain ⟨p, hpi⟩ : ∃ p, ps[i]? = some p := ⟨_, List.getElem?_eq_getElem hlt⟩
   obtain ⟨a, b, xa, xb, ha, hb, hra, hrb2⟩ := hrv.at_ i p hpi
   have hpp := hpr.out p (List.mem_of_getElem? hpi)
   unfold pairB at hpp
   rw [Bool.and_eq_true] at hpp
   have hP0 := slot_Parse_ok k r c w a p.1 xa hra hm hpp.1
   have hP1 := slot_Parse_ok k r c w b p.2 xb hrb2 hm hpp.2
   have fa := rd_fz hra
   have fb := rd_fz hrb2
   have oa := rd_one hra
   have ob := rd_one hrb2
   have pa := hra.plain
   have pb := hrb2.plain
   have hgd : ps.getD i ([], []) = p := by rw [List.getD_eq_getElem?_getD, hpi]; rfl
   have hstep := hcs.out i
   rw [hgd] at hstep
   have hte : tellB k r c w p i kd ver = (toldB k r c w p.1 (i : Nat) kd ver || toldB k r c w p.2 (i : Nat) kd ver) := rfl
   have hB0 : toldB k r c w p.1 (i : Nat) kd ver = (isSlot k r c w p.1 && (decide ((slA k r c w p.1).kd = kd) && (decide ((slA k r c w p.1).ix = (i : Nat)) && decide ((slA k r c w p.1).st = ver)))) := rfl
   have hB1 : toldB k r c w p.2 (i : Nat) kd ver = (isSlot k r c w p.2 && (decide ((slA k r c w p.2).kd = kd) && (decide ((slA k r c w p.2).ix = (i : Nat)) && decide ((slA k r c w p.2).st = ver)))) := rfl
   have hR0 := slA_rd k r c w p.1
   have hR1 := slA_rd k r c w p.2
   generalize tellB k r c w p i kd ver = TB at *
   generalize toldB k r c w p.1 (i : Nat) kd ver = B0 at *
   generalize toldB k r c w p.2 (i : Nat) kd ver = B1 at *
   generalize slA k r c w p.1 = s0 at *
   generalize slA k r c w p.2 = s1 at *
   generalize isSlot k r c w p.1 = i0 at *
   generalize isSlot k r c w p.2 = i1 at *
   obtain ⟨⟨n1, y1, g1⟩, ⟨n2, y2, g2⟩⟩ := hR0
   obtain ⟨⟨n3, y3, g3⟩, ⟨n4, y4, g4⟩⟩ := hR1
   have f1 := rd_fz g1
   have f2 := rd_fz g2
   have f3 := rd_fz g3
   have f4 := rd_fz g4
   have q1 := rd_one g1
   have q2 := rd_one g2
   have q3 := rd_one g3
   have q4 := rd_one g4
   have t1 := rd_shift g1
   have t2 := rd_shift g2
   have t3 := rd_shift g3
   have t4 := rd_shift g4
   simp only [SlA.cells] at hP0 hP1
   replace hpi := Hid.mk hpi
   replace hpp := Hid.mk hpp
   replace hstep := Hid.mk hstep
   replace hte := Hid.mk hte
   replace hB0 := Hid.mk hB0
   replace hB1 := Hid.mk hB1
   simp only [↓pre, simprocAttr, parV, sx, tys85, onceTd, bne, postU, postA, hf, ho, storeE, allocE, put_at, push_at, e2, e3, e5, e7, e8, f1, f2, f3, f4, q1, q2, q3, q4, t1, t2, t3, t4, hrv.rd.len', hlt', hrv.rd.addr', hlt, ha, hb, fa, fb, oa, ob, Nat.zero_add, sr]
   (refine call_pure (hP0) (by simp only [parV, plQ, *]) (by intro k; simp only [sq, sr, *]) ?_); simp only [↓pre, simprocAttr, parV, sx, tys85, onceTd, bne, postU, postA, hf, ho, storeE, allocE, put_at, push_at, e2, e3, e5, e7, e8, f1, f2, f3, f4, q1, q2, q3, q4, t1, t2, t3, t4, hrv.rd.addr', hlt, ha, hb, fa, fb, oa, ob, sr]
   refine contW_fixed (by kernel_rfl) ?_
   simp only [↓pre, simprocAttr, parV, sx, tys85, onceTd, bne, postU, postA, hf, ho, storeE, allocE, put_at, push_at, e2, e3, e5, e7, e8, f1, f2, f3, f4, q1, q2, q3, q4, t1, t2, t3, t4, hrv.rd.addr', hlt, ha, hb, fa, fb, oa, ob, sr]
   refine contW_fixed (by kernel_rfl) ?_
   simp only [↓pre, simprocAttr, parV, sx, tys85, onceTd, bne, postU, postA, hf, ho, storeE, allocE, put_at, push_at, e2, e3, e5, e7, e8, f1, f2, f3, f4, q1, q2, q3, q4, t1, t2, t3, t4, hrv.rd.addr', hlt, ha, hb, fa, fb, oa, ob, sr]
   (refine call_pure (hP1) (by simp only [parV, plQ, *]) (by intro k; simp only [sq, sr, *]) ?_); simp only [↓pre, simprocAttr, parV, sx, tys85, onceTd, bne, postU, postA, hf, ho, storeE, allocE, put_at, push_at, e2, e3, e5, e7, e8, f1, f2, f3, f4, q1, q2, q3, q4, t1, t2, t3, t4, hrv.rd.addr', hlt, ha, hb, fa, fb, oa, ob, sr]
   refine contW_fixed (by kernel_rfl) ?_
   simp only [↓pre, simprocAttr, parV, sx, tys85, onceTd, bne, postU, postA, hf, ho, storeE, allocE, put_at, push_at, e2, e3, e5, e7, e8, f1, f2, f3, f4, q1, q2, q3, q4, t1, t2, t3, t4, hrv.rd.addr', hlt, ha, hb, fa, fb, oa, ob, sr]
   refine contW_fixed (by kernel_rfl) ?_
   simp only [↓pre, simprocAttr, parV, sx, tys85, onceTd, bne, postU, postA, hf, ho, storeE, allocE, put_at, push_at, e2, e3, e5, e7, e8, f1, f2, f3, f4, q1, q2, q3, q4, t1, t2, t3, t4, sr]
   generalize hM : Mem.put (Mem.push (Mem.put (Mem.push m _) _ _) _) _ _ = M
   have hb0 : M.at_ m.next = some ⟨[.val (.int .u8 s0.kd), .val (.int .i64 s0.ix), .val (.int .i64 s0.ce), .val (.int .i64 s0.st), s0.vv, s0.dv], 127, .var, true⟩ := by rw [← hM]; simp [put_at, push_at, put_next, push_next]
   have hb1 : M.at_ (m.next + 1) = some ⟨[.val (.int .u8 s1.kd), .val (.int .i64 s1.ix), .val (.int .i64 s1.ce), .val (.int .i64 s1.st), s1.vv, s1.dv], 127, .var, true⟩ := by rw [← hM]; simp [put_at, push_at, put_next, push_next]
   clear hM
   generalize m.next = B at *
   have hTt : B0 = true ∨ B1 = true → CT (i + 1) = CT i + 1 := fun h => by
     rw [hstep.out, hte.out, if_pos]
     rcases h with h | h <;> rw [h] <;> simp
   have hTf : B0 = false → B1 = false → CT (i + 1) = CT i := fun h1 h2 => by
     rw [hstep.out, hte.out, h1, h2]
     rfl
   clear hstep hte hP0 hP1
   cases hv0 : B0 with
   | true =>
     have hCT := hTt (.inl hv0)
     rw [hB0.out] at hv0
     obtain ⟨rfl, d1, d2, d3⟩ := four_t hv0
     clear hTt hTf hv0
     replace hCT := Hid.mk hCT
     simp only [↓pre, simprocAttr, parV, sx, tys85, onceTd, bne, postU, postA, hf, ho, storeE, allocE, put_at, push_at, e2, e3, e5, e7, e8, f1, f2, f3, f4, q1, q2, q3, q4, t1, t2, t3, t4, hb0, hb1, d1, d2, d3, wi, wc, sr]
     exact ⟨q - 1, by have := hq.out; omega, i + 1, by have := hq.out; omega, by rw [hCT.out], rfl⟩
   | false =>
     have hv0' := hv0
     rw [hB0.out] at hv0
     cases hv1 : B1 with
     | true =>
       have hCT := hTt (.inr hv1)
       rw [hB1.out] at hv1
       obtain ⟨rfl, f1', f2', f3'⟩ := four_t hv1
       clear hTt hTf hv1
       replace hCT := Hid.mk hCT
       replace hv0' := Hid.mk hv0'
       rcases four_f hv0 with rfl | ⟨rfl, d1⟩ | ⟨rfl, d1, d2⟩ | ⟨rfl, d1, d2, d3⟩
       all_goals clear hv0
       all_goals (
         simp only [↓pre, simprocAttr, parV, sx, tys85, onceTd, bne, postU, postA, hf, ho, storeE, allocE, put_at, push_at, e2, e3, e5, e7, e8, f1, f2, f3, f4, q1, q2, q3, q4, t1, t2, t3, t4, hb0, hb1, *, sr]
         exact ⟨q - 1, by have := hq.out; omega, i + 1, by have := hq.out; omega, by rw [hCT.out], rfl⟩)
     | false =>
       have hCT := hTf hv0' hv1
       rw [hB1.out] at hv1
       clear hTt hTf
       replace hCT := Hid.mk hCT
       replace hv0' := Hid.mk hv0'
       rcases four_f hv0 with rfl | ⟨rfl, d1⟩ | ⟨rfl, d1, d2⟩ | ⟨rfl, d1, d2, d3⟩
       all_goals clear hv0
       all_goals rcases four_f hv1 with rfl | ⟨rfl, f1'⟩ | ⟨rfl, f1', f2'⟩ | ⟨rfl, f1', f2', f3'⟩
       all_goals clear hv1
       all_goals (
         simp only [↓pre, simprocAttr, parV, sx, tys85, onceTd, bne, postU, postA, hf, ho, storeE, allocE, put_at, push_at, e2, e3, e5, e7, e8, f1, f2, f3, f4, q1, q2, q3, q4, t1, t2, t3, t4, hb0, hb1, *, sr]
         exact ⟨q - 1, by have := hq.out; omega, i + 1, by have := hq.out; omega, by rw [hCT.out], rfl⟩)
 · have hlt' : ¬ ((i : Nat) : Int) < ((ps.length : Nat) : Int) := by omega
   have hi : i = ps.length := by have := hq.out; omega
   subst hi
   simp only [↓pre, simprocAttr, parV, sx, tys85, onceTd, bne, postU, postA, hf, ho, storeE, allocE, put_at, push_at, e2, e3, e5, e7, e8, hrv.rd.len', hlt', sr]
   exact ⟨0, fzT_val⟩
def sndB (k r c w : Int) (bs : List UInt8) (i : Nat) (kd ver : Int) (l : List Int) : Bool := !(toldB k r c w bs (i : Nat) kd ver) || decide ((slotC k r bs).vec = l)
def soundL (k r c w : Int) (ps : List PairB) (kd ver : Int) (l : List Int) : Bool := (List.range ps.length).all (fun i => sndB k r c w (ps.getD i ([], [])).2 i kd ver l && sndB k r c w (ps.getD i ([], [])).1 i kd ver l) && ((thereL k r c w ps kd ver).all (fun b => decide (b.length ≠ 0)) && decide (parT k.toNat r.toNat c.toNat (thereL k r c w ps kd ver) = (thereL k r c w ps kd ver).drop k.toNat))
def soundB (k r c w : Int) (ps : List PairB) (kd ver : Int) : Bool := match toldL k r c w ps kd ver with
 | none => false
 | some l => soundL k r c w ps kd ver l
theorem soundL_parts {k r c w : Int} {ps : List PairB} {kd ver : Int} {l : List Int} : soundL k r c w ps kd ver l = true ↔ (∀ i p, ps[i]? = some p → sndB k r c w p.2 i kd ver l = true ∧ sndB k r c w p.1 i kd ver l = true) ∧ (∀ b ∈ thereL k r c w ps kd ver, b.length ≠ 0) ∧ parT k.toNat r.toNat c.toNat (thereL k r c w ps kd ver) = (thereL k r c w ps kd ver).drop k.toNat := by
 unfold soundL
 rw [Bool.and_eq_true, Bool.and_eq_true, List.all_eq_true, List.all_eq_true, decide_eq_true_eq]
 constructor
 · rintro ⟨h1, h2, h3⟩
   refine ⟨fun i p hp => ?_, fun b hb => of_decide_eq_true (h2 b hb), h3⟩
   have := h1 i (List.mem_range.2 (List.getElem?_eq_some_iff.1 hp).1)
   rw [List.getD_eq_getElem?_getD, hp, Bool.and_eq_true] at this
   exact this
 · rintro ⟨h1, h2, h3⟩
   refine ⟨fun i hi => ?_, fun b hb => decide_eq_true (h2 b hb), h3⟩
   have hi := List.mem_range.1 hi
   have := h1 i _ (List.getElem?_eq_getElem hi)
   rw [List.getD_eq_getElem?_getD, List.getElem?_eq_getElem hi, Bool.and_eq_true]
   exact this
def onceSo : Nat → Bool := fun d => d != 13 && d != 102
set_option maxHeartbeats 4000000 in
theorem law17_sound (k r c w row kd ver : Int) (v : AV) (L : List (List UInt8)) (cells : List AV) (hv : RowsV v L cells) (hR : rowE k r c w L row = 0) (hk : kd = 1 ∨ kd = 2) (hver : verB ver = true) : FSpec Tryz.prog 84 [imV k r c w v, .agg [intV row, .val (.int .u8 kd), intV ver]] ⟨boolV (soundB k r c w (rowL k r w L row) kd ver), []⟩ := by
 refine fspec_fzT ?_
 have hp := hv.rd.plain
 have hf := rd_fz hv.rd
 have ho := rd_one hv.rd
 have hro := image_Row k r c w row v L cells hv
 unfold rowVal at hro
 rw [if_pos hR] at hro
 obtain ⟨hrb, hm⟩ := row_rowB hR
 have hmn := may_n hm
 have hml := mayB_of.1 hm
 have hrv := row_rowV k r c w L row (by omega)
 have hvc := stripe_Vector k r c w kd ver _ _ _ hrv hm hrb hk hver
 unfold imV at hro ⊢
 unfold soundB
 generalize treeR (k + r).toNat (prA (rowL k r w L row)) = RV at *
 generalize prA (rowL k r w L row) = pcells at *
 generalize rowL k r w L row = ps at *
 have sR := rd_shift hrv.rd
 have pR := hrv.rd.plain
 simp only [intV] at hro
 cases hT : toldL k r c w ps kd ver with
 | none =>
   rw [hT] at hvc
   unfold vecA nilS at hvc
   simp only [Option.isSome_none, boolV] at hvc
   simp only
   refine ospec_of_body follows Tryz.func84 (by unfold Tryz.f84; rfl) (by unfold Tryz.f84; simp) onceSo (by unfold Tryz.f84; simp) (by kernel_rfl) ?_; unfold Tryz.f84
   simp only [↓pre, simprocAttr, parV, sx, tys84, onceSo, bne, postU, postA, Int.natCast_zero, Int.cast_ofNat_Int, Int.natCast_one, ww0, ww1, ww2, allocE, put_at, push_at, hf, ho, sr]
   refine call_plain (hro) (by simp only [parV, plQ, *]) ?_; simp only [↓pre, simprocAttr, parV, sx, tys84, onceSo, bne, postU, postA, Int.natCast_zero, Int.cast_ofNat_Int, Int.natCast_one, ww0, ww1, ww2, allocE, put_at, push_at, hf, ho, sR, sr]; refine call_plain (hvc) (by simp only [parV, plQ, *]) ?_; simp only [↓pre, simprocAttr, parV, sx, tys84, onceSo, bne, postU, postA, Int.natCast_zero, Int.cast_ofNat_Int, Int.natCast_one, ww0, ww1, ww2, allocE, put_at, push_at, hf, ho, sR, sr]
   exact ⟨0, fzT_val⟩
 | some l =>
   rw [hT] at hvc
   unfold vecA at hvc
   simp only [Option.isSome_some, boolV] at hvc
   simp only
   obtain ⟨hll, hlv⟩ := told_ok hT
   obtain ⟨hl, hpr⟩ := row_at hrb
   obtain ⟨K, hK⟩ : ∃ K : Nat, k = (K : Int) := ⟨k.toNat, by omega⟩
   obtain ⟨RR, hRR⟩ : ∃ R : Nat, r = (R : Int) := ⟨r.toNat, by omega⟩
   obtain ⟨C, hC⟩ : ∃ C : Nat, c = (C : Int) := ⟨c.toNat, by omega⟩
   have hTl := thereL_len k r c w ps kd ver
   have hTa : ∀ (i : Nat) (p : PairB), ps[i]? = some p → (thereL k r c w ps kd ver).getD i [] = datO k r c w p (i : Nat) kd (l.getD i 0) := fun i p h => thereL_at hT h
   have hgs := @soundL_parts k r c w ps kd ver l
   have hdl : ∀ (i : Nat) (p : PairB) (li : Int), (datO k r c w p (i : Nat) kd li).length ≠ 0 → (datO k r c w p (i : Nat) kd li).length = C := fun i p li h => by
     unfold datO at h ⊢
     split
     · rename_i h1; have := (slA_dat hm (hit_slot h1)).2; omega
     · rename_i h1
       rw [if_neg h1] at h
       split
       · rename_i h2; have := (slA_dat hm (hit_slot h2)).2; omega
       · rename_i h2; rw [if_neg h2] at h; exact absurd rfl h
   rw [show k.toNat = K by omega, show r.toNat = RR by omega, show c.toNat = C by omega] at hgs
   generalize soundL k r c w ps kd ver l = RES at *
   generalize thereL k r c w ps kd ver = T at *
   have hbadS : ∀ (i : Nat) (p : PairB), ps[i]? = some p → (sndB k r c w p.2 i kd ver l = false ∨ sndB k r c w p.1 i kd ver l = false) → RES = false := fun i p hp h => by
     cases hr : RES with
     | false => rfl
     | true =>
       have := (hgs.1 hr).1 i p hp
       rcases h with h | h
       · rw [h] at this; exact absurd this.1 (by decide)
       · rw [h] at this; exact absurd this.2 (by decide)
   have hbad : ∀ i, i < T.length → (T.getD i []).length = 0 → RES = false := fun i hi h => by
     cases hr : RES with
     | false => rfl
     | true =>
       have hti : T[i]? = some T[i] := List.getElem?_eq_getElem hi
       have := (hgs.1 hr).2.1 _ (List.mem_of_getElem? hti)
       rw [getD_at hti] at h
       exact absurd h this
   have hgood : (∀ (i : Nat) (p : PairB), ps[i]? = some p → sndB k r c w p.2 i kd ver l = true ∧ sndB k r c w p.1 i kd ver l = true) → (∀ i, i < T.length → (T.getD i []).length ≠ 0) → RES = decide (parT K RR C T = T.drop K) := fun h1 h2 => by
     have h2' : ∀ b ∈ T, b.length ≠ 0 := fun b hb => by
       obtain ⟨j, hj⟩ := List.getElem?_of_mem hb
       have := h2 j (List.getElem?_eq_some_iff.1 hj).1
       rw [getD_at hj] at this
       exact this
     cases hr : RES with
     | true => exact (decide_eq_true (hgs.1 hr).2.2).symm
     | false =>
       cases hd : decide (parT K RR C T = T.drop K) with
       | false => rfl
       | true =>
         have := hgs.2 ⟨h1, h2', of_decide_eq_true hd⟩
         rw [hr] at this
         cases this
   clear hgs
   have hTd : ∀ i, i < T.length → (T.getD i []).length ≠ 0 → (T.getD i []).length = C := fun i hi h => by
     obtain ⟨p, hpi⟩ : ∃ p, ps[i]? = some p := ⟨_, List.getElem?_eq_getElem (by omega)⟩
     rw [hTa i p hpi] at h ⊢
     exact hdl i p _ h
   have hmk := fun m => make_rows m (n := ps.length) (by omega)
   have hVr : RdSl (.tree l.length l.length (intsA l) false) l.length (intsA l ++ []) := ⟨.inr (.inr ⟨_, false, by rw [List.append_nil], Nat.le_refl _⟩)⟩
   have hsame := fun (l' : List Int) (hl' : l'.length ≤ 1000000) => law17_same (.tree l'.length l'.length (intsA l') false) (.tree l.length l.length (intsA l) false) l' l [] [] ⟨.inr (.inr ⟨_, false, by rw [List.append_nil], Nat.le_refl _⟩)⟩ hVr (by omega) (by omega)
   have sV := rd_shift hVr
   have pV := hVr.plain
   have hlN : l.length = ps.length := by omega
   generalize hVV : AV.tree l.length l.length (intsA l) false = VEC at *
   have hl16 : ps.length ≤ 16 := by omega
   replace hVV := Hid.mk hVV
   replace hbadS := Hid.mk hbadS
   replace hbad := Hid.mk hbad
   replace hgood := Hid.mk hgood
   replace hTd := Hid.mk hTd
   replace hTa := Hid.mk hTa
   replace hdl := Hid.mk hdl
   replace hmn := Hid.mk hmn
   replace hml := Hid.mk hml
   replace hpr := Hid.mk hpr
   replace hll := Hid.mk hll
   replace hlv := Hid.mk hlv
   replace hl := Hid.mk hl
   replace hT := Hid.mk hT
   replace hR := Hid.mk hR
   replace hsame := Hid.mk hsame
   have hz0 : thereA T 0 = (List.range ps.length).map fun _ => nilS := by
     unfold thereA
     rw [hTl]
     apply List.map_congr_left
     intro j _
     rw [if_neg (by omega)]
   refine ospec_of_body follows Tryz.func84 (by unfold Tryz.f84; rfl) (by unfold Tryz.f84; simp) onceSo (by unfold Tryz.f84; simp) (by kernel_rfl) ?_; unfold Tryz.f84
   simp only [↓pre, simprocAttr, parV, sx, tys84, onceSo, bne, postU, postA, Int.natCast_zero, Int.cast_ofNat_Int, Int.natCast_one, ww0, ww1, ww2, allocE, put_at, push_at, hf, ho, sr]
   refine call_plain (hro) (by simp only [parV, plQ, *]) ?_; simp only [↓pre, simprocAttr, parV, sx, tys84, onceSo, bne, postU, postA, Int.natCast_zero, Int.cast_ofNat_Int, Int.natCast_one, ww0, ww1, ww2, allocE, put_at, push_at, hf, ho, sR, sV, hrv.rd.len', hmk, sr]; refine call_plain (hvc) (by simp only [parV, plQ, *]) ?_; simp only [↓pre, simprocAttr, parV, sx, tys84, onceSo, bne, postU, postA, Int.natCast_zero, Int.cast_ofNat_Int, Int.natCast_one, ww0, ww1, ww2, allocE, put_at, push_at, hf, ho, sR, sV, hrv.rd.len', hmk, sr]
   rw [codeW_loop]
   rw [← hz0]
   refine loop_intro (fun q e m => ∃ i, q + i = ps.length ∧ e 2 = .tptr 0 [intV k, intV r, intV c, intV w, v] ∧ e 3 = .tptr 0 [intV row, .val (.int .u8 kd), intV ver] ∧ e 5 = RV ∧ e 7 = VEC ∧ e 10 = .sl 0 0 ps.length ps.length true ∧ e 11 = intV (i : Nat) ∧ m.at_ 0 = some ⟨thereA T i, 52, .var, true⟩ ∧ Hid (0 < m.next ∧ ∀ j, j < i → (T.getD j []).length ≠ 0 ∧ ∀ p, ps[j]? = some p → sndB k r c w p.2 j kd ver l = true ∧ sndB k r c w p.1 j kd ver l = true)) ps.length ⟨0, by omega, rfl, rfl, rfl, rfl, rfl, rfl, by simp [push_at, me0], ⟨by simp [push_next, me0], fun j h => by omega⟩⟩ ?_
   rintro q e m ⟨i, hq, e2, e3, e5, e7, e10, e11, hm0, hJ⟩
   replace hq := Hid.mk hq
   by_cases hlt : i < ps.length
   · have hlt' : ((i : Nat) : Int) < ((ps.length : Nat) : Int) := by omega
     have wi := wrap_succ (n := i) (by omega)
     obtain ⟨p, hpi⟩ : ∃ p, ps[i]? = some p := ⟨_, List.getElem?_eq_getElem hlt⟩
     obtain ⟨a, b, xa, xb, ha, hb, hra, hrb2⟩ := hrv.at_ i p hpi
     have hpp := hpr.out p (List.mem_of_getElem? hpi)
     unfold pairB at hpp
     rw [Bool.and_eq_true] at hpp
     have hP0 := slot_Parse_ok k r c w a p.1 xa hra hm hpp.1
     have hP1 := slot_Parse_ok k r c w b p.2 xb hrb2 hm hpp.2
     have fa := rd_fz hra
     have fb := rd_fz hrb2
     have oa := rd_one hra
     have ob := rd_one hrb2
     have pa := hra.plain
     have pb := hrb2.plain
     have hTi := hTa.out i p hpi
     have hbS := hbadS.out i p hpi
     have hAl := thereA_len T i
     have hAi : (thereA T i)[i]? = some nilS := by rw [thereA_at (by omega), if_neg (by omega)]
     have hAp := thereA_put (T := T) (i := i) (by omega)
     obtain ⟨li, hli⟩ : ∃ z, l[i]? = some z := ⟨_, List.getElem?_eq_getElem (by omega)⟩
     have hlia := int_at (x := []) hli
     rw [List.append_nil] at hlia
     have hil : i < l.length := by omega
     rw [show l.getD i 0 = li by rw [List.getD_eq_getElem?_getD, hli]; rfl] at hTi
     have hc1 : datO k r c w p (i : Nat) kd li = if hitS k r c w p.1 (i : Nat) kd li = true then (slotC k r p.1).data else if hitS k r c w p.2 (i : Nat) kd li = true then (slotC k r p.2).data else [] := rfl
     generalize hD1 : (if hitS k r c w p.2 (i : Nat) kd li = true then (slotC k r p.2).data else []) = D1 at hc1
     generalize datO k r c w p (i : Nat) kd li = D2 at *
     rw [hTi] at hAp
     have hb0 : bytesV [] = nilS := rfl
     generalize hA : thereA T i = A at *
     replace hpi := Hid.mk hpi
     replace hpp := Hid.mk hpp
     replace hTi := Hid.mk hTi
     replace hAp := Hid.mk hAp
     replace hAi := Hid.mk hAi
     replace hli := Hid.mk hli
     replace hbS := Hid.mk hbS
     replace hc1 := Hid.mk hc1
     replace hD1 := Hid.mk hD1
     have hiA : i + 1 ≤ A.length := by omega
     replace hAl := Hid.mk hAl
     simp only [↓pre, simprocAttr, parV, sx, tys84, onceSo, bne, postU, postA, Int.natCast_zero, Int.cast_ofNat_Int, Int.natCast_one, ww0, ww1, ww2, allocE, put_at, push_at, hf, ho, e2, e3, e5, e7, e10, e11, hrv.rd.len', hlt', sr]
     rw [codeW_loop]
     refine loop_cut (fun e' m' => e' 2 = .tptr 0 [intV k, intV r, intV c, intV w, v] ∧ e' 3 = .tptr 0 [intV row, .val (.int .u8 kd), intV ver] ∧ e' 5 = RV ∧ e' 7 = VEC ∧ e' 10 = .sl 0 0 ps.length ps.length true ∧ e' 11 = intV (i : Nat) ∧ m'.at_ 0 = some ⟨splice A i [bytesV D2], 52, .var, true⟩ ∧ Hid (0 < m'.next ∧ sndB k r c w p.2 i kd ver l = true ∧ sndB k r c w p.1 i kd ver l = true)) (fun e' m' hR => ?_) ?_
     · obtain ⟨e2, e3, e5, e7, e10, e11, hm0, hnx⟩ := hR
       have hBi : (splice A i [bytesV D2])[i]? = some (bytesV D2) := splice_here (by omega)
       have hbr := bytesV_rd D2
       generalize splice A i [bytesV D2] = SP at *
       by_cases h9 : D2.length = 0
       · have hT := hbad.out i (by omega) (by rw [hTi.out]; exact h9)
         have h9' : ((D2.length : Nat) : Int) = 0 := by omega
         simp only [↓pre, simprocAttr, parV, sx, tys84, onceSo, bne, postU, postA, Int.natCast_zero, Int.cast_ofNat_Int, Int.natCast_one, ww0, ww1, ww2, allocE, put_at, push_at, hf, ho, e2, e3, e5, e7, e10, e11, hm0, addr_slp, hlt, hBi, hbr.len', h9', sr]
         exact ⟨0, by rw [hT, fzT_val]⟩
       · have h9' : ¬ ((D2.length : Nat) : Int) = 0 := by omega
         rw [hAp.out] at hm0
         have hBi2 : (thereA T (i + 1))[i]? = some (bytesV D2) := by rw [← hAp.out]; exact hBi
         have hJ2 : 0 < m'.next ∧ ∀ j, j < i + 1 → (T.getD j []).length ≠ 0 ∧ ∀ p, ps[j]? = some p → sndB k r c w p.2 j kd ver l = true ∧ sndB k r c w p.1 j kd ver l = true := ⟨hnx.out.1, fun j hj => by
           by_cases e : j = i
           · subst e
             refine ⟨by rw [hTi.out]; exact h9, fun p' hp' => ?_⟩
             rw [hpi.out] at hp'
             cases hp'
             exact hnx.out.2
           · exact hJ.out.2 j (by omega)⟩
         replace hJ2 := Hid.mk hJ2
         simp only [↓pre, simprocAttr, parV, sx, tys84, onceSo, bne, postU, postA, Int.natCast_zero, Int.cast_ofNat_Int, Int.natCast_one, ww0, ww1, ww2, allocE, put_at, push_at, hf, ho, e2, e3, e5, e7, e10, e11, hm0, addr_slp, hlt, hBi2, hbr.len', h9', wi, sr]
         exact ⟨q - 1, by have := hq.out; omega, i + 1, by have := hq.out; omega, rfl, rfl, hJ2⟩
     · refine loop_intro (fun n e m => ∃ kk : Nat, n + kk = 2 ∧ e 2 = .tptr 0 [intV k, intV r, intV c, intV w, v] ∧ e 3 = .tptr 0 [intV row, .val (.int .u8 kd), intV ver] ∧ e 5 = RV ∧ e 7 = VEC ∧ e 10 = .sl 0 0 ps.length ps.length true ∧ e 11 = intV (i : Nat) ∧ e 12 = intV (1 - (kk : Nat)) ∧ m.at_ 0 = some ⟨splice A i [bytesV (if kk = 0 then [] else if kk = 1 then D1 else D2)], 52, .var, true⟩ ∧ Hid (0 < m.next ∧ (1 ≤ kk → sndB k r c w p.2 i kd ver l = true) ∧ (2 ≤ kk → sndB k r c w p.1 i kd ver l = true))) 2 ⟨0, rfl, e2, e3, e5, e7, e10, e11, rfl, by rw [if_pos rfl, hb0, splice_same hAi.out]; exact hm0, ⟨hJ.out.1, fun h => by omega, fun h => by omega⟩⟩ ?_
       clear hm0 e2 e3 e5 e7 e10 e11
       rintro n e m ⟨kk, hn, e2, e3, e5, e7, e10, e11, e12, hm0, hK⟩
       obtain rfl | rfl | rfl : kk = 0 ∨ kk = 1 ∨ kk = 2 := by omega
       · replace hn := Hid.mk hn
         rw [if_pos rfl] at hm0
         have e12' : e 12 = .val (.int .i64 1) := e12
         clear e12
         have hR := slA_rd k r c w p.2
         have hsd : isSlot k r c w p.2 = true → (slA k r c w p.2).dv = bytesV (slotC k r p.2).data := fun h => (slA_dat hm h).1
         have hsv : isSlot k r c w p.2 = true → (slA k r c w p.2).vv = .tree (slotC k r p.2).vec.length (slotC k r p.2).vec.length (intsA (slotC k r p.2).vec) false := fun h => slA_vv h
         have hvl : isSlot k r c w p.2 = true → (slotC k r p.2).vec.length ≤ 1000000 := fun h => by have h4 := (vec_ok (slot_ok h).vec).1; have h5 := hmn.out; omega
         have hix := slA_ix k r c w p.2 (i : Nat)
         have hhit : hitS k r c w p.2 (i : Nat) kd li = (isOf k r c w p.2 (i : Nat) && (decide ((slA k r c w p.2).kd = kd) && decide ((slA k r c w p.2).ce = li))) := rfl
         rw [← hix] at hhit
         clear hix
         have htb : toldB k r c w p.2 (i : Nat) kd ver = (isSlot k r c w p.2 && (decide ((slA k r c w p.2).kd = kd) && (decide ((slA k r c w p.2).ix = (i : Nat)) && decide ((slA k r c w p.2).st = ver)))) := rfl
         have hsb : sndB k r c w p.2 i kd ver l = (!(toldB k r c w p.2 (i : Nat) kd ver) || decide ((slotC k r p.2).vec = l)) := rfl
         have hbS1 : sndB k r c w p.2 i kd ver l = false → RES = false := fun h => hbS.out (.inl h)
         have hstp : (hitS k r c w p.2 (i : Nat) kd li = false → D1 = []) ∧ (hitS k r c w p.2 (i : Nat) kd li = true → D1 = (slotC k r p.2).data) := ⟨fun h => by rw [← hD1.out, if_neg (by rw [h]; decide)], fun h => by rw [← hD1.out, if_pos h]⟩
         have hPP := hP1
         skip
         generalize sndB k r c w p.2 i kd ver l = SB at *
         generalize toldB k r c w p.2 (i : Nat) kd ver = TB at *
         generalize hitS k r c w p.2 (i : Nat) kd li = H at *
         generalize slA k r c w p.2 = s at *
         generalize isSlot k r c w p.2 = b0 at *
         generalize slotC k r p.2 = sc at *
         obtain ⟨⟨n1, y1, g1⟩, ⟨n2, y2, g2⟩⟩ := hR
         have f1 := rd_fz g1
         have f2 := rd_fz g2
         have q1 := rd_one g1
         have q2 := rd_one g2
         have t1 := rd_shift g1
         have t2 := rd_shift g2
         have p1 := g1.plain
         have k2 := rd_okA g2
         have c2 := rd_cells g2
         simp only [SlA.cells] at hPP
         generalize hOLD : bytesV ([] : List UInt8) = OV at hm0
         replace hsd := Hid.mk hsd
         replace hsv := Hid.mk hsv
         replace hvl := Hid.mk hvl
         replace hhit := Hid.mk hhit
         replace htb := Hid.mk htb
         replace hsb := Hid.mk hsb
         replace hbS1 := Hid.mk hbS1
         replace hOLD := Hid.mk hOLD
         replace hstp := Hid.mk hstp
         have hspl := splice_length A i [OV] hiA
         have wk : IntKind.i64.wrap (1 - 1) = 0 := by decide
         simp only [↓pre, simprocAttr, parV, sx, tys84, onceSo, bne, postU, postA, Int.natCast_zero, Int.cast_ofNat_Int, Int.natCast_one, ww0, ww1, ww2, allocE, put_at, push_at, hf, ho, storeE, e2, e3, e5, e7, e10, e11, e12', f1, f2, q1, q2, t1, t2, hrv.rd.addr', hlt, hb, fb, ob, sr]
         (refine call_pure (hPP) (by simp only [parV, plQ, *]) (by intro k; simp only [sq, sr, *]) ?_); simp only [↓pre, simprocAttr, parV, sx, tys84, onceSo, bne, postU, postA, Int.natCast_zero, Int.cast_ofNat_Int, Int.natCast_one, ww0, ww1, ww2, allocE, put_at, push_at, hf, ho, storeE, e2, e3, e5, e7, e10, e11, e12', f1, f2, q1, q2, t1, t2, sr]
         refine contW_fixed (by kernel_rfl) ?_
         simp only [↓pre, simprocAttr, parV, sx, tys84, onceSo, bne, postU, postA, Int.natCast_zero, Int.cast_ofNat_Int, Int.natCast_one, ww0, ww1, ww2, allocE, put_at, push_at, hf, ho, storeE, e2, e3, e5, e7, e10, e11, e12', f1, f2, q1, q2, t1, t2, sr]
         refine contW_fixed (by kernel_rfl) ?_
         simp only [↓pre, simprocAttr, parV, sx, tys84, onceSo, bne, postU, postA, Int.natCast_zero, Int.cast_ofNat_Int, Int.natCast_one, ww0, ww1, ww2, allocE, put_at, push_at, hf, ho, storeE, e2, e3, e5, e7, e10, e11, e12', f1, f2, q1, q2, t1, t2, sr]
         generalize hM : Mem.put (Mem.push m _) _ _ = M
         have hMb : M.at_ m.next = some ⟨[.val (.int .u8 s.kd), .val (.int .i64 s.ix), .val (.int .i64 s.ce), .val (.int .i64 s.st), s.vv, s.dv], 127, .var, true⟩ := by rw [← hM]; simp [put_at, push_at]
         have hM0 : M.at_ 0 = some ⟨splice A i [OV], 52, .var, true⟩ := by
           have := hK.out.1
           rw [← hM, put_at, if_neg (by omega), push_at, if_neg (by omega)]
           exact hm0
         have hMn : 0 < M.next := by rw [← hM, put_next, push_next]; omega
         clear hM
         generalize m.next = B at *
         replace hMn := Hid.mk hMn
         have hst : ∀ q, storeE Tryz.prog M 52 q s.dv (.ptr 0 i) = outV undefA (M.put 0 (some ⟨splice A i [s.dv], 52, .var, true⟩)) := by
           have hs1 : szE Tryz.prog 52 = some 1 := by kernel_rfl
           have hsl : i + 1 ≤ (splice A i [OV]).length := by rw [hspl]; exact hiA
           intro q
           have hsl2 : i < (splice A i [OV]).length := hsl
           simp only [storeE, hM0, hs1, k2, c2, Option.bind_some, List.length_cons, List.length_nil, Nat.zero_add, hsl, true_and, and_true, if_true, Nat.lt_one_iff, Nat.zero_lt_one]
           rw [splice_twice (by omega)]
         have hno : H = false → M.at_ 0 = some ⟨splice A i [bytesV D1], 52, .var, true⟩ := fun h => by rw [hstp.out.1 h, hOLD.out]; exact hM0
         replace hno := Hid.mk hno
         cases b0 with
         | false =>
           have hH : H = false := by rw [hhit.out]; rfl
           have hS : SB = true := by rw [hsb.out, htb.out]; rfl
           have hM1 := hno.out hH
           simp only [↓pre, simprocAttr, parV, sx, tys84, onceSo, bne, postU, postA, Int.natCast_zero, Int.cast_ofNat_Int, Int.natCast_one, ww0, ww1, ww2, allocE, put_at, push_at, hf, ho, e2, e3, e5, e7, e10, e11, e12', f1, f2, q1, q2, t1, t2, hMb, wk, sr]
           exact ⟨n - 1, by have := hn.out; omega, 1, by have := hn.out; omega, rfl, by rw [if_neg (by decide), if_pos rfl]; exact hM1, ⟨hMn.out, fun _ => hS, fun h => by omega⟩⟩
         | true =>
           by_cases d1 : s.kd = kd
           · by_cases d2 : s.ix = (i : Nat)
             · by_cases d4 : s.st = ver
               · have hTB : TB = true := by rw [htb.out, decide_eq_true d1, decide_eq_true d2, decide_eq_true d4]; rfl
                 have hvv := hsv.out rfl
                 have hsm := hsame.out sc.vec (hvl.out rfl)
                 rw [← hvv] at hsm
                 by_cases d5 : sc.vec = l
                 · have hS : SB = true := by rw [hsb.out, decide_eq_true d5, Bool.or_true]
                   rw [show sameI sc.vec l = true from decide_eq_true d5] at hsm
                   replace d5 := Hid.mk d5
                   replace hvv := Hid.mk hvv
                   by_cases d3 : s.ce = li
                   · have hH : H = true := by rw [hhit.out, decide_eq_true d1, decide_eq_true d2, decide_eq_true d3]; rfl
                     have hsdv := hsd.out rfl
                     have hN1 := hstp.out.2 hH
                     simp only [↓pre, simprocAttr, parV, sx, tys84, onceSo, bne, postU, postA, Int.natCast_zero, Int.cast_ofNat_Int, Int.natCast_one, ww0, ww1, ww2, allocE, put_at, push_at, hf, ho, e2, e3, e5, e7, e10, e11, e12', f1, f2, q1, q2, t1, t2, hMb, wk, d1, d2, d3, d4, sr]
                     refine call_plain (hsm) (by simp only [parV, plQ, *]) ?_; simp only [↓pre, simprocAttr, parV, sx, tys84, onceSo, bne, postU, postA, Int.natCast_zero, Int.cast_ofNat_Int, Int.natCast_one, ww0, ww1, ww2, allocE, put_at, push_at, hf, ho, e2, e3, e5, e7, e10, e11, e12', f1, f2, q1, q2, t1, t2, hMb, wk, d1, d2, d3, d4, hVr.addr', hil, hlia, addr_slp, hlt, hst, sr]
                     exact ⟨n - 1, by have := hn.out; omega, 1, by have := hn.out; omega, rfl, by rw [if_neg (by decide), if_pos rfl]; rw [hN1, ← hsdv], ⟨hMn.out, fun _ => hS, fun h => by omega⟩⟩
                   · have hH : H = false := by rw [hhit.out, decide_eq_false d3]; simp
                     have hM1 := hno.out hH
                     simp only [↓pre, simprocAttr, parV, sx, tys84, onceSo, bne, postU, postA, Int.natCast_zero, Int.cast_ofNat_Int, Int.natCast_one, ww0, ww1, ww2, allocE, put_at, push_at, hf, ho, e2, e3, e5, e7, e10, e11, e12', f1, f2, q1, q2, t1, t2, hMb, wk, d1, d2, d4, sr]
                     refine call_plain (hsm) (by simp only [parV, plQ, *]) ?_; simp only [↓pre, simprocAttr, parV, sx, tys84, onceSo, bne, postU, postA, Int.natCast_zero, Int.cast_ofNat_Int, Int.natCast_one, ww0, ww1, ww2, allocE, put_at, push_at, hf, ho, e2, e3, e5, e7, e10, e11, e12', f1, f2, q1, q2, t1, t2, hMb, wk, d1, d2, d3, d4, hVr.addr', hil, hlia, sr]
                     exact ⟨n - 1, by have := hn.out; omega, 1, by have := hn.out; omega, rfl, by rw [if_neg (by decide), if_pos rfl]; exact hM1, ⟨hMn.out, fun _ => hS, fun h => by omega⟩⟩
                 · have hS : SB = false := by rw [hsb.out, hTB, decide_eq_false d5]; rfl
                   have hT := hbS1.out hS
                   rw [show sameI sc.vec l = false from decide_eq_false d5] at hsm
                   replace d5 := Hid.mk d5
                   replace hvv := Hid.mk hvv
                   simp only [↓pre, simprocAttr, parV, sx, tys84, onceSo, bne, postU, postA, Int.natCast_zero, Int.cast_ofNat_Int, Int.natCast_one, ww0, ww1, ww2, allocE, put_at, push_at, hf, ho, e2, e3, e5, e7, e10, e11, e12', f1, f2, q1, q2, t1, t2, hMb, wk, d1, d2, d4, sr]
                   refine call_plain (hsm) (by simp only [parV, plQ, *]) ?_; simp only [↓pre, simprocAttr, parV, sx, tys84, onceSo, bne, postU, postA, Int.natCast_zero, Int.cast_ofNat_Int, Int.natCast_one, ww0, ww1, ww2, allocE, put_at, push_at, hf, ho, e2, e3, e5, e7, e10, e11, e12', f1, f2, q1, q2, t1, t2, hMb, wk, d1, d2, d4, sr]
                   exact ⟨0, by rw [hT, fzT_val]⟩
               · have hTB : TB = false := by rw [htb.out, decide_eq_false d4]; simp
                 have hS : SB = true := by rw [hsb.out, hTB]; rfl
                 by_cases d3 : s.ce = li
                 · have hH : H = true := by rw [hhit.out, decide_eq_true d1, decide_eq_true d2, decide_eq_true d3]; rfl
                   have hsdv := hsd.out rfl
                   have hN1 := hstp.out.2 hH
                   simp only [↓pre, simprocAttr, parV, sx, tys84, onceSo, bne, postU, postA, Int.natCast_zero, Int.cast_ofNat_Int, Int.natCast_one, ww0, ww1, ww2, allocE, put_at, push_at, hf, ho, e2, e3, e5, e7, e10, e11, e12', f1, f2, q1, q2, t1, t2, hMb, wk, d1, d2, d3, d4, hVr.addr', hil, hlia, addr_slp, hlt, hst, sr]
                   exact ⟨n - 1, by have := hn.out; omega, 1, by have := hn.out; omega, rfl, by rw [if_neg (by decide), if_pos rfl]; rw [hN1, ← hsdv], ⟨hMn.out, fun _ => hS, fun h => by omega⟩⟩
                 · have hH : H = false := by rw [hhit.out, decide_eq_false d3]; simp
                   have hM1 := hno.out hH
                   simp only [↓pre, simprocAttr, parV, sx, tys84, onceSo, bne, postU, postA, Int.natCast_zero, Int.cast_ofNat_Int, Int.natCast_one, ww0, ww1, ww2, allocE, put_at, push_at, hf, ho, e2, e3, e5, e7, e10, e11, e12', f1, f2, q1, q2, t1, t2, hMb, wk, d1, d2, d3, d4, hVr.addr', hil, hlia, sr]
                   exact ⟨n - 1, by have := hn.out; omega, 1, by have := hn.out; omega, rfl, by rw [if_neg (by decide), if_pos rfl]; exact hM1, ⟨hMn.out, fun _ => hS, fun h => by omega⟩⟩
             · have hH : H = false := by rw [hhit.out, decide_eq_false d2]; simp
               have hS : SB = true := by rw [hsb.out, htb.out, decide_eq_false d2]; simp
               have hM1 := hno.out hH
               simp only [↓pre, simprocAttr, parV, sx, tys84, onceSo, bne, postU, postA, Int.natCast_zero, Int.cast_ofNat_Int, Int.natCast_one, ww0, ww1, ww2, allocE, put_at, push_at, hf, ho, e2, e3, e5, e7, e10, e11, e12', f1, f2, q1, q2, t1, t2, hMb, wk, d1, d2, sr]
               exact ⟨n - 1, by have := hn.out; omega, 1, by have := hn.out; omega, rfl, by rw [if_neg (by decide), if_pos rfl]; exact hM1, ⟨hMn.out, fun _ => hS, fun h => by omega⟩⟩
           · have hH : H = false := by rw [hhit.out, decide_eq_false d1]; simp
             have hS : SB = true := by rw [hsb.out, htb.out, decide_eq_false d1]; simp
             have hM1 := hno.out hH
             simp only [↓pre, simprocAttr, parV, sx, tys84, onceSo, bne, postU, postA, Int.natCast_zero, Int.cast_ofNat_Int, Int.natCast_one, ww0, ww1, ww2, allocE, put_at, push_at, hf, ho, e2, e3, e5, e7, e10, e11, e12', f1, f2, q1, q2, t1, t2, hMb, wk, d1, sr]
             exact ⟨n - 1, by have := hn.out; omega, 1, by have := hn.out; omega, rfl, by rw [if_neg (by decide), if_pos rfl]; exact hM1, ⟨hMn.out, fun _ => hS, fun h => by omega⟩⟩
       · replace hn := Hid.mk hn
         rw [if_neg (by decide), if_pos rfl] at hm0
         have e12' : e 12 = .val (.int .i64 0) := e12
         clear e12
         have hR := slA_rd k r c w p.1
         have hsd : isSlot k r c w p.1 = true → (slA k r c w p.1).dv = bytesV (slotC k r p.1).data := fun h => (slA_dat hm h).1
         have hsv : isSlot k r c w p.1 = true → (slA k r c w p.1).vv = .tree (slotC k r p.1).vec.length (slotC k r p.1).vec.length (intsA (slotC k r p.1).vec) false := fun h => slA_vv h
         have hvl : isSlot k r c w p.1 = true → (slotC k r p.1).vec.length ≤ 1000000 := fun h => by have h4 := (vec_ok (slot_ok h).vec).1; have h5 := hmn.out; omega
         have hix := slA_ix k r c w p.1 (i : Nat)
         have hhit : hitS k r c w p.1 (i : Nat) kd li = (isOf k r c w p.1 (i : Nat) && (decide ((slA k r c w p.1).kd = kd) && decide ((slA k r c w p.1).ce = li))) := rfl
         rw [← hix] at hhit
         clear hix
         have htb : toldB k r c w p.1 (i : Nat) kd ver = (isSlot k r c w p.1 && (decide ((slA k r c w p.1).kd = kd) && (decide ((slA k r c w p.1).ix = (i : Nat)) && decide ((slA k r c w p.1).st = ver)))) := rfl
         have hsb : sndB k r c w p.1 i kd ver l = (!(toldB k r c w p.1 (i : Nat) kd ver) || decide ((slotC k r p.1).vec = l)) := rfl
         have hbS1 : sndB k r c w p.1 i kd ver l = false → RES = false := fun h => hbS.out (.inr h)
         have hstp : (hitS k r c w p.1 (i : Nat) kd li = false → D2 = D1) ∧ (hitS k r c w p.1 (i : Nat) kd li = true → D2 = (slotC k r p.1).data) := ⟨fun h => by rw [hc1.out, if_neg (by rw [h]; decide)], fun h => by rw [hc1.out, if_pos h]⟩
         have hPP := hP0
         have hs2 := Hid.mk (hK.out.2.1 (by decide))
         generalize sndB k r c w p.1 i kd ver l = SB at *
         generalize toldB k r c w p.1 (i : Nat) kd ver = TB at *
         generalize hitS k r c w p.1 (i : Nat) kd li = H at *
         generalize slA k r c w p.1 = s at *
         generalize isSlot k r c w p.1 = b0 at *
         generalize slotC k r p.1 = sc at *
         obtain ⟨⟨n1, y1, g1⟩, ⟨n2, y2, g2⟩⟩ := hR
         have f1 := rd_fz g1
         have f2 := rd_fz g2
         have q1 := rd_one g1
         have q2 := rd_one g2
         have t1 := rd_shift g1
         have t2 := rd_shift g2
         have p1 := g1.plain
         have k2 := rd_okA g2
         have c2 := rd_cells g2
         simp only [SlA.cells] at hPP
         generalize hOLD : bytesV (D1 : List UInt8) = OV at hm0
         replace hsd := Hid.mk hsd
         replace hsv := Hid.mk hsv
         replace hvl := Hid.mk hvl
         replace hhit := Hid.mk hhit
         replace htb := Hid.mk htb
         replace hsb := Hid.mk hsb
         replace hbS1 := Hid.mk hbS1
         replace hOLD := Hid.mk hOLD
         replace hstp := Hid.mk hstp
         have hspl := splice_length A i [OV] hiA
         have wk : IntKind.i64.wrap (0 - 1) = -1 := by decide
         simp only [↓pre, simprocAttr, parV, sx, tys84, onceSo, bne, postU, postA, Int.natCast_zero, Int.cast_ofNat_Int, Int.natCast_one, ww0, ww1, ww2, allocE, put_at, push_at, hf, ho, storeE, e2, e3, e5, e7, e10, e11, e12', f1, f2, q1, q2, t1, t2, hrv.rd.addr', hlt, ha, fa, oa, sr]
         (refine call_pure (hPP) (by simp only [parV, plQ, *]) (by intro k; simp only [sq, sr, *]) ?_); simp only [↓pre, simprocAttr, parV, sx, tys84, onceSo, bne, postU, postA, Int.natCast_zero, Int.cast_ofNat_Int, Int.natCast_one, ww0, ww1, ww2, allocE, put_at, push_at, hf, ho, storeE, e2, e3, e5, e7, e10, e11, e12', f1, f2, q1, q2, t1, t2, sr]
         refine contW_fixed (by kernel_rfl) ?_
         simp only [↓pre, simprocAttr, parV, sx, tys84, onceSo, bne, postU, postA, Int.natCast_zero, Int.cast_ofNat_Int, Int.natCast_one, ww0, ww1, ww2, allocE, put_at, push_at, hf, ho, storeE, e2, e3, e5, e7, e10, e11, e12', f1, f2, q1, q2, t1, t2, sr]
         refine contW_fixed (by kernel_rfl) ?_
         simp only [↓pre, simprocAttr, parV, sx, tys84, onceSo, bne, postU, postA, Int.natCast_zero, Int.cast_ofNat_Int, Int.natCast_one, ww0, ww1, ww2, allocE, put_at, push_at, hf, ho, storeE, e2, e3, e5, e7, e10, e11, e12', f1, f2, q1, q2, t1, t2, sr]
         generalize hM : Mem.put (Mem.push m _) _ _ = M
         have hMb : M.at_ m.next = some ⟨[.val (.int .u8 s.kd), .val (.int .i64 s.ix), .val (.int .i64 s.ce), .val (.int .i64 s.st), s.vv, s.dv], 127, .var, true⟩ := by rw [← hM]; simp [put_at, push_at]
         have hM0 : M.at_ 0 = some ⟨splice A i [OV], 52, .var, true⟩ := by
           have := hK.out.1
           rw [← hM, put_at, if_neg (by omega), push_at, if_neg (by omega)]
           exact hm0
         have hMn : 0 < M.next := by rw [← hM, put_next, push_next]; omega
         clear hM
         generalize m.next = B at *
         replace hMn := Hid.mk hMn
         have hst : ∀ q, storeE Tryz.prog M 52 q s.dv (.ptr 0 i) = outV undefA (M.put 0 (some ⟨splice A i [s.dv], 52, .var, true⟩)) := by
           have hs1 : szE Tryz.prog 52 = some 1 := by kernel_rfl
           have hsl : i + 1 ≤ (splice A i [OV]).length := by rw [hspl]; exact hiA
           intro q
           have hsl2 : i < (splice A i [OV]).length := hsl
           simp only [storeE, hM0, hs1, k2, c2, Option.bind_some, List.length_cons, List.length_nil, Nat.zero_add, hsl, true_and, and_true, if_true, Nat.lt_one_iff, Nat.zero_lt_one]
           rw [splice_twice (by omega)]
         have hno : H = false → M.at_ 0 = some ⟨splice A i [bytesV D2], 52, .var, true⟩ := fun h => by rw [hstp.out.1 h, hOLD.out]; exact hM0
         replace hno := Hid.mk hno
         cases b0 with
         | false =>
           have hH : H = false := by rw [hhit.out]; rfl
           have hS : SB = true := by rw [hsb.out, htb.out]; rfl
           have hM1 := hno.out hH
           simp only [↓pre, simprocAttr, parV, sx, tys84, onceSo, bne, postU, postA, Int.natCast_zero, Int.cast_ofNat_Int, Int.natCast_one, ww0, ww1, ww2, allocE, put_at, push_at, hf, ho, e2, e3, e5, e7, e10, e11, e12', f1, f2, q1, q2, t1, t2, hMb, wk, sr]
           exact ⟨n - 1, by have := hn.out; omega, 2, by have := hn.out; omega, rfl, by rw [if_neg (by decide), if_neg (by decide)]; exact hM1, ⟨hMn.out, fun _ => hs2.out, fun _ => hS⟩⟩
         | true =>
           by_cases d1 : s.kd = kd
           · by_cases d2 : s.ix = (i : Nat)
             · by_cases d4 : s.st = ver
               · have hTB : TB = true := by rw [htb.out, decide_eq_true d1, decide_eq_true d2, decide_eq_true d4]; rfl
                 have hvv := hsv.out rfl
                 have hsm := hsame.out sc.vec (hvl.out rfl)
                 rw [← hvv] at hsm
                 by_cases d5 : sc.vec = l
                 · have hS : SB = true := by rw [hsb.out, decide_eq_true d5, Bool.or_true]
                   rw [show sameI sc.vec l = true from decide_eq_true d5] at hsm
                   replace d5 := Hid.mk d5
                   replace hvv := Hid.mk hvv
                   by_cases d3 : s.ce = li
                   · have hH : H = true := by rw [hhit.out, decide_eq_true d1, decide_eq_true d2, decide_eq_true d3]; rfl
                     have hsdv := hsd.out rfl
                     have hN1 := hstp.out.2 hH
                     simp only [↓pre, simprocAttr, parV, sx, tys84, onceSo, bne, postU, postA, Int.natCast_zero, Int.cast_ofNat_Int, Int.natCast_one, ww0, ww1, ww2, allocE, put_at, push_at, hf, ho, e2, e3, e5, e7, e10, e11, e12', f1, f2, q1, q2, t1, t2, hMb, wk, d1, d2, d3, d4, sr]
                     refine call_plain (hsm) (by simp only [parV, plQ, *]) ?_; simp only [↓pre, simprocAttr, parV, sx, tys84, onceSo, bne, postU, postA, Int.natCast_zero, Int.cast_ofNat_Int, Int.natCast_one, ww0, ww1, ww2, allocE, put_at, push_at, hf, ho, e2, e3, e5, e7, e10, e11, e12', f1, f2, q1, q2, t1, t2, hMb, wk, d1, d2, d3, d4, hVr.addr', hil, hlia, addr_slp, hlt, hst, sr]
                     exact ⟨n - 1, by have := hn.out; omega, 2, by have := hn.out; omega, rfl, by rw [if_neg (by decide), if_neg (by decide)]; rw [hN1, ← hsdv], ⟨hMn.out, fun _ => hs2.out, fun _ => hS⟩⟩
                   · have hH : H = false := by rw [hhit.out, decide_eq_false d3]; simp
                     have hM1 := hno.out hH
                     simp only [↓pre, simprocAttr, parV, sx, tys84, onceSo, bne, postU, postA, Int.natCast_zero, Int.cast_ofNat_Int, Int.natCast_one, ww0, ww1, ww2, allocE, put_at, push_at, hf, ho, e2, e3, e5, e7, e10, e11, e12', f1, f2, q1, q2, t1, t2, hMb, wk, d1, d2, d4, sr]
                     refine call_plain (hsm) (by simp only [parV, plQ, *]) ?_; simp only [↓pre, simprocAttr, parV, sx, tys84, onceSo, bne, postU, postA, Int.natCast_zero, Int.cast_ofNat_Int, Int.natCast_one, ww0, ww1, ww2, allocE, put_at, push_at, hf, ho, e2, e3, e5, e7, e10, e11, e12', f1, f2, q1, q2, t1, t2, hMb, wk, d1, d2, d3, d4, hVr.addr', hil, hlia, sr]
                     exact ⟨n - 1, by have := hn.out; omega, 2, by have := hn.out; omega, rfl, by rw [if_neg (by decide), if_neg (by decide)]; exact hM1, ⟨hMn.out, fun _ => hs2.out, fun _ => hS⟩⟩
                 · have hS : SB = false := by rw [hsb.out, hTB, decide_eq_false d5]; rfl
                   have hT := hbS1.out hS
                   rw [show sameI sc.vec l = false from decide_eq_false d5] at hsm
                   replace d5 := Hid.mk d5
                   replace hvv := Hid.mk hvv
                   simp only [↓pre, simprocAttr, parV, sx, tys84, onceSo, bne, postU, postA, Int.natCast_zero, Int.cast_ofNat_Int, Int.natCast_one, ww0, ww1, ww2, allocE, put_at, push_at, hf, ho, e2, e3, e5, e7, e10, e11, e12', f1, f2, q1, q2, t1, t2, hMb, wk, d1, d2, d4, sr]
                   refine call_plain (hsm) (by simp only [parV, plQ, *]) ?_; simp only [↓pre, simprocAttr, parV, sx, tys84, onceSo, bne, postU, postA, Int.natCast_zero, Int.cast_ofNat_Int, Int.natCast_one, ww0, ww1, ww2, allocE, put_at, push_at, hf, ho, e2, e3, e5, e7, e10, e11, e12', f1, f2, q1, q2, t1, t2, hMb, wk, d1, d2, d4, sr]
                   exact ⟨0, by rw [hT, fzT_val]⟩
               · have hTB : TB = false := by rw [htb.out, decide_eq_false d4]; simp
                 have hS : SB = true := by rw [hsb.out, hTB]; rfl
                 by_cases d3 : s.ce = li
                 · have hH : H = true := by rw [hhit.out, decide_eq_true d1, decide_eq_true d2, decide_eq_true d3]; rfl
                   have hsdv := hsd.out rfl
                   have hN1 := hstp.out.2 hH
                   simp only [↓pre, simprocAttr, parV, sx, tys84, onceSo, bne, postU, postA, Int.natCast_zero, Int.cast_ofNat_Int, Int.natCast_one, ww0, ww1, ww2, allocE, put_at, push_at, hf, ho, e2, e3, e5, e7, e10, e11, e12', f1, f2, q1, q2, t1, t2, hMb, wk, d1, d2, d3, d4, hVr.addr', hil, hlia, addr_slp, hlt, hst, sr]
                   exact ⟨n - 1, by have := hn.out; omega, 2, by have := hn.out; omega, rfl, by rw [if_neg (by decide), if_neg (by decide)]; rw [hN1, ← hsdv], ⟨hMn.out, fun _ => hs2.out, fun _ => hS⟩⟩
                 · have hH : H = false := by rw [hhit.out, decide_eq_false d3]; simp
                   have hM1 := hno.out hH
                   simp only [↓pre, simprocAttr, parV, sx, tys84, onceSo, bne, postU, postA, Int.natCast_zero, Int.cast_ofNat_Int, Int.natCast_one, ww0, ww1, ww2, allocE, put_at, push_at, hf, ho, e2, e3, e5, e7, e10, e11, e12', f1, f2, q1, q2, t1, t2, hMb, wk, d1, d2, d3, d4, hVr.addr', hil, hlia, sr]
                   exact ⟨n - 1, by have := hn.out; omega, 2, by have := hn.out; omega, rfl, by rw [if_neg (by decide), if_neg (by decide)]; exact hM1, ⟨hMn.out, fun _ => hs2.out, fun _ => hS⟩⟩
             · have hH : H = false := by rw [hhit.out, decide_eq_false d2]; simp
               have hS : SB = true := by rw [hsb.out, htb.out, decide_eq_false d2]; simp
               have hM1 := hno.out hH
               simp only [↓pre, simprocAttr, parV, sx, tys84, onceSo, bne, postU, postA, Int.natCast_zero, Int.cast_ofNat_Int, Int.natCast_one, ww0, ww1, ww2, allocE, put_at, push_at, hf, ho, e2, e3, e5, e7, e10, e11, e12', f1, f2, q1, q2, t1, t2, hMb, wk, d1, d2, sr]
               exact ⟨n - 1, by have := hn.out; omega, 2, by have := hn.out; omega, rfl, by rw [if_neg (by decide), if_neg (by decide)]; exact hM1, ⟨hMn.out, fun _ => hs2.out, fun _ => hS⟩⟩
           · have hH : H = false := by rw [hhit.out, decide_eq_false d1]; simp
             have hS : SB = true := by rw [hsb.out, htb.out, decide_eq_false d1]; simp
             have hM1 := hno.out hH
             simp only [↓pre, simprocAttr, parV, sx, tys84, onceSo, bne, postU, postA, Int.natCast_zero, Int.cast_ofNat_Int, Int.natCast_one, ww0, ww1, ww2, allocE, put_at, push_at, hf, ho, e2, e3, e5, e7, e10, e11, e12', f1, f2, q1, q2, t1, t2, hMb, wk, d1, sr]
             exact ⟨n - 1, by have := hn.out; omega, 2, by have := hn.out; omega, rfl, by rw [if_neg (by decide), if_neg (by decide)]; exact hM1, ⟨hMn.out, fun _ => hs2.out, fun _ => hS⟩⟩
       · rw [if_neg (by decide), if_neg (by decide)] at hm0
         have e12' : e 12 = .val (.int .i64 (-1)) := e12
         clear e12
         have hfin : 0 < m.next ∧ sndB k r c w p.2 i kd ver l = true ∧ sndB k r c w p.1 i kd ver l = true := ⟨hK.out.1, hK.out.2.1 (by decide), hK.out.2.2 (by decide)⟩
         replace hfin := Hid.mk hfin
         simp only [↓pre, simprocAttr, parV, sx, tys84, onceSo, bne, postU, postA, Int.natCast_zero, Int.cast_ofNat_Int, Int.natCast_one, ww0, ww1, ww2, allocE, put_at, push_at, hf, ho, e2, e3, e5, e7, e10, e11, e12', sr]
         exact ⟨hm0, hfin⟩
   · have hlt' : ¬ ((i : Nat) : Int) < ((ps.length : Nat) : Int) := by omega
     have hi : i = ps.length := by have := hq.out; omega
     subst hi
     have hall := hJ.out.2
     have hlC : ∀ b ∈ T, b.length = C := fun b hb => by
       obtain ⟨j, hj⟩ := List.getElem?_of_mem hb
       have hjl := (List.getElem?_eq_some_iff.1 hj).1
       have := hTd.out j hjl (hall j (by omega)).1
       rw [getD_at hj] at this
       exact this
     have hT := hgood.out (fun j p hp => (hall j (List.getElem?_eq_some_iff.1 hp).1).2 p hp) fun j hj => (hall j (by omega)).1
     rw [← hTl] at hm0 e10
     have hHas : HasF m (.sl 0 0 T.length T.length true) T.length (thereA T T.length) := ⟨.inr ⟨0, 0, T.length, true, _, rfl, hm0, .inr ⟨rfl, thereA_plain _ _⟩, rfl, Nat.le_refl _⟩⟩
     obtain ⟨av, hlend, hav⟩ := hHas.lend 2
     have hve := codec_Verify av K RR C T _ (thereA_rows T av hav) (by have := hl.out; omega) hlC (by have := hml.out; omega) (by have := hml.out; omega) (by have := hml.out; omega) (by have := hml.out; omega) (by have := hml.out; omega)
     have hlends : lends 3 m [intV k, intV r, .sl 0 0 T.length T.length true] = some [intV (K : Nat), intV (RR : Nat), av] := by
       rw [hK, hRR]
       simp only [lends, hlend, Option.bind_some, Option.map_some]
       rw [(plain_lend 3 (intV (K : Nat)) rfl).1, (plain_lend 3 (intV (RR : Nat)) rfl).1]
       rfl
     simp only [intV] at hlends hve
     replace hall := Hid.mk hall
     replace hT := Hid.mk hT
     simp only [↓pre, simprocAttr, parV, sx, tys84, onceSo, bne, postU, postA, Int.natCast_zero, Int.cast_ofNat_Int, Int.natCast_one, ww0, ww1, ww2, allocE, put_at, push_at, hf, ho, e2, e3, e5, e7, e10, e11, hrv.rd.len', hlt', sr]
     refine call_lent hve hlends rfl rfl ?_
     clear hve
     generalize decide (parT K RR C T = List.drop K T) = D at *
     cases D with
     | true =>
       simp only [↓pre, simprocAttr, parV, sx, tys84, onceSo, bne, postU, postA, Int.natCast_zero, Int.cast_ofNat_Int, Int.natCast_one, ww0, ww1, ww2, allocE, put_at, push_at, hf, ho, e2, e3, e5, e7, e10, e11, sr]
       exact ⟨0, by rw [hT.out, fzT_val]⟩
     | false =>
       simp only [↓pre, simprocAttr, parV, sx, tys84, onceSo, bne, postU, postA, Int.natCast_zero, Int.cast_ofNat_Int, Int.natCast_one, ww0, ww1, ww2, allocE, put_at, push_at, hf, ho, e2, e3, e5, e7, e10, e11, sr]
       exact ⟨0, by rw [hT.out, fzT_val]⟩
section
variable {k r c w : Int} {ps : List PairB} {kd ver : Int}
theorem toldN_none : ∀ (n : Nat), toldN k r c w ps kd ver n = none → ∀ i, i < n → told1 k r c w (ps.getD i ([], [])) (i : Nat) kd ver = none
 | 0, _, i, hi => by omega
 | n + 1, h, i, hi => by
   unfold toldN at h
   cases h1 : toldN k r c w ps kd ver n with
   | some l => rw [h1] at h; cases h
   | none =>
     rw [h1] at h
     by_cases e : i = n
     · subst e; exact h
     · exact toldN_none n h1 i (by omega)
theorem isSlot_nil (hm : mayB k r c w = true) : isSlot k r c w [] = false := by
 have hmn := may_n hm
 unfold isSlot
 rw [decide_eq_false (by unfold sizeI; simp; omega)]
 rfl
theorem told1_nil (hm : mayB k r c w = true) (i : Nat) : told1 k r c w ([], []) (i : Nat) kd ver = none := by
 have h := isSlot_nil hm
 unfold told1 toldB
 simp [h]
theorem datO_nil (hm : mayB k r c w = true) (i : Nat) (v : Int) : datO k r c w ([], []) (i : Nat) kd v = [] := by
 refine List.eq_nil_of_length_eq_zero (Decidable.by_contra fun h => ?_)
 have hb := isSlot_nil hm
 unfold datO at h
 split at h
 · rename_i h1
   have := hit_slot h1
   simp only at this
   rw [hb] at this
   cases this
 · exact h rfl
theorem tel_gone {wl : List Bool} : ∀ (n : Nat), (∀ i, i < n → tellB k r c w (ps.getD i ([], [])) i kd ver = true → wipB wl i = true) → telN k r c w ps kd ver n ≤ goneN wl n
 | 0, _ => Nat.le_refl _
 | n + 1, h => by
   have ih := tel_gone (wl := wl) n fun i hi => h i (by omega)
   rw [goneN_succ]
   unfold telN
   split
   · rename_i h1
     rw [if_pos (h n (by omega) h1)]
     omega
   · omega
theorem there_gone {T : List (List UInt8)} {wl : List Bool} : ∀ (n : Nat), (∀ i, i < n → wipB wl i = false → (T.getD i []).length ≠ 0) → n ≤ (thereN T n).length + goneN wl n
 | 0, _ => Nat.zero_le _
 | n + 1, h => by
   have ih := there_gone (T := T) (wl := wl) n fun i hi => h i (by omega)
   rw [thereN_succ, List.length_append, goneN_succ]
   cases hw : wipB wl n with
   | true => simp; omega
   | false =>
     rw [if_pos (h n (by omega) hw)]
     simp
     omega
theorem wiped_read (hm : mayB k r c w = true) (hr : rowB k r c ps = true) {l : List Int} (hT : toldL k r c w ps kd ver = some l) (hs : soundL k r c w ps kd ver l = true) (hc : r < (telN k r c w ps kd ver ps.length : Nat)) {wl : List Bool} (hg : (goneN wl ps.length : Int) ≤ r) :
   ¬ manyN k r c w ps kd ver < k.toNat ∧ ¬ manyN k r c w (wipeP wl ps ps.length) kd ver < k.toNat ∧ dataL k r c w (wipeP wl ps ps.length) kd ver k.toNat = dataL k r c w ps kd ver k.toNat := by
 obtain ⟨hs1, hs2, hs3⟩ := soundL_parts.1 hs
 obtain ⟨hl, _⟩ := row_at hr
 have hmn := may_n hm
 have hqat := fun (i : Nat) (p : PairB) (h : ps[i]? = some p) => wipe_at (l := wl) (n := ps.length) h
 have hql : (wipeP wl ps ps.length).length = ps.length := wipe_len _ _ _
 generalize wipeP wl ps ps.length = qs at *
 have hkr : (k + r).toNat = ps.length := by omega
 -- the same vector is told
 have hTq : toldL k r c w qs kd ver = some l := by
   have hex : ∃ i, i < ps.length ∧ tellB k r c w (ps.getD i ([], [])) i kd ver = true ∧ wipB wl i = false := by
     by_cases h : ∃ i, i < ps.length ∧ tellB k r c w (ps.getD i ([], [])) i kd ver = true ∧ wipB wl i = false
     · exact h
     · exfalso
       have := tel_gone (k := k) (r := r) (c := c) (w := w) (ps := ps) (kd := kd) (ver := ver) (wl := wl) ps.length fun i hi ht => by
         cases hw : wipB wl i with
         | true => rfl
         | false => exact absurd ⟨i, hi, ht, hw⟩ h
       omega
   obtain ⟨i, hi, ht, hw⟩ := hex
   unfold toldL
   rw [hql]
   have hpi : ps[i]? = some ps[i] := List.getElem?_eq_getElem hi
   have hgi : ps.getD i ([], []) = ps[i] := by rw [List.getD_eq_getElem?_getD, hpi]; rfl
   rw [hgi] at ht
   have hqi := hqat i _ hpi
   rw [if_neg (by rw [hw]; simp)] at hqi
   cases hN : toldN k r c w qs kd ver ps.length with
   | none =>
     exfalso
     have := toldN_none _ hN i hi
     rw [List.getD_eq_getElem?_getD, hqi, Option.getD_some] at this
     unfold told1 at this
     unfold tellB at ht
     split at this
     · cases this
     · rename_i h1
       split at this
       · cases this
       · rename_i h2
         simp only [Bool.not_eq_true] at h1 h2
         rw [h1, h2] at ht
         cases ht
   | some l' =>
     obtain ⟨j, hj, h1⟩ := toldN_some _ _ hN
     have hpj : ps[j]? = some ps[j] := List.getElem?_eq_getElem hj
     have hqj := hqat j _ hpj
     rw [List.getD_eq_getElem?_getD, hqj, Option.getD_some] at h1
     split at h1
     · rw [told1_nil hm] at h1; cases h1
     · obtain ⟨_, bs, hbs, h2, rfl⟩ := told1_some h1
       have h3 := hs1 j _ hpj
       have : sndB k r c w bs j kd ver l = true := by
         rcases hbs with rfl | rfl
         · exact h3.2
         · exact h3.1
       unfold sndB at this
       rw [h2] at this
       simp at this
       rw [this]
 have hTl := thereL_len k r c w ps kd ver
 have hne : ∀ i, i < ps.length → ((thereL k r c w ps kd ver).getD i []).length ≠ 0 := fun i hi => by
   have hti : (thereL k r c w ps kd ver)[i]? = some ((thereL k r c w ps kd ver)[i]'(by omega)) := List.getElem?_eq_getElem (by omega)
   rw [getD_at hti]
   exact hs2 _ (List.mem_of_getElem? hti)
 have hTi : ∀ i, i < ps.length → (thereL k r c w qs kd ver).getD i [] = if wipB wl i = true then [] else (thereL k r c w ps kd ver).getD i [] := fun i hi => by
   have hpi : ps[i]? = some ps[i] := List.getElem?_eq_getElem hi
   rw [thereL_at hTq (hqat i _ hpi), thereL_at hT hpi]
   by_cases hw : wipB wl i = true
   · rw [if_pos ⟨hi, hw⟩, if_pos hw, datO_nil hm]
   · rw [if_neg (fun h => hw h.2), if_neg hw]
 have hcell : ∀ a p, a < ps.length → p < c.toNat → celM (thereL k r c w ps kd ver) a p = celU k.toNat (celM (thereL k r c w ps kd ver)) a p := fun a p ha hp => by
   by_cases hak : a < k.toNat
   · rw [celU_data _ hak]
   · have hidx : (parT k.toNat r.toNat c.toNat (thereL k r c w ps kd ver))[a - k.toNat]? = some (tab c.toNat (celU k.toNat (celM (thereL k r c w ps kd ver)) a)) := by
       unfold parT
       rw [List.getElem?_map, List.getElem?_range' (by omega)]
       simp only [Option.map_some, Nat.one_mul]
       rw [show k.toNat + (a - k.toNat) = a by omega]
     rw [hs3, List.getElem?_drop, show k.toNat + (a - k.toNat) = a by omega] at hidx
     show ((thereL k r c w ps kd ver).getD a []).getD p 0 = _
     rw [getD_at hidx, tab_getD hp]
 have hm1 : k.toNat ≤ (thereN (thereL k r c w ps kd ver) (k + r).toNat).length := by
   have := there_gone (T := thereL k r c w ps kd ver) (wl := []) (k + r).toNat fun i hi _ => hne i (by omega)
   have hg0 : goneN [] (k + r).toNat = 0 := gone_nil _
   omega
 have hm2 : k.toNat ≤ (thereN (thereL k r c w qs kd ver) (k + r).toNat).length := by
   have := there_gone (T := thereL k r c w qs kd ver) (wl := wl) (k + r).toNat fun i hi hw => by rw [hTi i (by omega), if_neg (by rw [hw]; decide)]; exact hne i (by omega)
   rw [hkr] at this ⊢
   omega
 refine ⟨by unfold manyN; omega, by unfold manyN; omega, ?_⟩
 unfold dataL
 rw [List.flatMap_def, List.flatMap_def]
 congr 1
 refine List.map_congr_left fun i _ => tab_eq2 fun p hp => ?_
 unfold wholeA
 rw [coded_whole (C := c.toNat) hm1 (by omega) (fun a ha _ => hcell a p (by omega) hp) i]
 refine coded_whole (C := c.toNat) hm2 (by omega) (fun a ha hne2 => ?_) i
 have h3 := hTi a (by omega)
 by_cases hw : wipB wl a = true
 · rw [if_pos hw] at h3
   rw [h3] at hne2
   exact absurd rfl hne2
 · rw [if_neg hw] at h3
   rw [← hcell a p (by omega) hp]
   unfold celM
   rw [h3]
end
def wlA (ds : List Nat) (N : Nat) : List Bool := (List.range N).map fun i => decide (i ∈ ds)
theorem wlA_at (ds : List Nat) (N i : Nat) : wipB (wlA ds N) i = (decide (i < N) && decide (i ∈ ds)) := by
 unfold wipB wlA
 rw [List.getD_eq_getElem?_getD, List.getElem?_map]
 by_cases h : i < N
 · rw [List.getElem?_range h, decide_eq_true h]
   simp
 · rw [List.getElem?_eq_none (by simpa using h), decide_eq_false h]
   rfl
theorem wlA_gone (N : Nat) : ∀ (ds : List Nat), goneN (wlA ds N) N ≤ ds.length
 | [] => by
   have : ∀ n, goneN (wlA [] N) n = 0 := fun n => by
     induction n with
     | zero => rfl
     | succ n ih => rw [goneN_succ, ih, wlA_at]; simp
   rw [this]
   exact Nat.zero_le _
 | d :: ds => by
   have ih := wlA_gone N ds
   have h : ∀ n, goneN (wlA (d :: ds) N) n ≤ goneN (wlA ds N) n + (if d < n then 1 else 0) := fun n => by
     induction n with
     | zero => simp [goneN]
     | succ n ihn =>
       rw [goneN_succ, goneN_succ, wlA_at, wlA_at]
       by_cases e : n = d
       · subst e
         rw [if_neg (Nat.lt_irrefl _)] at ihn
         rw [if_pos (show n < n + 1 by omega)]
         split <;> split <;> omega
       · have h1 : decide (n ∈ d :: ds) = decide (n ∈ ds) := by simp [e]
         rw [h1]
         by_cases h2 : d < n
         · rw [if_pos h2] at ihn
           rw [if_pos (show d < n + 1 by omega)]
           omega
         · rw [if_neg h2] at ihn
           rw [if_neg (show ¬ d < n + 1 by omega)]
           omega
   have := h N
   rw [List.length_cons]
   split at this <;> omega
structure WipR (W : Nat) (L : List (List UInt8)) (ds : List Nat) (L' : List (List UInt8)) : Prop where
 len : L'.length = L.length
 at_ : ∀ j, j < L.length → L'.getD j [] = if j / (2 * W) ∈ ds then [] else L.getD j []
theorem wip_zero (W : Nat) (L : List (List UInt8)) : WipR W L [] L := ⟨rfl, fun j _ => by simp⟩
theorem wip_step {W : Nat} {L L' : List (List UInt8)} {ds : List Nat} (hW : 0 < W) (h : WipR W L ds L') (d : Nat) : WipR W L (d :: ds) (wipL L' (d * (2 * W)) ((d + 1) * (2 * W))) := by
 refine ⟨by rw [wipL_len]; exact h.len, fun j hj => ?_⟩
 rw [List.getD_eq_getElem?_getD, wipL_at (by rw [h.len]; exact hj), Option.getD_some, h.at_ j hj]
 have hd : (d * (2 * W) ≤ j ∧ j < (d + 1) * (2 * W)) ↔ j / (2 * W) = d := by
   constructor
   · rintro ⟨h1, h2⟩
     exact Nat.div_eq_of_lt_le h1 h2
   · rintro rfl
     refine ⟨Nat.div_mul_le_self _ _, ?_⟩
     have := Nat.lt_div_mul_add (a := j) (b := 2 * W) (by omega)
     rw [Nat.add_mul, Nat.one_mul]
     exact this
 by_cases h1 : j / (2 * W) = d
 · rw [if_pos (hd.2 h1), if_pos (by rw [h1]; exact List.mem_cons_self)]
 · rw [if_neg (fun h => h1 (hd.1 h))]
   have : (j / (2 * W) ∈ d :: ds) ↔ j / (2 * W) ∈ ds := by simp [h1]
   by_cases h2 : j / (2 * W) ∈ ds
   · rw [if_pos h2, if_pos (this.2 h2)]
   · rw [if_neg h2, if_neg (fun h => h2 (this.1 h))]
section
variable {k r c w : Int} {L L' : List (List UInt8)} {ds : List Nat}
theorem wip_imE (hE : imE k r c w L = 0) (h : WipR w.toNat L ds L') : imE k r c w L' = 0 := by
 obtain ⟨hm, hl, hlen⟩ := im_parts hE
 unfold imE
 rw [if_pos hm, if_pos]
 unfold imB
 rw [Bool.and_eq_true, List.all_eq_true]
 refine ⟨decide_eq_true (by rw [h.len]; exact hl), fun b hb => ?_⟩
 obtain ⟨j, hj⟩ := List.getElem?_of_mem hb
 have hjl := (List.getElem?_eq_some_iff.1 hj).1
 rw [h.len] at hjl
 have := h.at_ j hjl
 rw [getD_at hj] at this
 rw [this]
 split
 · rfl
 · have hLj : L[j]? = some L[j] := List.getElem?_eq_getElem hjl
   rw [getD_at hLj]
   exact hlen _ (List.mem_of_getElem? hLj)
theorem wip_row (hE : imE k r c w L = 0) (h : WipR w.toNat L ds L') {row : Int} (hrow : 0 ≤ row ∧ row < w) : rowL k r w L' row = wipeP (wlA ds (k + r).toNat) (rowL k r w L row) (rowL k r w L row).length := by
 obtain ⟨hm, hl, hlen⟩ := im_parts hE
 have hmn := may_n hm
 have hml := mayB_of.1 hm
 obtain ⟨N, hN⟩ : ∃ N : Nat, k + r = (N : Int) := ⟨(k + r).toNat, by omega⟩
 obtain ⟨W, hW⟩ : ∃ W : Nat, w = (W : Int) := ⟨w.toNat, by omega⟩
 obtain ⟨ro, hro⟩ : ∃ ro : Nat, row = (ro : Int) := ⟨row.toNat, by omega⟩
 have hidx := fun i (hi : i < N) => row_index hW hN (row := ro) (by omega) hi hl
 unfold rowL
 rw [show (k + r).toNat = N by omega, show w.toNat = W by omega, show row.toNat = ro by omega]
 rw [show w.toNat = W by omega] at h
 refine List.ext_getElem? fun i => ?_
 by_cases hi : i < N
 · have hp := rowP_at (L := L) (W := W) (row := ro) (n := N) hi
   rw [wipe_at hp, rowP_len, rowP_at hi, wlA_at, decide_eq_true hi, Bool.true_and]
   have h1 := hidx i hi
   have hq : ∀ s, s < 2 → ((i * W + ro) * 2 + s) / (2 * W) = i := fun s hs => by
     have e1 : i * (2 * W) = (i * W) * 2 := by rw [Nat.mul_assoc, Nat.mul_comm W 2]
     have e2 : (i + 1) * (2 * W) = i * (2 * W) + 2 * W := by rw [Nat.add_mul, Nat.one_mul]
     refine Nat.div_eq_of_lt_le ?_ ?_
     · rw [e1]; omega
     · rw [e2, e1]; omega
   have a0 := h.at_ ((i * W + ro) * 2) (by omega)
   have a1 := h.at_ ((i * W + ro) * 2 + 1) (by omega)
   have q0 := hq 0 (by omega)
   rw [Nat.add_zero] at q0
   rw [q0] at a0
   rw [hq 1 (by omega)] at a1
   rw [a0, a1]
   by_cases hd : i ∈ ds
   · rw [if_pos hd, if_pos hd, if_pos ⟨hi, decide_eq_true hd⟩]
   · rw [if_neg hd, if_neg hd, if_neg (fun h => hd (of_decide_eq_true h.2))]
 · rw [List.getElem?_eq_none (by rw [rowP_len]; omega), List.getElem?_eq_none (by rw [wipe_len, rowP_len]; omega)]
def goodB (k r c w : Int) (L : List (List UInt8)) (x : LiveI) : Prop := soundB k r c w (rowL k r w L x.1) x.2.1 x.2.2 = true ∧ r < (telN k r c w (rowL k r w L x.1) x.2.1 x.2.2 (rowL k r w L x.1).length : Nat)
theorem good_read (hE : imE k r c w L = 0) (h : WipR w.toNat L ds L') (hd : (ds.length : Int) ≤ r) {x : LiveI} (hx : 0 ≤ x.1 ∧ x.1 < w) (hg : goodB k r c w L x) : ¬ manyN k r c w (rowL k r w L x.1) x.2.1 x.2.2 < k.toNat ∧ ¬ manyN k r c w (rowL k r w L' x.1) x.2.1 x.2.2 < k.toNat ∧ dataL k r c w (rowL k r w L' x.1) x.2.1 x.2.2 k.toNat = dataL k r c w (rowL k r w L x.1) x.2.1 x.2.2 k.toNat := by
 obtain ⟨h1, h2⟩ := hg
 unfold soundB at h1
 split at h1
 · cases h1
 · rename_i l hT
   have hR := rowE_ok (row := x.1) hE hx
   obtain ⟨hrb, hm⟩ := row_rowB hR
   have hmn := may_n hm
   obtain ⟨hl, _⟩ := row_at hrb
   rw [wip_row hE h hx]
   refine wiped_read hm hrb hT h1 h2 ?_
   have := wlA_gone (k + r).toNat ds
   rw [show (rowL k r w L x.1).length = (k + r).toNat by omega]
   omega
theorem wiped_obj (hE : imE k r c w L = 0) (h : WipR w.toNat L ds L') (hd : (ds.length : Int) ≤ r) {row : Int} (hO : objE k r c w L row = 0) (hmis : (missL k r c w (winI k r c w (rowL k r w L row)) (rowL k r w L row)).length = 0) (hg : ∀ i x, i ≤ (objL k r c w L row).length → (strL k r c w L row)[i]? = some x → goodB k r c w L x) :
   objE k r c w L' row = 0 ∧ objD k r c w L' row = objD k r c w L row ∧ winI k r c w (rowL k r w L' row) = winI k r c w (rowL k r w L row) ∧ objL k r c w L' row = objL k r c w L row ∧ objS k r c w L' row = objS k r c w L row := by
 obtain ⟨_, hR, hC, _⟩ := obj_refs hO
 obtain ⟨hrb, hm⟩ := row_rowB hR
 obtain ⟨hc, hW, hmany, hpa⟩ := com_chk hC
 have hmn := may_n hm
 obtain ⟨hl, _⟩ := row_at hrb
 have hrow : 0 ≤ row ∧ row < w := by
   unfold rowE at hR
   rw [if_pos hE] at hR
   split at hR
   · omega
   · omega
 have hE' := wip_imE hE h
 have hR' := rowE_ok hE' hrow
 have h0 := good_read hE h hd (x := (row, 2, winI k r c w (rowL k r w L row))) hrow (hg 0 _ (Nat.zero_le _) rfl)
 simp only at h0
 have hver := win_ver hc hW
 have hmE : missE k r c w (winI k r c w (rowL k r w L row)) (rowL k r w L row) = 0 := by
   unfold missE
   unfold verB at hver
   rw [if_pos hc, if_pos (of_decide_eq_true hver)]
 unfold missL at hmis
 rw [if_pos hmE] at hmis
 have hlen1 : 1 ≤ (cntP k r c w (rowL k r w L row)).length := by
   have := win_cnt hc hW
   cases hq : cntP k r c w (rowL k r w L row) with
   | nil => rw [hq] at this; cases this
   | cons a l => simp
 have hgone := wlA_gone (k + r).toNat ds
 have hwk := wipe_keeps (l := wlA ds (k + r).toNat) hc hlen1 hmis (by rw [show (rowL k r w L row).length = (k + r).toNat by omega]; omega)
 have hwc := wipe_chk (l := wlA ds (k + r).toNat) (n := (rowL k r w L row).length) hc
 rw [← wip_row hE h hrow] at hwk hwc
 have hww : winI k r c w (rowL k r w L' row) = winI k r c w (rowL k r w L row) := hwk.2
 have hD : objD k r c w L' row = objD k r c w L row := by
   unfold objD comD
   rw [hww]
   exact h0.2.2
 have hC' : comE k r c w (rowL k r w L' row) = 0 := by
   unfold comE
   rw [if_pos hwc, hww, if_neg hW, if_neg h0.2.1]
   have : comD k r c w (rowL k r w L' row) = comD k r c w (rowL k r w L row) := hD
   rw [this]
   exact hpa
 have hL : objL k r c w L' row = objL k r c w L row := by unfold objL; rw [hD]
 by_cases hd0 : pDep (objD k r c w L row) = 0
 · refine ⟨?_, hD, hww, hL, ?_⟩
   · unfold objE
     rw [if_pos hR', if_pos hC', hD, if_pos hd0]
   · unfold objS
     rw [hD, if_pos hd0, if_pos hd0]
 · have hLp : objL k r c w L row = pRefs (objD k r c w L row) := by unfold objL; rw [if_neg hd0]
   have hDD := com_desc hC
   obtain ⟨_, _, _, _, hlr⟩ := desc_bounds hDD
   have hleaf : ∀ x ∈ pRefs (objD k r c w L row), ∀ n, leafE k r c w L' x n = leafE k r c w L x n ∧ leafR k r c w L' x n = leafR k r c w L x n := fun x hx n => by
     obtain ⟨i, hi⟩ := List.getElem?_of_mem hx
     have hil := (List.getElem?_eq_some_iff.1 hi).1
     have hsi : (strL k r c w L row)[i + 1]? = some (x.1, 1, x.2) := by
       unfold strL datL
       rw [List.getElem?_cons_succ, List.getElem?_map, List.getElem?_append_left (by rw [hLp]; exact hil), hLp, hi]
       rfl
     have hgi := good_read hE h hd (x := (x.1, 1, x.2)) (hlr x hx).1 (hg (i + 1) _ (by rw [hLp]; omega) hsi)
     simp only at hgi
     have hld : leafD k r c w L' x = leafD k r c w L x := hgi.2.2
     refine ⟨?_, ?_⟩
     · unfold leafE
       rw [if_neg hgi.1, if_neg hgi.2.1, hld]
     · unfold leafR
       rw [hld]
   have hall : ∀ (l : List RefI) (n : Int), (∀ x ∈ l, x ∈ pRefs (objD k r c w L row)) → leavesE k r c w L' l n = leavesE k r c w L l n ∧ leavesR k r c w L' l n = leavesR k r c w L l n := fun l => by
     induction l with
     | nil => exact fun n _ => ⟨rfl, rfl⟩
     | cons x l ih =>
       intro n hx
       have hxx := hleaf x (hx x List.mem_cons_self)
       obtain ⟨i1, i2⟩ := ih (n - min n (lI k c)) fun y hy => hx y (List.mem_cons_of_mem _ hy)
       refine ⟨?_, ?_⟩
       · unfold leavesE
         rw [(hxx _).1, i1]
       · unfold leavesR
         rw [(hxx _).2, i2]
   have hal := hall (pRefs (objD k r c w L row)) (oS k r c w (pLen (objD k r c w L row))) fun x hx => hx
   refine ⟨?_, hD, hww, hL, ?_⟩
   · unfold objE at hO ⊢
     rw [if_pos hR, if_pos hC, if_neg hd0] at hO
     rw [if_pos hR', if_pos hC', hD, if_neg hd0, hal.1]
     exact hO
   · unfold objS
     rw [hD, if_neg hd0, if_neg hd0, hal.2]
end
end Go.Proofs.YtaekhhlgnbhnpaaGreat