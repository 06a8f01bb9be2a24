import Derived.Test.YtaekhhlgnbhnpaaGreatWdcG22
set_option linter.unusedVariables false
set_option linter.unusedSimpArgs false
set_option maxRecDepth 10000
namespace Go.Proofs.YtaekhhlgnbhnpaaGreat
open Go Go.Tw Go.Proofs Go.Gf
theorem take3 {cells : List AV} {i : Nat} {a b c : AV} (h : cells[i]? = some a) (h' : cells[i + 1]? = some b) (h2 : cells[i + 2]? = some c) : (cells.drop i).take 3 = [a, b, c] ∧ i + 3 ≤ cells.length := by
 obtain ⟨h1, e1⟩ := List.getElem?_eq_some_iff.1 h
 obtain ⟨h3, e3⟩ := List.getElem?_eq_some_iff.1 h'
 obtain ⟨h4, e4⟩ := List.getElem?_eq_some_iff.1 h2
 refine ⟨?_, by omega⟩
 rw [List.drop_eq_getElem_cons h1, List.drop_eq_getElem_cons h3, List.drop_eq_getElem_cons h4, e1, e3, e4]
 rfl
theorem ref_same (i j : Nat) (a b : Int) : binE Tryz.prog .neq 67 (.tmp i) (.tmp j) (.agg [.val (.int .i64 a), .val (.int .i64 b)]) (.agg [.val (.int .i64 a), .val (.int .i64 b)]) = some (.val (.bool false)) := by
 have h : eqF Tryz.prog #[.int .i64 a, .int .i64 b] #[.int .i64 a, .int .i64 b] (fieldsP Tryz.prog 67) = if a = a then (if b = b then some true else some false) else some false := by kernel_rfl
 rw [if_pos rfl, if_pos rfl] at h
 exact (bin_struct (a := [.val (.int .i64 a), .val (.int .i64 b)]) (b := [.val (.int .i64 a), .val (.int .i64 b)]) (u := [.int .i64 a, .int .i64 b]) (v := [.int .i64 a, .int .i64 b]) rfl rfl (by kernel_rfl) (by kernel_rfl) (by kernel_rfl) h).2
theorem strL_len (k r c w : Int) (L : List (List UInt8)) (row : Int) : (strL k r c w L row).length = 1 + ((objL k r c w L row).length + (objS k r c w L row).length) := by
 unfold strL
 rw [List.length_cons, datL_len, List.length_append]
 omega
theorem str_ok {k r c w : Int} {L : List (List UInt8)} {row : Int} (h : objE k r c w L row = 0) : ∀ (i : Nat) (x : LiveI), (strL k r c w L row)[i]? = some x → rowE k r c w L x.1 = 0 ∧ (x.2.1 = 1 ∨ x.2.1 = 2) ∧ verB x.2.2 = true := by
 obtain ⟨hE, hR, hC, hre, _⟩ := obj_refs h
 obtain ⟨hc, hW, _, _⟩ := com_chk hC
 intro i x hx
 unfold strL at hx
 cases i with
 | zero =>
   simp at hx
   subst hx
   exact ⟨hR, .inr rfl, win_ver hc hW⟩
 | succ i =>
   rw [List.getElem?_cons_succ] at hx
   unfold datL at hx
   rw [List.getElem?_map, Option.map_eq_some_iff] at hx
   obtain ⟨y, hy, rfl⟩ := hx
   have hm := List.mem_of_getElem? hy
   have hyr : refB w y = true := by
     rcases List.mem_append.1 hm with hm | hm
     · unfold objL at hm
       split at hm
       · cases hm
       · have hD := com_desc hC
         obtain ⟨_, _, _, _, hlr⟩ := desc_bounds hD
         have := hlr y hm
         unfold refB
         exact decide_eq_true this
     · exact hre y hm
   obtain ⟨h1, h2⟩ := ref_parts hyr
   refine ⟨rowE_ok hE h1, .inl rfl, ?_⟩
   unfold verB
   exact decide_eq_true h2
def onceTwi : Nat → Bool := fun d => d != 20 && d != 22 && d != 133
set_option maxHeartbeats 4000000 in
theorem law17_TreeWiped (k r c w row : Int) (v wv : AV) (L : List (List UInt8)) (cells x0 : List AV) (ds : List Int) (hv : RowsV v L cells) (hw : RdSl wv ds.length (intsA ds ++ x0)) (hdl : ds.length ≤ 9223372036854775807) : FSpec Tryz.prog 14 [imV k r c w v, intV row, wv] ⟨boolV true, []⟩ := by
 refine fspec_fzT ?_
 have hp := hv.rd.plain
 have hwp := hw.plain
 have hf := rd_fz hv.rd
 have ho := rd_one hv.rd
 have kV := rd_okA hv.rd
 have cV := rd_cells hv.rd
 have haw := law17_awake
 have hbi := law17_big k r c w v L cells hv
 have hob := tree_Object k r c w row v L cells hv
 have hst := tree_Stripes k r c w row v L cells hv
 have hro := image_Row k r c w row v L cells hv
 unfold strV17 at hst
 unfold objV at hob
 unfold imV at hbi hob hst hro ⊢
 have hlen0 : lenE Tryz.prog 31 (.val (.slice none 0 0)) = some (.val (.int .i64 0)) := by kernel_rfl
 have hz47 : zeroE Tryz.prog 47 = some [.int .i64 0, .int .i64 0, .int .i64 0, .int .i64 0, .slice none 0 0] := by kernel_rfl
 cases hb : mayB k r c w && decide (400 < (k + r) * w) with
 | true =>
   rw [hb] at hbi
   refine ospec_of_body follows Tryz.func14 (by unfold Tryz.f14; rfl) (by unfold Tryz.f14; simp) onceTwi (by unfold Tryz.f14; simp) (by kernel_rfl) ?_; unfold Tryz.f14
   simp only [↓pre, simprocAttr, parV, sx, tys14, cellsR, onceTwi, bne, postU, postA, storeE, allocE, me0, put_at, push_at, hf, ho, hz47, hlen0, hw.len', sr]
   refine call_plain (haw) (by rfl) ?_; simp only [↓pre, simprocAttr, parV, sx, tys14, cellsR, onceTwi, bne, postU, postA, storeE, allocE, me0, put_at, push_at, hf, ho, hz47, hlen0, hw.len', sr]; refine call_plain (hbi) (by simp only [parV, plQ, *]) ?_; simp only [↓pre, simprocAttr, parV, sx, tys14, cellsR, onceTwi, bne, postU, postA, storeE, allocE, me0, put_at, push_at, hf, ho, hz47, hlen0, hw.len', sr]
   exact ⟨0, fzT_val⟩
 | false =>
   rw [hb] at hbi
   clear hb
   by_cases hO : objE k r c w L row = 0
   · rw [if_pos hO] at hob hst
     obtain ⟨hI, hR, hC, hre, hSl, hl0, hl1⟩ := obj_refs hO
     obtain ⟨hrb, hm⟩ := row_rowB hR
     obtain ⟨hc, hW0, _, _⟩ := com_chk hC
     have hmn := may_n hm
     have hml := mayB_of.1 hm
     have hLl := objL_len hO
     have hSLl := strL_len k r c w L row
     have hok := str_ok hO
     have hrv := row_rowV k r c w L row (by omega)
     unfold rowVal at hro
     rw [if_pos hR] at hro
     have hmi := census_Missing k r c w (winI k r c w (rowL k r w L row)) _ _ _ hrv
     have hver := win_ver hc hW0
     have hmE : missE k r c w (winI k r c w (rowL k r w L row)) (rowL k r w L row) = 0 := by
       unfold missE
       unfold verB at hver
       rw [if_pos hc, if_pos (of_decide_eq_true hver)]
     rw [hmE] at hmi
     have hwo := fun (ds' : List Nat) (L' : List (List UInt8)) (h : WipR w.toNat L ds' L') (hd : (ds'.length : Int) ≤ r) hmis hg => wiped_obj hI h hd hO hmis hg
     have hRr := treeR_rd (pRefs (objD k r c w L row)).length (refsA (pRefs (objD k r c w L row)))
     have hLr := treeR_rd (objL k r c w L row).length (refsA (objL k r c w L row))
     have hSr := treeR_rd (objS k r c w L row).length (refsA (objS k r c w L row))
     have hTr := liveT_rd (strL k r c w L row)
     have hMr := treeR_rd (missL k r c w (winI k r c w (rowL k r w L row)) (rowL k r w L row)).length (intsA (missL k r c w (winI k r c w (rowL k r w L row)) (rowL k r w L row)))
     have hob2 : ∀ (v' : AV) (L' : List (List UInt8)) (cells' : List AV), RowsV v' L' cells' → objE k r c w L' row = 0 ∧ objD k r c w L' row = objD k r c w L row ∧ winI k r c w (rowL k r w L' row) = winI k r c w (rowL k r w L row) ∧ objL k r c w L' row = objL k r c w L row ∧ objS k r c w L' row = objS k r c w L row → FSpec Tryz.prog 59 [.agg [intV k, intV r, intV c, intV w, v'], intV row] ⟨.tup [descA (pLen (objD k r c w L row)) (pDep (objD k r c w L row)) (pRefs (objD k r c w L row)), intV (winI k r c w (rowL k r w L row)), refsT (objL k r c w L row), refsT (objS k r c w L row), intV 0], []⟩ := fun v' L' cells' hv' ⟨a1, a2, a3, a4, a5⟩ => by
       have h := tree_Object k r c w row v' L' cells' hv'
       unfold objV imV at h
       rw [if_pos a1, a2, a3, a4, a5] at h
       exact h
     unfold descA refsT at hob hob2
     generalize treeR (pRefs (objD k r c w L row)).length (refsA (pRefs (objD k r c w L row))) = DV at *
     generalize treeR (objL k r c w L row).length (refsA (objL k r c w L row)) = LV at *
     generalize treeR (objS k r c w L row).length (refsA (objS k r c w L row)) = SV at *
     generalize liveT (strL k r c w L row) = TV at *
     generalize treeR (missL k r c w (winI k r c w (rowL k r w L row)) (rowL k r w L row)).length (intsA (missL k r c w (winI k r c w (rowL k r w L row)) (rowL k r w L row))) = MV at *
     generalize treeR (k + r).toNat (prA (rowL k r w L row)) = RV at *
     generalize missL k r c w (winI k r c w (rowL k r w L row)) (rowL k r w L row) = ML at *
     generalize winI k r c w (rowL k r w L row) = W at *
     generalize pLen (objD k r c w L row) = PL at *
     generalize pDep (objD k r c w L row) = PD at *
     generalize strL k r c w L row = SL at *
     have f2 := rd_fz hRr
     have o2 := rd_one hRr
     have s2 := rd_shift hRr
     have s3 := rd_shift hLr
     have s4 := rd_shift hSr
     have s5 := rd_shift hTr
     have s6 := rd_shift hMr
     have s7 := rd_shift hrv.rd
     have pRV := hrv.rd.plain
     simp only [intV] at hob hst hro hmi
     replace hO := Hid.mk hO
     replace hI := Hid.mk hI
     replace hR := Hid.mk hR
     replace hC := Hid.mk hC
     replace hre := Hid.mk hre
     replace hSl := Hid.mk hSl
     replace hl0 := Hid.mk hl0
     replace hl1 := Hid.mk hl1
     replace hrb := Hid.mk hrb
     replace hc := Hid.mk hc
     replace hW0 := Hid.mk hW0
     replace hmn := Hid.mk hmn
     replace hml := Hid.mk hml
     replace hLl := Hid.mk hLl
     replace hSLl := Hid.mk hSLl
     replace hok := Hid.mk hok
     replace hrv := Hid.mk hrv
     replace hver := Hid.mk hver
     replace hmE := Hid.mk hmE
     replace hwo := Hid.mk hwo
     replace hob2 := Hid.mk hob2
     replace hRr := Hid.mk hRr
     by_cases hdr : (ds.length : Int) ≤ r
     · have hdr' : ¬ r < ((ds.length : Nat) : Int) := by omega
       by_cases hml0 : ML.length = 0
       · have hml1 : ¬ (0 : Int) < ((ML.length : Nat) : Int) := by omega
         replace hdr := Hid.mk hdr
         replace hml0 := Hid.mk hml0
         refine ospec_of_body follows Tryz.func14 (by unfold Tryz.f14; rfl) (by unfold Tryz.f14; simp) onceTwi (by unfold Tryz.f14; simp) (by kernel_rfl) ?_; unfold Tryz.f14
         simp only [↓pre, simprocAttr, parV, sx, tys14, cellsR, onceTwi, bne, postU, postA, storeE, allocE, me0, put_at, push_at, hf, ho, hz47, hlen0, hw.len', f2, o2, s2, s3, s4, s5, s6, s7, hLr.len', hSr.len', hTr.len', hMr.len', sr]
         refine call_plain (haw) (by rfl) ?_; simp only [↓pre, simprocAttr, parV, sx, tys14, cellsR, onceTwi, bne, postU, postA, storeE, allocE, me0, put_at, push_at, hf, ho, hz47, hlen0, hw.len', f2, o2, s2, s3, s4, s5, s6, s7, hLr.len', hSr.len', hTr.len', hMr.len', hdr', hml1, sr]; refine call_plain (hbi) (by simp only [parV, plQ, *]) ?_; simp only [↓pre, simprocAttr, parV, sx, tys14, cellsR, onceTwi, bne, postU, postA, storeE, allocE, me0, put_at, push_at, hf, ho, hz47, hlen0, hw.len', f2, o2, s2, s3, s4, s5, s6, s7, hLr.len', hSr.len', hTr.len', hMr.len', hdr', hml1, sr]; refine call_plain (hob) (by simp only [parV, plQ, *]) ?_; simp only [↓pre, simprocAttr, parV, sx, tys14, cellsR, onceTwi, bne, postU, postA, storeE, allocE, me0, put_at, push_at, hf, ho, hz47, hlen0, hw.len', f2, o2, s2, s3, s4, s5, s6, s7, hLr.len', hSr.len', hTr.len', hMr.len', hdr', hml1, sr]; refine call_plain (hst) (by simp only [parV, plQ, *]) ?_; simp only [↓pre, simprocAttr, parV, sx, tys14, cellsR, onceTwi, bne, postU, postA, storeE, allocE, me0, put_at, push_at, hf, ho, hz47, hlen0, hw.len', f2, o2, s2, s3, s4, s5, s6, s7, hLr.len', hSr.len', hTr.len', hMr.len', hdr', hml1, sr]; refine call_plain (hro) (by simp only [parV, plQ, *]) ?_; simp only [↓pre, simprocAttr, parV, sx, tys14, cellsR, onceTwi, bne, postU, postA, storeE, allocE, me0, put_at, push_at, hf, ho, hz47, hlen0, hw.len', f2, o2, s2, s3, s4, s5, s6, s7, hLr.len', hSr.len', hTr.len', hMr.len', hdr', hml1, sr]; refine call_plain (hmi) (by simp only [parV, plQ, *]) ?_; simp only [↓pre, simprocAttr, parV, sx, tys14, cellsR, onceTwi, bne, postU, postA, storeE, allocE, me0, put_at, push_at, hf, ho, hz47, hlen0, hw.len', f2, o2, s2, s3, s4, s5, s6, s7, hLr.len', hSr.len', hTr.len', hMr.len', hdr', hml1, sr]
         clear haw hbi hob hst hro hmi
         rw [codeW_loop]
         refine loop_cut (fun e' m' => e' 1 = intV row ∧ e' 2 = wv ∧ e' 3 = .tptr 0 [intV k, intV r, intV c, intV w, v] ∧ e' 8 = .tptr 0 [intV PL, intV PD, DV] ∧ e' 9 = intV W ∧ e' 10 = LV ∧ e' 11 = SV ∧ Hid (∀ i x, i ≤ (objL k r c w L row).length → SL[i]? = some x → goodB k r c w L x)) (fun e' m' hR => ?_) ?_
         · obtain ⟨e1, e2, e3, e8, e9, e10, e11, hG⟩ := hR
           simp only [↓pre, simprocAttr, parV, sx, tys14, cellsR, onceTwi, bne, postU, postA, storeE, allocE, me0, put_at, push_at, hf, ho, hz47, hlen0, hw.len', f2, o2, s2, s3, s4, s5, s6, s7, hLr.len', hSr.len', hTr.len', hMr.len', e1, e2, e3, e8, e9, e10, e11, sr]
           generalize hm3 : Mem.put (Mem.push m' _) _ _ = m3
           have c0 : m3.at_ m'.next = some ⟨[intV k, intV r, intV c, intV w, v], 47, .var, true⟩ := by rw [← hm3]; simp [put_at, push_at, intV]
           have cn : m'.next < m3.next := by rw [← hm3, put_next, push_next]; omega
           clear hm3
           generalize m'.next = B at *
           rw [codeW_loop]
           refine loop_intro (fun q e m => ∃ i v' L' cs' dn, q + i = ds.length ∧ e 1 = intV row ∧ e 2 = wv ∧ e 8 = .tptr 0 [intV PL, intV PD, DV] ∧ e 9 = intV W ∧ e 10 = LV ∧ e 11 = SV ∧ e 20 = .ptr B 0 ∧ e 21 = intV (i : Nat) ∧ m.at_ B = some ⟨[intV k, intV r, intV c, intV w, v'], 47, .var, true⟩ ∧ Hid (B < m.next ∧ RowsV v' L' cs' ∧ WipR w.toNat L dn L' ∧ dn.length = i)) ds.length ⟨0, v, L, cells, [], by omega, e1, e2, e8, e9, e10, e11, rfl, rfl, c0, ⟨cn, hv, wip_zero _ _, rfl⟩⟩ ?_
           clear e1 e2 e3 e8 e9 e10 e11 c0 cn
           rintro q e m ⟨i, v', L', cs', dn, hq, e1, e2, e8, e9, e10, e11, e20, e21, c0, hJ⟩
           replace hq := Hid.mk hq
           obtain ⟨cn, hv', hwr, hdn⟩ := hJ.out
           clear hJ
           have f9 := rd_fz hv'.rd
           have o9 := rd_one hv'.rd
           have p9 := hv'.rd.plain
           by_cases hlt : i < ds.length
           · have hlt' : ((i : Nat) : Int) < ((ds.length : Nat) : Int) := by omega
             have wi := wrap_succ (n := i) (by omega)
             obtain ⟨d, hd⟩ : ∃ d, ds[i]? = some d := ⟨_, List.getElem?_eq_getElem hlt⟩
             have hda := int_at (x := x0) hd
             have hwi := image_Wiped k r c w d v' L' cs' hv'
             have hI' := wip_imE hI.out hwr
             have hEd : wipE k r c w L' d = if d < 0 ∨ k + r ≤ d then 2 else 0 := by unfold wipE; rw [if_pos hI']
             unfold wipV at hwi
             have hBn : ¬ (B = m.next) := by omega
             have hnB : ¬ (m.next = B) := by omega
             by_cases hdd : d < 0 ∨ k + r ≤ d
             · rw [if_pos hdd] at hEd
               rw [hEd, if_neg (by decide)] at hwi
               unfold imV nilS at hwi
               simp only [intV] at hwi
               replace hwr := Hid.mk hwr
               replace hv' := Hid.mk hv'
               replace hEd := Hid.mk hEd
               replace hdd := Hid.mk hdd
               replace hd := Hid.mk hd
               replace hI' := Hid.mk hI'
               simp only [↓pre, simprocAttr, parV, sx, tys14, cellsR, onceTwi, bne, postU, postA, storeE, allocE, me0, put_at, push_at, hf, ho, hz47, hlen0, hw.len', f2, o2, s2, s3, s4, s5, s6, s7, hLr.len', hSr.len', hTr.len', hMr.len', e1, e2, e8, e9, e10, e11, e20, e21, c0, hlt', hlt, hw.addr', hda, hBn, hnB, sr]
               (refine call_pure (hwi) (by simp only [parV, plQ, *]) (by intro k; rfl) ?_); simp only [↓pre, simprocAttr, parV, sx, tys14, cellsR, onceTwi, bne, postU, postA, storeE, allocE, me0, put_at, push_at, hf, ho, hz47, hlen0, hw.len', f2, o2, s2, s3, s4, s5, s6, s7, hLr.len', hSr.len', hTr.len', hMr.len', e1, e2, e8, e9, e10, e11, e20, e21, c0, hlt', hlt, hw.addr', hda, hBn, hnB, sr]
               refine contW_push (by kernel_rfl) ?_
               simp only [↓pre, simprocAttr, parV, sx, tys14, cellsR, onceTwi, bne, postU, postA, storeE, allocE, me0, put_at, push_at, hf, ho, hz47, hlen0, hw.len', f2, o2, s2, s3, s4, s5, s6, s7, hLr.len', hSr.len', hTr.len', hMr.len', e1, e2, e8, e9, e10, e11, e20, e21, c0, hlt', hlt, hw.addr', hda, hBn, hnB, sr]
               refine contW_fixed (by kernel_rfl) ?_
               simp only [↓pre, simprocAttr, parV, sx, tys14, cellsR, onceTwi, bne, postU, postA, storeE, allocE, me0, put_at, push_at, hf, ho, hz47, hlen0, hw.len', f2, o2, s2, s3, s4, s5, s6, s7, hLr.len', hSr.len', hTr.len', hMr.len', e1, e2, e8, e9, e10, e11, e20, e21, c0, hlt', hlt, hw.addr', hda, hBn, hnB, sr]
               exact ⟨0, fzT_val⟩
             · rw [if_neg hdd] at hEd
               rw [if_pos hEd] at hwi
               obtain ⟨D, hD⟩ : ∃ D : Nat, d = (D : Int) := ⟨d.toNat, by omega⟩
               have hr2 := takL_rows (wipO w L' d) L'.length true (by unfold wipO; rw [wipL_len])
               have hwr2 : WipR w.toNat L (D :: dn) (wipO w L' d) := by
                 unfold wipO
                 rw [show d.toNat = D by omega]
                 exact wip_step (by have := hml.out; omega) hwr D
               generalize AV.tree L'.length L'.length (takL (wipO w L' d)) true = V2 at *
               have f8 := rd_fz hr2.rd
               have o8 := rd_one hr2.rd
               have s8 := rd_shift hr2.rd
               have k8 := rd_okA hr2.rd
               have c8 := rd_cells hr2.rd
               unfold imV at hwi
               simp only [intV] at hwi
               replace hwr := Hid.mk hwr
               replace hv' := Hid.mk hv'
               replace hEd := Hid.mk hEd
               replace hdd := Hid.mk hdd
               replace hd := Hid.mk hd
               replace hI' := Hid.mk hI'
               replace hr2 := Hid.mk hr2
               replace hwr2 := Hid.mk hwr2
               simp only [↓pre, simprocAttr, parV, sx, tys14, cellsR, onceTwi, bne, postU, postA, storeE, allocE, me0, put_at, push_at, hf, ho, hz47, hlen0, hw.len', f2, o2, s2, s3, s4, s5, s6, s7, hLr.len', hSr.len', hTr.len', hMr.len', e1, e2, e8, e9, e10, e11, e20, e21, c0, hlt', hlt, hw.addr', hda, hBn, hnB, s8, sr]
               (refine call_pure (hwi) (by simp only [parV, plQ, *]) (by intro k; simp only [sq, sr, *]) ?_); simp only [↓pre, simprocAttr, parV, sx, tys14, cellsR, onceTwi, bne, postU, postA, storeE, allocE, me0, put_at, push_at, hf, ho, hz47, hlen0, hw.len', f2, o2, s2, s3, s4, s5, s6, s7, hLr.len', hSr.len', hTr.len', hMr.len', e1, e2, e8, e9, e10, e11, e20, e21, c0, hlt', hlt, hw.addr', hda, hBn, hnB, s8, sr]
               refine contW_push (by kernel_rfl) ?_
               simp only [↓pre, simprocAttr, parV, sx, tys14, cellsR, onceTwi, bne, postU, postA, storeE, allocE, me0, put_at, push_at, hf, ho, hz47, hlen0, hw.len', f2, o2, s2, s3, s4, s5, s6, s7, hLr.len', hSr.len', hTr.len', hMr.len', e1, e2, e8, e9, e10, e11, e20, e21, c0, hlt', hlt, hw.addr', hda, hBn, hnB, s8, sr]
               refine contW_fixed (by kernel_rfl) ?_
               simp only [↓pre, simprocAttr, parV, sx, tys14, cellsR, onceTwi, bne, postU, postA, storeE, allocE, me0, put_at, push_at, hf, ho, hz47, hlen0, hw.len', f2, o2, s2, s3, s4, s5, s6, s7, hLr.len', hSr.len', hTr.len', hMr.len', e1, e2, e8, e9, e10, e11, e20, e21, c0, hlt', hlt, hw.addr', hda, hBn, hnB, s8, wi, sr]
               exact ⟨q - 1, by have := hq.out; omega, i + 1, V2, _, _, D :: dn, by have := hq.out; omega, rfl, rfl, ⟨by omega, hr2.out, hwr2.out, by rw [List.length_cons, hdn]⟩⟩
           · have hlt' : ¬ ((i : Nat) : Int) < ((ds.length : Nat) : Int) := by omega
             have hi : i = ds.length := by have := hq.out; omega
             have hfin := hob2.out v' L' cs' hv' (hwo.out dn L' hwr (by rw [hdn, hi]; exact hdr.out) hml0.out hG.out)
             have hatL := fun (i : Nat) (x : RefI) (hi : (objL k r c w L row)[i]? = some x) => refsA_at (objL k r c w L row) [] i x hi
             have hatS := fun (i : Nat) (x : RefI) (hi : (objS k r c w L row)[i]? = some x) => refsA_at (objS k r c w L row) [] i x hi
             rw [List.append_nil] at hatL hatS
             simp only [intV] at hfin
             have hLb : (objL k r c w L row).length ≤ 1000000 := by have := hLl.out; omega
             have hSb : (objS k r c w L row).length ≤ 1000000 := by have := hSl.out; omega
             clear hob2 hwo hG hSLl
             generalize objL k r c w L row = LL at *
             generalize objS k r c w L row = SS at *
             replace hwr := Hid.mk hwr
             replace hv' := Hid.mk hv'
             replace hatL := Hid.mk hatL
             replace hatS := Hid.mk hatS
             simp only [↓pre, simprocAttr, parV, sx, tys14, cellsR, onceTwi, bne, postU, postA, storeE, allocE, me0, put_at, push_at, hf, ho, hz47, hlen0, hw.len', f2, o2, s2, s3, s4, s5, s6, s7, hLr.len', hSr.len', hTr.len', hMr.len', e1, e2, e8, e9, e10, e11, e20, e21, c0, hlt', sr]
             refine call_plain (hfin) (by simp only [parV, plQ, *]) ?_; simp only [↓pre, simprocAttr, parV, sx, tys14, cellsR, onceTwi, bne, postU, postA, storeE, allocE, me0, put_at, push_at, hf, ho, hz47, hlen0, hw.len', f2, o2, s2, s3, s4, s5, s6, s7, hLr.len', hSr.len', hTr.len', hMr.len', e1, e2, e8, e9, e10, e11, e20, e21, c0, sr]
             clear c0 cn
             rw [codeW_loop]
             refine loop_intro (fun q e m => ∃ i, q + i = LL.length ∧ e 10 = LV ∧ e 26 = LV ∧ e 11 = SV ∧ e 27 = SV ∧ e 28 = intV (i : Nat)) LL.length ⟨0, by omega, e10, rfl, e11, rfl, rfl⟩ ?_
             rintro q2 e m2 ⟨i2, hq2, e10, e26, e11, e27, e28⟩
             replace hq2 := Hid.mk hq2
             by_cases hl2 : i2 < LL.length
             · have hl2' : ((i2 : Nat) : Int) < ((LL.length : Nat) : Int) := by omega
               have wi := wrap_succ (n := i2) (by omega)
               obtain ⟨x, hx⟩ : ∃ x, LL[i2]? = some x := ⟨_, List.getElem?_eq_getElem hl2⟩
               obtain ⟨ha, hb⟩ := hatL.out i2 x hx
               obtain ⟨ht, htl⟩ := take2 ha hb
               replace hx := Hid.mk hx
               simp only [↓pre, simprocAttr, parV, sx, tys14, cellsR, onceTwi, bne, postU, postA, storeE, allocE, me0, put_at, push_at, hf, ho, hz47, hlen0, hw.len', f2, o2, s2, s3, s4, s5, s6, s7, hLr.len', hSr.len', hTr.len', hMr.len', e10, e26, e11, e27, e28, hl2', hl2, hLr.addr', ht, htl, ref_same, wi, sr]
               exact ⟨q2 - 1, by have := hq2.out; omega, i2 + 1, by have := hq2.out; omega, rfl⟩
             · have hl2' : ¬ ((i2 : Nat) : Int) < ((LL.length : Nat) : Int) := by omega
               simp only [↓pre, simprocAttr, parV, sx, tys14, cellsR, onceTwi, bne, postU, postA, storeE, allocE, me0, put_at, push_at, hf, ho, hz47, hlen0, hw.len', f2, o2, s2, s3, s4, s5, s6, s7, hLr.len', hSr.len', hTr.len', hMr.len', e10, e26, e11, e27, e28, hl2', sr]
               rw [codeW_loop]
               refine loop_intro (fun q e m => ∃ i, q + i = SS.length ∧ e 11 = SV ∧ e 27 = SV ∧ e 29 = intV (i : Nat)) SS.length ⟨0, by omega, e11, e27, rfl⟩ ?_
               clear e10 e26 e11 e27 e28
               rintro q3 e m3 ⟨i3, hq3, e11, e27, e29⟩
               replace hq3 := Hid.mk hq3
               by_cases hl3 : i3 < SS.length
               · have hl3' : ((i3 : Nat) : Int) < ((SS.length : Nat) : Int) := by omega
                 have wi := wrap_succ (n := i3) (by omega)
                 obtain ⟨x, hx⟩ : ∃ x, SS[i3]? = some x := ⟨_, List.getElem?_eq_getElem hl3⟩
                 obtain ⟨ha, hb⟩ := hatS.out i3 x hx
                 obtain ⟨ht, htl⟩ := take2 ha hb
                 replace hx := Hid.mk hx
                 simp only [↓pre, simprocAttr, parV, sx, tys14, cellsR, onceTwi, bne, postU, postA, storeE, allocE, me0, put_at, push_at, hf, ho, hz47, hlen0, hw.len', f2, o2, s2, s3, s4, s5, s6, s7, hLr.len', hSr.len', hTr.len', hMr.len', e11, e27, e29, hl3', hl3, hSr.addr', ht, htl, ref_same, wi, sr]
                 exact ⟨q3 - 1, by have := hq3.out; omega, i3 + 1, by have := hq3.out; omega, rfl⟩
               · have hl3' : ¬ ((i3 : Nat) : Int) < ((SS.length : Nat) : Int) := by omega
                 simp only [↓pre, simprocAttr, parV, sx, tys14, cellsR, onceTwi, bne, postU, postA, storeE, allocE, me0, put_at, push_at, hf, ho, hz47, hlen0, hw.len', f2, o2, s2, s3, s4, s5, s6, s7, hLr.len', hSr.len', hTr.len', hMr.len', e11, e27, e29, hl3', sr]
                 exact ⟨0, fzT_val⟩
         · refine loop_intro (fun q e m => ∃ i, q + i = SL.length ∧ e 1 = intV row ∧ e 2 = wv ∧ e 3 = .tptr 0 [intV k, intV r, intV c, intV w, v] ∧ e 8 = .tptr 0 [intV PL, intV PD, DV] ∧ e 9 = intV W ∧ e 10 = LV ∧ e 11 = SV ∧ e 13 = TV ∧ e 19 = intV (i : Nat) ∧ Hid (∀ j x, j < i → SL[j]? = some x → goodB k r c w L x)) SL.length ⟨0, by omega, rfl, rfl, rfl, rfl, rfl, rfl, rfl, rfl, rfl, ⟨fun j x h => by omega⟩⟩ ?_
           rintro q e m ⟨i, hq, e1, e2, e3, e8, e9, e10, e11, e13, e19, hJ⟩
           replace hq := Hid.mk hq
           by_cases hlt : i < SL.length
           · have hlt' : ((i : Nat) : Int) < ((SL.length : Nat) : Int) := by omega
             have wi := wrap_succ (n := i) (by have := hSLl.out; have := hLl.out; have := hSl.out; omega)
             by_cases hle : i ≤ (objL k r c w L row).length
             · have hle' : ((i : Nat) : Int) ≤ (((objL k r c w L row).length : Nat) : Int) := by omega
               obtain ⟨x, hx⟩ : ∃ x, SL[i]? = some x := ⟨_, List.getElem?_eq_getElem hlt⟩
               obtain ⟨ha, hb, hc3⟩ := liveA_at SL i x hx
               obtain ⟨ht, htl⟩ := take3 ha hb hc3
               obtain ⟨x1, x2, x3⟩ := hok.out i x hx
               have hso := law17_sound k r c w x.1 x.2.1 x.2.2 v L cells hv x1 x2 x3
               have hte := law17_told k r c w x.1 x.2.1 x.2.2 v L cells hv x1
               have hgd : soundB k r c w (rowL k r w L x.1) x.2.1 x.2.2 = true → r < (telN k r c w (rowL k r w L x.1) x.2.1 x.2.2 (rowL k r w L x.1).length : Nat) → ∀ j y, j < i + 1 → SL[j]? = some y → goodB k r c w L y := fun a1 a2 j y hj hy => by
                 by_cases e : j = i
                 · subst e
                   rw [hx] at hy
                   cases hy
                   exact ⟨a1, a2⟩
                 · exact hJ.out j y (by omega) hy
               unfold imV at hso hte
               generalize soundB k r c w (rowL k r w L x.1) x.2.1 x.2.2 = SB at *
               generalize telN k r c w (rowL k r w L x.1) x.2.1 x.2.2 (rowL k r w L x.1).length = TN at *
               simp only [intV] at hso hte
               replace hx := Hid.mk hx
               replace hgd := Hid.mk hgd
               cases SB with
               | false =>
                 simp only [↓pre, simprocAttr, parV, sx, tys14, cellsR, onceTwi, bne, postU, postA, storeE, allocE, me0, put_at, push_at, hf, ho, hz47, hlen0, hw.len', f2, o2, s2, s3, s4, s5, s6, s7, hLr.len', hSr.len', hTr.len', hMr.len', e1, e2, e3, e8, e9, e10, e11, e13, e19, hlt', hlt, hle', hTr.addr', ht, htl, sr]
                 (refine call_pure (hso) (by simp only [parV, plQ, *]) (by intro k; rfl) ?_); simp only [↓pre, simprocAttr, parV, sx, tys14, cellsR, onceTwi, bne, postU, postA, storeE, allocE, me0, put_at, push_at, hf, ho, hz47, hlen0, hw.len', f2, o2, s2, s3, s4, s5, s6, s7, hLr.len', hSr.len', hTr.len', hMr.len', e1, e2, e3, e8, e9, e10, e11, e13, e19, hlt, hTr.addr', ht, htl, sr]
                 exact ⟨0, fzT_val⟩
               | true =>
                 by_cases htn : ((TN : Nat) : Int) ≤ r
                 · simp only [↓pre, simprocAttr, parV, sx, tys14, cellsR, onceTwi, bne, postU, postA, storeE, allocE, me0, put_at, push_at, hf, ho, hz47, hlen0, hw.len', f2, o2, s2, s3, s4, s5, s6, s7, hLr.len', hSr.len', hTr.len', hMr.len', e1, e2, e3, e8, e9, e10, e11, e13, e19, hlt', hlt, hle', hTr.addr', ht, htl, sr]
                   (refine call_pure (hso) (by simp only [parV, plQ, *]) (by intro k; rfl) ?_); simp only [↓pre, simprocAttr, parV, sx, tys14, cellsR, onceTwi, bne, postU, postA, storeE, allocE, me0, put_at, push_at, hf, ho, hz47, hlen0, hw.len', f2, o2, s2, s3, s4, s5, s6, s7, hLr.len', hSr.len', hTr.len', hMr.len', e1, e2, e3, e8, e9, e10, e11, e13, e19, hlt, hTr.addr', ht, htl, htn, sr]; (refine call_pure (hte) (by simp only [parV, plQ, *]) (by intro k; rfl) ?_); simp only [↓pre, simprocAttr, parV, sx, tys14, cellsR, onceTwi, bne, postU, postA, storeE, allocE, me0, put_at, push_at, hf, ho, hz47, hlen0, hw.len', f2, o2, s2, s3, s4, s5, s6, s7, hLr.len', hSr.len', hTr.len', hMr.len', e1, e2, e3, e8, e9, e10, e11, e13, e19, hlt, hTr.addr', ht, htl, htn, sr]
                   exact ⟨0, fzT_val⟩
                 · have hnext := hgd.out rfl (by omega)
                   replace hnext := Hid.mk hnext
                   simp only [↓pre, simprocAttr, parV, sx, tys14, cellsR, onceTwi, bne, postU, postA, storeE, allocE, me0, put_at, push_at, hf, ho, hz47, hlen0, hw.len', f2, o2, s2, s3, s4, s5, s6, s7, hLr.len', hSr.len', hTr.len', hMr.len', e1, e2, e3, e8, e9, e10, e11, e13, e19, hlt', hlt, hle', hTr.addr', ht, htl, sr]
                   (refine call_pure (hso) (by simp only [parV, plQ, *]) (by intro k; rfl) ?_); simp only [↓pre, simprocAttr, parV, sx, tys14, cellsR, onceTwi, bne, postU, postA, storeE, allocE, me0, put_at, push_at, hf, ho, hz47, hlen0, hw.len', f2, o2, s2, s3, s4, s5, s6, s7, hLr.len', hSr.len', hTr.len', hMr.len', e1, e2, e3, e8, e9, e10, e11, e13, e19, hlt, hTr.addr', ht, htl, htn, wi, sr]; (refine call_pure (hte) (by simp only [parV, plQ, *]) (by intro k; rfl) ?_); simp only [↓pre, simprocAttr, parV, sx, tys14, cellsR, onceTwi, bne, postU, postA, storeE, allocE, me0, put_at, push_at, hf, ho, hz47, hlen0, hw.len', f2, o2, s2, s3, s4, s5, s6, s7, hLr.len', hSr.len', hTr.len', hMr.len', e1, e2, e3, e8, e9, e10, e11, e13, e19, hlt, hTr.addr', ht, htl, htn, wi, sr]
                   exact ⟨q - 1, by have := hq.out; omega, i + 1, by have := hq.out; omega, rfl, hnext⟩
             · have hle' : ¬ ((i : Nat) : Int) ≤ (((objL k r c w L row).length : Nat) : Int) := by omega
               have hdone : ∀ j x, j ≤ (objL k r c w L row).length → SL[j]? = some x → goodB k r c w L x := fun j x hj hx => hJ.out j x (by omega) hx
               replace hdone := Hid.mk hdone
               simp only [↓pre, simprocAttr, parV, sx, tys14, cellsR, onceTwi, bne, postU, postA, storeE, allocE, me0, put_at, push_at, hf, ho, hz47, hlen0, hw.len', f2, o2, s2, s3, s4, s5, s6, s7, hLr.len', hSr.len', hTr.len', hMr.len', e1, e2, e3, e8, e9, e10, e11, e13, e19, hlt', hlt, hle', sr]
               exact hdone
           · have hlt' : ¬ ((i : Nat) : Int) < ((SL.length : Nat) : Int) := by omega
             have hdone : ∀ j x, j ≤ (objL k r c w L row).length → SL[j]? = some x → goodB k r c w L x := fun j x hj hx => hJ.out j x (by have := (List.getElem?_eq_some_iff.1 hx).1; omega) hx
             replace hdone := Hid.mk hdone
             simp only [↓pre, simprocAttr, parV, sx, tys14, cellsR, onceTwi, bne, postU, postA, storeE, allocE, me0, put_at, push_at, hf, ho, hz47, hlen0, hw.len', f2, o2, s2, s3, s4, s5, s6, s7, hLr.len', hSr.len', hTr.len', hMr.len', e1, e2, e3, e8, e9, e10, e11, e13, e19, hlt', sr]
             exact hdone
       · have hml1 : (0 : Int) < ((ML.length : Nat) : Int) := by omega
         replace hdr := Hid.mk hdr
         replace hml0 := Hid.mk hml0
         refine ospec_of_body follows Tryz.func14 (by unfold Tryz.f14; rfl) (by unfold Tryz.f14; simp) onceTwi (by unfold Tryz.f14; simp) (by kernel_rfl) ?_; unfold Tryz.f14
         simp only [↓pre, simprocAttr, parV, sx, tys14, cellsR, onceTwi, bne, postU, postA, storeE, allocE, me0, put_at, push_at, hf, ho, hz47, hlen0, hw.len', f2, o2, s2, s3, s4, s5, s6, s7, hLr.len', hSr.len', hTr.len', hMr.len', sr]
         refine call_plain (haw) (by rfl) ?_; simp only [↓pre, simprocAttr, parV, sx, tys14, cellsR, onceTwi, bne, postU, postA, storeE, allocE, me0, put_at, push_at, hf, ho, hz47, hlen0, hw.len', f2, o2, s2, s3, s4, s5, s6, s7, hLr.len', hSr.len', hTr.len', hMr.len', hdr', hml1, sr]; refine call_plain (hbi) (by simp only [parV, plQ, *]) ?_; simp only [↓pre, simprocAttr, parV, sx, tys14, cellsR, onceTwi, bne, postU, postA, storeE, allocE, me0, put_at, push_at, hf, ho, hz47, hlen0, hw.len', f2, o2, s2, s3, s4, s5, s6, s7, hLr.len', hSr.len', hTr.len', hMr.len', hdr', hml1, sr]; refine call_plain (hob) (by simp only [parV, plQ, *]) ?_; simp only [↓pre, simprocAttr, parV, sx, tys14, cellsR, onceTwi, bne, postU, postA, storeE, allocE, me0, put_at, push_at, hf, ho, hz47, hlen0, hw.len', f2, o2, s2, s3, s4, s5, s6, s7, hLr.len', hSr.len', hTr.len', hMr.len', hdr', hml1, sr]; refine call_plain (hst) (by simp only [parV, plQ, *]) ?_; simp only [↓pre, simprocAttr, parV, sx, tys14, cellsR, onceTwi, bne, postU, postA, storeE, allocE, me0, put_at, push_at, hf, ho, hz47, hlen0, hw.len', f2, o2, s2, s3, s4, s5, s6, s7, hLr.len', hSr.len', hTr.len', hMr.len', hdr', hml1, sr]; refine call_plain (hro) (by simp only [parV, plQ, *]) ?_; simp only [↓pre, simprocAttr, parV, sx, tys14, cellsR, onceTwi, bne, postU, postA, storeE, allocE, me0, put_at, push_at, hf, ho, hz47, hlen0, hw.len', f2, o2, s2, s3, s4, s5, s6, s7, hLr.len', hSr.len', hTr.len', hMr.len', hdr', hml1, sr]; refine call_plain (hmi) (by simp only [parV, plQ, *]) ?_; simp only [↓pre, simprocAttr, parV, sx, tys14, cellsR, onceTwi, bne, postU, postA, storeE, allocE, me0, put_at, push_at, hf, ho, hz47, hlen0, hw.len', f2, o2, s2, s3, s4, s5, s6, s7, hLr.len', hSr.len', hTr.len', hMr.len', hdr', hml1, sr]
         exact ⟨0, fzT_val⟩
     · have hdr' : r < ((ds.length : Nat) : Int) := by omega
       replace hdr := Hid.mk hdr
       refine ospec_of_body follows Tryz.func14 (by unfold Tryz.f14; rfl) (by unfold Tryz.f14; simp) onceTwi (by unfold Tryz.f14; simp) (by kernel_rfl) ?_; unfold Tryz.f14
       simp only [↓pre, simprocAttr, parV, sx, tys14, cellsR, onceTwi, bne, postU, postA, storeE, allocE, me0, put_at, push_at, hf, ho, hz47, hlen0, hw.len', f2, o2, s2, s3, s4, s5, s6, s7, hLr.len', hSr.len', hTr.len', hMr.len', sr]
       refine call_plain (haw) (by rfl) ?_; simp only [↓pre, simprocAttr, parV, sx, tys14, cellsR, onceTwi, bne, postU, postA, storeE, allocE, me0, put_at, push_at, hf, ho, hz47, hlen0, hw.len', f2, o2, s2, s3, s4, s5, s6, s7, hLr.len', hSr.len', hTr.len', hMr.len', hdr', sr]; refine call_plain (hbi) (by simp only [parV, plQ, *]) ?_; simp only [↓pre, simprocAttr, parV, sx, tys14, cellsR, onceTwi, bne, postU, postA, storeE, allocE, me0, put_at, push_at, hf, ho, hz47, hlen0, hw.len', f2, o2, s2, s3, s4, s5, s6, s7, hLr.len', hSr.len', hTr.len', hMr.len', hdr', sr]; refine call_plain (hob) (by simp only [parV, plQ, *]) ?_; simp only [↓pre, simprocAttr, parV, sx, tys14, cellsR, onceTwi, bne, postU, postA, storeE, allocE, me0, put_at, push_at, hf, ho, hz47, hlen0, hw.len', f2, o2, s2, s3, s4, s5, s6, s7, hLr.len', hSr.len', hTr.len', hMr.len', hdr', sr]
       exact ⟨0, fzT_val⟩
   · rw [if_neg hO] at hob
     unfold desc0 nilS at hob
     simp only [intV] at hob
     refine ospec_of_body follows Tryz.func14 (by unfold Tryz.f14; rfl) (by unfold Tryz.f14; simp) onceTwi (by unfold Tryz.f14; simp) (by kernel_rfl) ?_; unfold Tryz.f14
     simp only [↓pre, simprocAttr, parV, sx, tys14, cellsR, onceTwi, bne, postU, postA, storeE, allocE, me0, put_at, push_at, hf, ho, hz47, hlen0, hw.len', sr]
     refine call_plain (haw) (by rfl) ?_; simp only [↓pre, simprocAttr, parV, sx, tys14, cellsR, onceTwi, bne, postU, postA, storeE, allocE, me0, put_at, push_at, hf, ho, hz47, hlen0, hw.len', hO, sr]; refine call_plain (hbi) (by simp only [parV, plQ, *]) ?_; simp only [↓pre, simprocAttr, parV, sx, tys14, cellsR, onceTwi, bne, postU, postA, storeE, allocE, me0, put_at, push_at, hf, ho, hz47, hlen0, hw.len', hO, sr]; refine call_plain (hob) (by simp only [parV, plQ, *]) ?_; simp only [↓pre, simprocAttr, parV, sx, tys14, cellsR, onceTwi, bne, postU, postA, storeE, allocE, me0, put_at, push_at, hf, ho, hz47, hlen0, hw.len', hO, sr]
     exact ⟨0, fzT_val⟩
end Go.Proofs.YtaekhhlgnbhnpaaGreat