import Derived.Test.YtaekhhlgnbhnpaaGreatOpcG21
set_option linter.unusedVariables false
set_option linter.unusedSimpArgs false
set_option maxRecDepth 10000
namespace Go.Proofs.YtaekhhlgnbhnpaaGreat
open Go Go.Tw Go.Proofs Go.Gf
theorem object_asked (k r c w row : Int) (v : AV) (L : List (List UInt8)) (cells : List AV) (hv : RowsV v L cells) : FSpec Tryz.prog 100 [imV k r c w v, intV row] ⟨intV (rowE k r c w L row), []⟩ := by
 have hp := hv.rd.plain
 have hf := rd_fz hv.rd
 have ho := rd_one hv.rd
 have hck := image_Check k r c w v L cells hv
 unfold rowE
 unfold imV at hck ⊢
 by_cases hE : imE k r c w L = 0
 · rw [hE] at hck
   rw [if_pos hE]
   replace hE := Hid.mk hE
   by_cases hrow : row < 0 ∨ w ≤ row
   · rw [if_pos hrow]
     by_cases h1 : row < 0
     · refine fspec_of_body follows Tryz.func100 (by unfold Tryz.f100; rfl) (by unfold Tryz.f100; simp) onceA (by unfold Tryz.f100; simp) (by kernel_rfl) ?_; unfold Tryz.f100
       simp only [↓pre, simprocAttr, parV, sx, tys100, onceA, postU, hf, ho, sr]
       (first | refine call_plain (hck) (by first | rfl | simp only [parV, plQ, *]) ?_ | refine call_pure (hck) (by first | rfl | simp only [parV, plQ, *]) (by intro k; first | rfl | simp only [sq, sr, *]) ?_); simp only [↓pre, simprocAttr, parV, sx, tys100, onceA, postU, hf, ho, h1, sr]
     · have h2 : w ≤ row := by omega
       refine fspec_of_body follows Tryz.func100 (by unfold Tryz.f100; rfl) (by unfold Tryz.f100; simp) onceA (by unfold Tryz.f100; simp) (by kernel_rfl) ?_; unfold Tryz.f100
       simp only [↓pre, simprocAttr, parV, sx, tys100, onceA, postU, hf, ho, sr]
       (first | refine call_plain (hck) (by first | rfl | simp only [parV, plQ, *]) ?_ | refine call_pure (hck) (by first | rfl | simp only [parV, plQ, *]) (by intro k; first | rfl | simp only [sq, sr, *]) ?_); simp only [↓pre, simprocAttr, parV, sx, tys100, onceA, postU, hf, ho, h1, h2, sr]
   · rw [if_neg hrow]
     have h1 : ¬ row < 0 := by omega
     have h2 : ¬ w ≤ row := by omega
     refine fspec_of_body follows Tryz.func100 (by unfold Tryz.f100; rfl) (by unfold Tryz.f100; simp) onceA (by unfold Tryz.f100; simp) (by kernel_rfl) ?_; unfold Tryz.f100
     simp only [↓pre, simprocAttr, parV, sx, tys100, onceA, postU, hf, ho, sr]
     (first | refine call_plain (hck) (by first | rfl | simp only [parV, plQ, *]) ?_ | refine call_pure (hck) (by first | rfl | simp only [parV, plQ, *]) (by intro k; first | rfl | simp only [sq, sr, *]) ?_); simp only [↓pre, simprocAttr, parV, sx, tys100, onceA, postU, hf, ho, h1, h2, sr]
 · rw [if_neg hE]
   refine fspec_of_body follows Tryz.func100 (by unfold Tryz.f100; rfl) (by unfold Tryz.f100; simp) onceA (by unfold Tryz.f100; simp) (by kernel_rfl) ?_; unfold Tryz.f100
   simp only [↓pre, simprocAttr, parV, sx, tys100, onceA, postU, hf, ho, sr]
   (first | refine call_plain (hck) (by first | rfl | simp only [parV, plQ, *]) ?_ | refine call_pure (hck) (by first | rfl | simp only [parV, plQ, *]) (by intro k; first | rfl | simp only [sq, sr, *]) ?_); simp only [↓pre, simprocAttr, parV, sx, tys100, onceA, postU, hf, ho, hE, sr]
def lenO (k r c w : Int) (L : List (List UInt8)) (row : Int) : Int := if rowE k r c w L row = 0 then comE k r c w (rowL k r w L row) else rowE k r c w L row
theorem object_Length (k r c w row : Int) (v : AV) (L : List (List UInt8)) (cells : List AV) (hv : RowsV v L cells) : FSpec Tryz.prog 27 [imV k r c w v, intV row] ⟨.tup [intV (if lenO k r c w L row = 0 then pLen (objD k r c w L row) else 0), intV (lenO k r c w L row)], []⟩ := by
 have hp := hv.rd.plain
 have hf := rd_fz hv.rd
 have ho := rd_one hv.rd
 have hck := object_asked k r c w row v L cells hv
 have hrw := image_Row k r c w row v L cells hv
 unfold lenO objD
 unfold imV at hck hrw ⊢
 unfold rowVal at hrw
 by_cases hR : rowE k r c w L row = 0
 · rw [hR] at hck
   rw [if_pos hR] at hrw
   simp only [if_pos hR]
   obtain ⟨hrb, hm⟩ := row_rowB hR
   have hmn := may_n hm
   have hrv := row_rowV k r c w L row (by omega)
   have hcr := commit_Read k r c w _ _ _ hrv
   have hpr := hrv.rd.plain
   have hsr := rd_shift hrv.rd
   have hRr := treeR_rd (pRefs (comD k r c w (rowL k r w L row))).length (refsA (pRefs (comD k r c w (rowL k r w L row))))
   generalize treeR (k + r).toNat (prA (rowL k r w L row)) = RV at *
   generalize rowL k r w L row = ps at *
   unfold comV descA desc0 at hcr
   have f2 := rd_fz hRr
   have o2 := rd_one hRr
   have s2 := rd_shift hRr
   generalize treeR (pRefs (comD k r c w ps)).length (refsA (pRefs (comD k r c w ps))) = DV at *
   replace hR := Hid.mk hR
   replace hmn := Hid.mk hmn
   replace hrv := Hid.mk hrv
   replace hRr := Hid.mk hRr
   by_cases hC : comE k r c w ps = 0
   · rw [if_pos hC] at hcr
     rw [if_pos hC, hC]
     simp only [intV] at hcr hrw
     replace hC := Hid.mk hC
     refine fspec_of_body follows Tryz.func27 (by unfold Tryz.f27; rfl) (by unfold Tryz.f27; simp) onceA (by unfold Tryz.f27; simp) (by kernel_rfl) ?_; unfold Tryz.f27
     simp only [↓pre, simprocAttr, parV, sx, tys27, onceA, postU, hf, ho, storeE, allocE, put_at, push_at, sr]
     (first | refine call_plain (hck) (by first | rfl | simp only [parV, plQ, *]) ?_ | refine call_pure (hck) (by first | rfl | simp only [parV, plQ, *]) (by intro k; first | rfl | simp only [sq, sr, *]) ?_); simp only [↓pre, simprocAttr, parV, sx, tys27, onceA, postU, hf, ho, storeE, allocE, put_at, push_at, hsr, f2, o2, s2, sr]; (first | refine call_plain (hrw) (by first | rfl | simp only [parV, plQ, *]) ?_ | refine call_pure (hrw) (by first | rfl | simp only [parV, plQ, *]) (by intro k; first | rfl | simp only [sq, sr, *]) ?_); simp only [↓pre, simprocAttr, parV, sx, tys27, onceA, postU, hf, ho, storeE, allocE, put_at, push_at, hsr, f2, o2, s2, sr]; (first | refine call_plain (hcr) (by first | rfl | simp only [parV, plQ, *]) ?_ | refine call_pure (hcr) (by first | rfl | simp only [parV, plQ, *]) (by intro k; first | rfl | simp only [sq, sr, *]) ?_); simp only [↓pre, simprocAttr, parV, sx, tys27, onceA, postU, hf, ho, storeE, allocE, put_at, push_at, hsr, f2, o2, s2, sr]
   · rw [if_neg hC] at hcr
     rw [if_neg hC]
     simp only [intV, nilS] at hcr hrw
     refine fspec_of_body follows Tryz.func27 (by unfold Tryz.f27; rfl) (by unfold Tryz.f27; simp) onceA (by unfold Tryz.f27; simp) (by kernel_rfl) ?_; unfold Tryz.f27
     simp only [↓pre, simprocAttr, parV, sx, tys27, onceA, postU, hf, ho, storeE, allocE, put_at, push_at, sr]
     (first | refine call_plain (hck) (by first | rfl | simp only [parV, plQ, *]) ?_ | refine call_pure (hck) (by first | rfl | simp only [parV, plQ, *]) (by intro k; first | rfl | simp only [sq, sr, *]) ?_); simp only [↓pre, simprocAttr, parV, sx, tys27, onceA, postU, hf, ho, storeE, allocE, put_at, push_at, hsr, f2, o2, s2, hC, sr]; (first | refine call_plain (hrw) (by first | rfl | simp only [parV, plQ, *]) ?_ | refine call_pure (hrw) (by first | rfl | simp only [parV, plQ, *]) (by intro k; first | rfl | simp only [sq, sr, *]) ?_); simp only [↓pre, simprocAttr, parV, sx, tys27, onceA, postU, hf, ho, storeE, allocE, put_at, push_at, hsr, f2, o2, s2, hC, sr]; (first | refine call_plain (hcr) (by first | rfl | simp only [parV, plQ, *]) ?_ | refine call_pure (hcr) (by first | rfl | simp only [parV, plQ, *]) (by intro k; first | rfl | simp only [sq, sr, *]) ?_); simp only [↓pre, simprocAttr, parV, sx, tys27, onceA, postU, hf, ho, storeE, allocE, put_at, push_at, hsr, f2, o2, s2, hC, sr]
 · simp only [if_neg hR]
   refine fspec_of_body follows Tryz.func27 (by unfold Tryz.f27; rfl) (by unfold Tryz.f27; simp) onceA (by unfold Tryz.f27; simp) (by kernel_rfl) ?_; unfold Tryz.f27
   simp only [↓pre, simprocAttr, parV, sx, tys27, onceA, postU, hf, ho, storeE, allocE, put_at, push_at, sr]
   (first | refine call_plain (hck) (by first | rfl | simp only [parV, plQ, *]) ?_ | refine call_pure (hck) (by first | rfl | simp only [parV, plQ, *]) (by intro k; first | rfl | simp only [sq, sr, *]) ?_); simp only [↓pre, simprocAttr, parV, sx, tys27, onceA, postU, hf, ho, storeE, allocE, put_at, push_at, hR, sr]
theorem refsOk_at {w : Int} {l : List RefI} (h : refsOk w l = true) : ∀ x ∈ l, refB w x = true := fun x hx => List.all_eq_true.1 h x hx
theorem leaves_refs {k r c w : Int} {L : List (List UInt8)} (hk : lI k c ≤ 128) : ∀ (l : List RefI) (n : Int), leavesE k r c w L l n = 0 → (∀ x ∈ leavesR k r c w L l n, refB w x = true) ∧ (leavesR k r c w L l n).length ≤ l.length * 128
 | [], n, _ => ⟨fun x hx => by simp [leavesR] at hx, by simp [leavesR]⟩
 | y :: l, n, h => by
   unfold leavesE at h
   split at h
   · rename_i h1
     obtain ⟨h2, h3⟩ := leaves_refs hk l _ h
     obtain ⟨hn1, hn2⟩ := leaf_ok h1
     unfold leavesR
     refine ⟨fun x hx => ?_, ?_⟩
     · rcases List.mem_append.1 hx with hx | hx
       · unfold leafE at h1
         split at h1
         · omega
         · unfold refsE at h1
           split at h1
           · omega
           · split at h1
             · rename_i h4
               exact refsOk_at h4.1 x hx
             · omega
       · exact h2 x hx
     · rw [List.length_append, leafR_len, List.length_cons]
       omega
   · contradiction
theorem obj_refs {k r c w : Int} {L : List (List UInt8)} {row : Int} (h : objE k r c w L row = 0) : imE k r c w L = 0 ∧ rowE k r c w L row = 0 ∧ comE k r c w (rowL k r w L row) = 0 ∧ (∀ x ∈ objS k r c w L row, refB w x = true) ∧ (objS k r c w L row).length ≤ 20000 ∧ 0 ≤ pLen (objD k r c w L row) ∧ pLen (objD k r c w L row) ≤ 32768 := by
 unfold objE at h
 split at h
 · rename_i hR
   split at h
   · rename_i hC
     have hD := com_desc hC
     obtain ⟨hl0, hl1, hdep, hll, hlr⟩ := desc_bounds hD
     obtain ⟨hrb, hm⟩ := row_rowB hR
     have hw := may_w hm
     have hdb := d_bounds hw.1 hw.2
     have hlb := l_bounds hw.1 hw.2
     have hE : imE k r c w L = 0 := by
       unfold rowE at hR
       split at hR
       · assumption
       · assumption
     refine ⟨hE, hR, hC, ?_⟩
     have hPR : (pRefs (objD k r c w L row)).length ≤ 126 := by unfold dI at hll; unfold objD; omega
     have hre : ∀ x ∈ pRefs (objD k r c w L row), refB w x = true := fun x hx => by
       have := hlr x hx
       unfold refB
       exact decide_eq_true this
     unfold objS
     split at h
     · rename_i hd
       rw [if_pos hd]
       exact ⟨hre, by omega, hl0, hl1⟩
     · rename_i hd
       rw [if_neg hd]
       obtain ⟨h1, h2⟩ := leaves_refs (by unfold lI; omega) _ _ h
       exact ⟨h1, by omega, hl0, hl1⟩
   · contradiction
 · contradiction
def bytV (k r c w : Int) (L : List (List UInt8)) (row : Int) : AV := if objE k r c w L row = 0 then cutV k r c w L (objS k r c w L row) 0 (pLen (objD k r c w L row)).toNat else .tup [nilS, intV (objE k r c w L row)]
theorem cutV_two (k r c w : Int) (L : List (List UInt8)) (l : List RefI) (fr to : Nat) : ∃ a e, cutV k r c w L l fr to = .tup [a, intV e] ∧ (∀ j, shift j a = a) ∧ fzId a := by
 have h := taken_rd (cutB k r c w L l fr to)
 unfold cutV
 split
 · exact ⟨_, _, rfl, fun j => rd_shift h j, fzId_rd h⟩
 · exact ⟨_, _, rfl, fun j => rfl, fzId_val _⟩
theorem object_Bytes (k r c w row : Int) (v : AV) (L : List (List UInt8)) (cells : List AV) (hv : RowsV v L cells) : FSpec Tryz.prog 29 [imV k r c w v, intV row] ⟨bytV k r c w L row, []⟩ := by
 refine fspec_fzT ?_
 have hp := hv.rd.plain
 have hf := rd_fz hv.rd
 have ho := rd_one hv.rd
 have hob := tree_Object k r c w row v L cells hv
 unfold bytV
 unfold objV at hob
 unfold imV at hob ⊢
 by_cases hE : objE k r c w L row = 0
 · rw [if_pos hE] at hob ⊢
   obtain ⟨hI, _, _, hre, hlen, hl0, hl1⟩ := obj_refs hE
   obtain ⟨N, hN⟩ : ∃ N : Nat, pLen (objD k r c w L row) = (N : Int) := ⟨(pLen (objD k r c w L row)).toNat, by omega⟩
   have hRr := treeR_rd (pRefs (objD k r c w L row)).length (refsA (pRefs (objD k r c w L row)))
   have hLr := treeR_rd (objL k r c w L row).length (refsA (objL k r c w L row))
   have hSr := treeR_rd (objS k r c w L row).length (refsA (objS k r c w L row))
   have hcu := object_cut k r c w v L cells hv hI (treeR (objS k r c w L row).length (refsA (objS k r c w L row))) (objS k r c w L row) ⟨[], by rw [List.append_nil]; exact hSr⟩ hre hlen 0 N (by omega)
   obtain ⟨a, e, he, hsh, hid⟩ := cutV_two k r c w L (objS k r c w L row) 0 N
   have hz := fun m => fzId_two hid (fzId_val (.int .i64 e)) 1 m
   replace hz := Hid.mk hz
   rw [hN, Int.toNat_natCast, he]
   rw [he] at hcu
   unfold descA refsT at hob
   unfold imV at hcu
   rw [hN] at hob
   generalize treeR (pRefs (objD k r c w L row)).length (refsA (pRefs (objD k r c w L row))) = DV at *
   generalize treeR (objL k r c w L row).length (refsA (objL k r c w L row)) = LV at *
   generalize treeR (objS k r c w L row).length (refsA (objS k r c w L row)) = SV at *
   have f2 := rd_fz hRr
   have o2 := rd_one hRr
   have s2 := rd_shift hRr
   have s3 := rd_shift hLr
   have s4 := rd_shift hSr
   have p4 := hSr.plain
   generalize pDep (objD k r c w L row) = PD at *
   generalize winI k r c w (rowL k r w L row) = W at *
   simp only [intV, Int.natCast_zero, Int.cast_ofNat_Int] at hob hcu
   replace hE := Hid.mk hE
   replace hN := Hid.mk hN
   replace hre := Hid.mk hre
   replace hlen := Hid.mk hlen
   replace hl0 := Hid.mk hl0
   replace hl1 := Hid.mk hl1
   replace he := Hid.mk he
   replace hRr := Hid.mk hRr
   replace hLr := Hid.mk hLr
   replace hSr := Hid.mk hSr
   refine ospec_of_body follows Tryz.func29 (by unfold Tryz.f29; rfl) (by unfold Tryz.f29; simp) onceA (by unfold Tryz.f29; simp) (by kernel_rfl) ?_; unfold Tryz.f29
   simp only [↓pre, simprocAttr, parV, sx, tys29, onceA, postU, hf, ho, storeE, allocE, put_at, push_at, sr]
   (first | refine call_plain (hob) (by first | rfl | simp only [parV, plQ, *]) ?_ | refine call_pure (hob) (by first | rfl | simp only [parV, plQ, *]) (by intro k; first | rfl | simp only [sq, sr, *]) ?_); simp only [↓pre, simprocAttr, parV, sx, tys29, onceA, postU, hf, ho, storeE, allocE, put_at, push_at, f2, o2, s2, s3, s4, hsh, sr]; (first | refine call_plain (hcu) (by first | rfl | simp only [parV, plQ, *]) ?_ | refine call_pure (hcu) (by first | rfl | simp only [parV, plQ, *]) (by intro k; first | rfl | simp only [sq, sr, *]) ?_); simp only [↓pre, simprocAttr, parV, sx, tys29, onceA, postU, hf, ho, storeE, allocE, put_at, push_at, f2, o2, s2, s3, s4, hsh, sr]
   exact ⟨1, hz.out _⟩
 · rw [if_neg hE] at hob ⊢
   unfold desc0 nilS at hob
   simp only [intV] at hob
   refine ospec_of_body follows Tryz.func29 (by unfold Tryz.f29; rfl) (by unfold Tryz.f29; simp) onceA (by unfold Tryz.f29; simp) (by kernel_rfl) ?_; unfold Tryz.f29
   simp only [↓pre, simprocAttr, parV, sx, tys29, onceA, postU, hf, ho, storeE, allocE, put_at, push_at, sr]
   (first | refine call_plain (hob) (by first | rfl | simp only [parV, plQ, *]) ?_ | refine call_pure (hob) (by first | rfl | simp only [parV, plQ, *]) (by intro k; first | rfl | simp only [sq, sr, *]) ?_); simp only [↓pre, simprocAttr, parV, sx, tys29, onceA, postU, hf, ho, storeE, allocE, put_at, push_at, hE, sr]
   exact ⟨1, fzId_two (fzId_val (.slice none 0 0)) (fzId_val (.int .i64 (objE k r c w L row))) 1 _⟩
def prtE (k r c w : Int) (L : List (List UInt8)) (row off n : Int) : Int := if rowE k r c w L row = 0 then (if off < 0 ∨ n < 0 then 2 else if mI k c < off ∨ mI k c - off < n then 3 else objE k r c w L row) else rowE k r c w L row
def prtV (k r c w : Int) (L : List (List UInt8)) (row off n : Int) : AV := if prtE k r c w L row off n = 0 then cutV k r c w L (objS k r c w L row) off.toNat (min (off + n) (pLen (objD k r c w L row))).toNat else .tup [nilS, intV (prtE k r c w L row off n)]
theorem object_Part (k r c w row off n : Int) (v : AV) (L : List (List UInt8)) (cells : List AV) (hv : RowsV v L cells) : FSpec Tryz.prog 31 [imV k r c w v, intV row, intV off, intV n] ⟨prtV k r c w L row off n, []⟩ := by
 refine fspec_fzT ?_
 have hp := hv.rd.plain
 have hf := rd_fz hv.rd
 have ho := rd_one hv.rd
 have hck := object_asked k r c w row v L cells hv
 have hob := tree_Object k r c w row v L cells hv
 have hmo := layout_Most k r c w
 unfold prtV prtE
 unfold objV at hob
 unfold imV at hck hob ⊢
 by_cases hR : rowE k r c w L row = 0
 · rw [hR] at hck
   rw [if_pos hR]
   obtain ⟨_, hm⟩ := row_rowB hR
   simp only [hm, if_true] at hmo
   have hml := m_le k c
   by_cases h1 : off < 0
   · rw [if_pos (Or.inl h1), if_neg (by decide)]
     refine ospec_of_body follows Tryz.func31 (by unfold Tryz.f31; rfl) (by unfold Tryz.f31; simp) onceA (by unfold Tryz.f31; simp) (by kernel_rfl) ?_; unfold Tryz.f31
     simp only [↓pre, simprocAttr, parV, sx, tys31, onceA, postU, hf, ho, storeE, allocE, put_at, push_at, sr]
     (first | refine call_plain (hck) (by first | rfl | simp only [parV, plQ, *]) ?_ | refine call_pure (hck) (by first | rfl | simp only [parV, plQ, *]) (by intro k; first | rfl | simp only [sq, sr, *]) ?_); simp only [↓pre, simprocAttr, parV, sx, tys31, onceA, postU, hf, ho, storeE, allocE, put_at, push_at, h1, sr]
     exact ⟨1, fzId_two (fzId_val (.slice none 0 0)) (fzId_val (.int .i64 2)) 1 _⟩
   · by_cases h2 : n < 0
     · rw [if_pos (Or.inr h2), if_neg (by decide)]
       refine ospec_of_body follows Tryz.func31 (by unfold Tryz.f31; rfl) (by unfold Tryz.f31; simp) onceA (by unfold Tryz.f31; simp) (by kernel_rfl) ?_; unfold Tryz.f31
       simp only [↓pre, simprocAttr, parV, sx, tys31, onceA, postU, hf, ho, storeE, allocE, put_at, push_at, sr]
       (first | refine call_plain (hck) (by first | rfl | simp only [parV, plQ, *]) ?_ | refine call_pure (hck) (by first | rfl | simp only [parV, plQ, *]) (by intro k; first | rfl | simp only [sq, sr, *]) ?_); simp only [↓pre, simprocAttr, parV, sx, tys31, onceA, postU, hf, ho, storeE, allocE, put_at, push_at, h1, h2, sr]
       exact ⟨1, fzId_two (fzId_val (.slice none 0 0)) (fzId_val (.int .i64 2)) 1 _⟩
     · rw [if_neg (show ¬ (off < 0 ∨ n < 0) by omega)]
       by_cases h3 : mI k c < off
       · rw [if_pos (Or.inl h3), if_neg (by decide)]
         refine ospec_of_body follows Tryz.func31 (by unfold Tryz.f31; rfl) (by unfold Tryz.f31; simp) onceA (by unfold Tryz.f31; simp) (by kernel_rfl) ?_; unfold Tryz.f31
         simp only [↓pre, simprocAttr, parV, sx, tys31, onceA, postU, hf, ho, storeE, allocE, put_at, push_at, sr]
         (first | refine call_plain (hck) (by first | rfl | simp only [parV, plQ, *]) ?_ | refine call_pure (hck) (by first | rfl | simp only [parV, plQ, *]) (by intro k; first | rfl | simp only [sq, sr, *]) ?_); simp only [↓pre, simprocAttr, parV, sx, tys31, onceA, postU, hf, ho, storeE, allocE, put_at, push_at, h1, h2, h3, sr]; (first | refine call_plain (hmo) (by first | rfl | simp only [parV, plQ, *]) ?_ | refine call_pure (hmo) (by first | rfl | simp only [parV, plQ, *]) (by intro k; first | rfl | simp only [sq, sr, *]) ?_); simp only [↓pre, simprocAttr, parV, sx, tys31, onceA, postU, hf, ho, storeE, allocE, put_at, push_at, h1, h2, h3, sr]
         exact ⟨1, fzId_two (fzId_val (.slice none 0 0)) (fzId_val (.int .i64 3)) 1 _⟩
       · have ws : IntKind.i64.wrap (mI k c - off) = mI k c - off := wrap_id (by omega) (by omega)
         by_cases h4 : mI k c - off < n
         · rw [if_pos (Or.inr h4), if_neg (by decide)]
           replace hml := Hid.mk hml
           refine ospec_of_body follows Tryz.func31 (by unfold Tryz.f31; rfl) (by unfold Tryz.f31; simp) onceA (by unfold Tryz.f31; simp) (by kernel_rfl) ?_; unfold Tryz.f31
           simp only [↓pre, simprocAttr, parV, sx, tys31, onceA, postU, hf, ho, storeE, allocE, put_at, push_at, sr]
           (first | refine call_plain (hck) (by first | rfl | simp only [parV, plQ, *]) ?_ | refine call_pure (hck) (by first | rfl | simp only [parV, plQ, *]) (by intro k; first | rfl | simp only [sq, sr, *]) ?_); simp only [↓pre, simprocAttr, parV, sx, tys31, onceA, postU, hf, ho, storeE, allocE, put_at, push_at, h1, h2, h3, ws, h4, sr]; (first | refine call_plain (hmo) (by first | rfl | simp only [parV, plQ, *]) ?_ | refine call_pure (hmo) (by first | rfl | simp only [parV, plQ, *]) (by intro k; first | rfl | simp only [sq, sr, *]) ?_); simp only [↓pre, simprocAttr, parV, sx, tys31, onceA, postU, hf, ho, storeE, allocE, put_at, push_at, h1, h2, h3, ws, h4, sr]
           exact ⟨1, fzId_two (fzId_val (.slice none 0 0)) (fzId_val (.int .i64 3)) 1 _⟩
         · rw [if_neg (show ¬ (mI k c < off ∨ mI k c - off < n) by omega)]
           have wo : IntKind.i64.wrap (off + n) = off + n := wrap_id (by omega) (by omega)
           by_cases hE : objE k r c w L row = 0
           · rw [if_pos hE] at hob ⊢
             obtain ⟨hI, _, _, hre, hlen, hl0, hl1⟩ := obj_refs hE
             obtain ⟨A, hA⟩ : ∃ A : Nat, off = (A : Int) := ⟨off.toNat, by omega⟩
             obtain ⟨Z, hZ⟩ : ∃ Z : Nat, min (off + n) (pLen (objD k r c w L row)) = (Z : Int) := ⟨(min (off + n) (pLen (objD k r c w L row))).toNat, by omega⟩
             have hRr := treeR_rd (pRefs (objD k r c w L row)).length (refsA (pRefs (objD k r c w L row)))
             have hLr := treeR_rd (objL k r c w L row).length (refsA (objL k r c w L row))
             have hSr := treeR_rd (objS k r c w L row).length (refsA (objS k r c w L row))
             have hcu := object_cut k r c w v L cells hv hI (treeR (objS k r c w L row).length (refsA (objS k r c w L row))) (objS k r c w L row) ⟨[], by rw [List.append_nil]; exact hSr⟩ hre hlen A Z (by omega)
             obtain ⟨a, e, he, hsh, hid⟩ := cutV_two k r c w L (objS k r c w L row) A Z
             have hz := fun m => fzId_two hid (fzId_val (.int .i64 e)) 1 m
             replace hz := Hid.mk hz
             rw [hZ, Int.toNat_natCast, show off.toNat = A by omega, he]
             rw [he] at hcu
             rw [← hA] at hcu
             unfold descA refsT at hob
             unfold imV at hcu
             generalize treeR (pRefs (objD k r c w L row)).length (refsA (pRefs (objD k r c w L row))) = DV at *
             generalize treeR (objL k r c w L row).length (refsA (objL k r c w L row)) = LV at *
             generalize treeR (objS k r c w L row).length (refsA (objS k r c w L row)) = SV at *
             have f2 := rd_fz hRr
             have o2 := rd_one hRr
             have s2 := rd_shift hRr
             have s3 := rd_shift hLr
             have s4 := rd_shift hSr
             have p4 := hSr.plain
             generalize pLen (objD k r c w L row) = PL at *
             generalize pDep (objD k r c w L row) = PD at *
             generalize winI k r c w (rowL k r w L row) = W at *
             simp only [intV] at hob hcu
             replace hE := Hid.mk hE
             replace hre := Hid.mk hre
             replace hlen := Hid.mk hlen
             replace hl0 := Hid.mk hl0
             replace hl1 := Hid.mk hl1
             replace he := Hid.mk he
             replace hRr := Hid.mk hRr
             replace hLr := Hid.mk hLr
             replace hSr := Hid.mk hSr
             replace hA := Hid.mk hA
             replace hml := Hid.mk hml
             refine ospec_of_body follows Tryz.func31 (by unfold Tryz.f31; rfl) (by unfold Tryz.f31; simp) onceA (by unfold Tryz.f31; simp) (by kernel_rfl) ?_; unfold Tryz.f31
             simp only [↓pre, simprocAttr, parV, sx, tys31, onceA, postU, hf, ho, storeE, allocE, put_at, push_at, sr]
             (first | refine call_plain (hck) (by first | rfl | simp only [parV, plQ, *]) ?_ | refine call_pure (hck) (by first | rfl | simp only [parV, plQ, *]) (by intro k; first | rfl | simp only [sq, sr, *]) ?_); simp only [↓pre, simprocAttr, parV, sx, tys31, onceA, postU, hf, ho, storeE, allocE, put_at, push_at, h1, h2, h3, ws, h4, wo, hZ, f2, o2, s2, s3, s4, hsh, sr]; (first | refine call_plain (hmo) (by first | rfl | simp only [parV, plQ, *]) ?_ | refine call_pure (hmo) (by first | rfl | simp only [parV, plQ, *]) (by intro k; first | rfl | simp only [sq, sr, *]) ?_); simp only [↓pre, simprocAttr, parV, sx, tys31, onceA, postU, hf, ho, storeE, allocE, put_at, push_at, h1, h2, h3, ws, h4, wo, hZ, f2, o2, s2, s3, s4, hsh, sr]; (first | refine call_plain (hob) (by first | rfl | simp only [parV, plQ, *]) ?_ | refine call_pure (hob) (by first | rfl | simp only [parV, plQ, *]) (by intro k; first | rfl | simp only [sq, sr, *]) ?_); simp only [↓pre, simprocAttr, parV, sx, tys31, onceA, postU, hf, ho, storeE, allocE, put_at, push_at, h1, h2, h3, ws, h4, wo, hZ, f2, o2, s2, s3, s4, hsh, sr]; (first | refine call_plain (hcu) (by first | rfl | simp only [parV, plQ, *]) ?_ | refine call_pure (hcu) (by first | rfl | simp only [parV, plQ, *]) (by intro k; first | rfl | simp only [sq, sr, *]) ?_); simp only [↓pre, simprocAttr, parV, sx, tys31, onceA, postU, hf, ho, storeE, allocE, put_at, push_at, h1, h2, h3, ws, h4, wo, hZ, f2, o2, s2, s3, s4, hsh, sr]
             exact ⟨1, hz.out _⟩
           · rw [if_neg hE] at hob ⊢
             unfold desc0 nilS at hob
             simp only [intV] at hob
             replace hml := Hid.mk hml
             refine ospec_of_body follows Tryz.func31 (by unfold Tryz.f31; rfl) (by unfold Tryz.f31; simp) onceA (by unfold Tryz.f31; simp) (by kernel_rfl) ?_; unfold Tryz.f31
             simp only [↓pre, simprocAttr, parV, sx, tys31, onceA, postU, hf, ho, storeE, allocE, put_at, push_at, sr]
             (first | refine call_plain (hck) (by first | rfl | simp only [parV, plQ, *]) ?_ | refine call_pure (hck) (by first | rfl | simp only [parV, plQ, *]) (by intro k; first | rfl | simp only [sq, sr, *]) ?_); simp only [↓pre, simprocAttr, parV, sx, tys31, onceA, postU, hf, ho, storeE, allocE, put_at, push_at, h1, h2, h3, ws, h4, wo, hE, sr]; (first | refine call_plain (hmo) (by first | rfl | simp only [parV, plQ, *]) ?_ | refine call_pure (hmo) (by first | rfl | simp only [parV, plQ, *]) (by intro k; first | rfl | simp only [sq, sr, *]) ?_); simp only [↓pre, simprocAttr, parV, sx, tys31, onceA, postU, hf, ho, storeE, allocE, put_at, push_at, h1, h2, h3, ws, h4, wo, hE, sr]; (first | refine call_plain (hob) (by first | rfl | simp only [parV, plQ, *]) ?_ | refine call_pure (hob) (by first | rfl | simp only [parV, plQ, *]) (by intro k; first | rfl | simp only [sq, sr, *]) ?_); simp only [↓pre, simprocAttr, parV, sx, tys31, onceA, postU, hf, ho, storeE, allocE, put_at, push_at, h1, h2, h3, ws, h4, wo, hE, sr]
             exact ⟨1, fzId_two (fzId_val (.slice none 0 0)) (fzId_val (.int .i64 (objE k r c w L row))) 1 _⟩
 · rw [if_neg hR, if_neg hR]
   refine ospec_of_body follows Tryz.func31 (by unfold Tryz.f31; rfl) (by unfold Tryz.f31; simp) onceA (by unfold Tryz.f31; simp) (by kernel_rfl) ?_; unfold Tryz.f31
   simp only [↓pre, simprocAttr, parV, sx, tys31, onceA, postU, hf, ho, storeE, allocE, put_at, push_at, sr]
   (first | refine call_plain (hck) (by first | rfl | simp only [parV, plQ, *]) ?_ | refine call_pure (hck) (by first | rfl | simp only [parV, plQ, *]) (by intro k; first | rfl | simp only [sq, sr, *]) ?_); simp only [↓pre, simprocAttr, parV, sx, tys31, onceA, postU, hf, ho, storeE, allocE, put_at, push_at, hR, sr]
   exact ⟨1, fzId_two (fzId_val (.slice none 0 0)) (fzId_val (.int .i64 (rowE k r c w L row))) 1 _⟩
theorem str_add {P : Program} {t : TypeId} {x y : Operand} {a b : List UInt8} (h : a.length + b.length ≤ 1000000) : binE P .add t x y (strB a) (strB b) = some (strB (a ++ b)) := by
 have h1 : ¬ (((⟨a.toArray⟩ : ByteArray).size + (⟨b.toArray⟩ : ByteArray).size : Nat) : Int) > IntKind.i64.max := by
   have e1 : (⟨a.toArray⟩ : ByteArray).size = a.length := by simp [ByteArray.size]
   have e2 : (⟨b.toArray⟩ : ByteArray).size = b.length := by simp [ByteArray.size]
   rw [e1, e2]
   have : IntKind.i64.max = 9223372036854775807 := by decide
   omega
 have h2 : (⟨a.toArray⟩ : ByteArray) ++ (⟨b.toArray⟩ : ByteArray) = ⟨(a ++ b).toArray⟩ := by
   apply ByteArray.ext
   simp
 unfold strB
 simp only [binE, binV, eqGuard, binOp, Op.stringOp, pureR, Bind.bind, Sem.bind, Pure.pure, if_neg h1, h2, Option.map_some]
 rfl
theorem str_eql {P : Program} {t : TypeId} {x y : Operand} {a b : List UInt8} : binE P .eql t x y (strB a) (strB b) = some (.val (.bool (decide (a = b)))) := by
 rw [← eqB_iff]
 exact bin_str_eql
theorem str_neq {P : Program} {t : TypeId} {x y : Operand} {a b : List UInt8} : binE P .neq t x y (strB a) (strB b) = some (.val (.bool (!decide (a = b)))) := by
 rw [← eqB_iff]
 exact bin_str_neq
theorem law18_awake : FSpec Tryz.prog 24 [] ⟨boolV true, []⟩ := by
 have h1 := object_Length 0 0 0 0 0 nilS [] [] ⟨⟨.inl ⟨rfl, rfl⟩⟩, fun i b h => by simp at h⟩
 have hE : lenO 0 0 0 0 [] 0 = 2 := by
   have h3 : imE 0 0 0 0 [] = 2 := by
     unfold imE
     rw [if_neg (by decide)]
   have h2 : rowE 0 0 0 0 [] 0 = 2 := by
     unfold rowE
     rw [h3, if_neg (by decide)]
   unfold lenO
   rw [h2, if_neg (by decide)]
 rw [hE, if_neg (by decide)] at h1
 unfold imV nilS at h1
 simp only [intV] at h1
 refine fspec_of_body follows Tryz.func24 (by unfold Tryz.f24; rfl) (by unfold Tryz.f24; simp) onceA (by unfold Tryz.f24; simp) (by kernel_rfl) ?_; unfold Tryz.f24
 simp only [↓pre, simprocAttr, parV, sx, tys24, onceA, postU, sr]
 (first | refine call_plain (h1) (by first | rfl | simp only [parV, plQ, *]) ?_ | refine call_pure (h1) (by first | rfl | simp only [parV, plQ, *]) (by intro k; first | rfl | simp only [sq, sr, *]) ?_); simp only [↓pre, simprocAttr, parV, sx, tys24, onceA, postU, sr]
theorem law18_big (k r c w : Int) (v : AV) (L : List (List UInt8)) (cells : List AV) (hv : RowsV v L cells) : FSpec Tryz.prog 25 [imV k r c w v] ⟨boolV (mayB k r c w && decide (400 < (k + r) * w)), []⟩ := by
 have hp := hv.rd.plain
 have hf := rd_fz hv.rd
 have ho := rd_one hv.rd
 have h1 := ref06_may k r c w
 have h2 := fun h => ref06_N k r c w h
 unfold imV
 cases hm : mayB k r c w with
 | false =>
   rw [hm] at h1
   replace h2 := Hid.mk h2
   refine fspec_of_body follows Tryz.func25 (by unfold Tryz.f25; rfl) (by unfold Tryz.f25; simp) onceA (by unfold Tryz.f25; simp) (by kernel_rfl) ?_; unfold Tryz.f25
   simp only [↓pre, simprocAttr, parV, sx, tys25, onceA, postU, hf, ho, sr]
   (first | refine call_plain (h1) (by first | rfl | simp only [parV, plQ, *]) ?_ | refine call_pure (h1) (by first | rfl | simp only [parV, plQ, *]) (by intro k; first | rfl | simp only [sq, sr, *]) ?_); simp only [↓pre, simprocAttr, parV, sx, tys25, onceA, postU, hf, ho, sr]
 | true =>
   rw [hm] at h1
   have h2 := h2 hm
   have hb := im_bound hm
   have wm : IntKind.i64.wrap ((k + r) * w) = (k + r) * w := wrap_id (by omega) (by omega)
   replace hb := Hid.mk hb
   refine fspec_of_body follows Tryz.func25 (by unfold Tryz.f25; rfl) (by unfold Tryz.f25; simp) onceA (by unfold Tryz.f25; simp) (by kernel_rfl) ?_; unfold Tryz.f25
   simp only [↓pre, simprocAttr, parV, sx, tys25, onceA, postU, hf, ho, sr]
   (first | refine call_plain (h1) (by first | rfl | simp only [parV, plQ, *]) ?_ | refine call_pure (h1) (by first | rfl | simp only [parV, plQ, *]) (by intro k; first | rfl | simp only [sq, sr, *]) ?_); simp only [↓pre, simprocAttr, parV, sx, tys25, onceA, postU, hf, ho, wm, sr]; (first | refine call_plain (h2) (by first | rfl | simp only [parV, plQ, *]) ?_ | refine call_pure (h2) (by first | rfl | simp only [parV, plQ, *]) (by intro k; first | rfl | simp only [sq, sr, *]) ?_); simp only [↓pre, simprocAttr, parV, sx, tys25, onceA, postU, hf, ho, wm, sr]
theorem tab_drop (n d : Nat) (f : Nat → UInt8) : (tab n f).drop d = tab (n - d) fun j => f (d + j) := by
 refine List.ext_getElem? fun j => ?_
 rw [List.getElem?_drop]
 by_cases h : d + j < n
 · rw [tab_at f h, tab_at _ (by omega)]
 · rw [List.getElem?_eq_none (by rw [tab_len]; omega), List.getElem?_eq_none (by rw [tab_len]; omega)]
theorem tab_take (n d : Nat) (f : Nat → UInt8) : (tab n f).take d = tab (min d n) f := by
 refine List.ext_getElem? fun j => ?_
 rw [List.getElem?_take]
 by_cases h : j < min d n
 · rw [if_pos (by omega), tab_at f (by omega), tab_at f h]
 · rw [List.getElem?_eq_none (l := tab (min d n) f) (by rw [tab_len]; omega)]
   split
   · exact List.getElem?_eq_none (by rw [tab_len]; omega)
   · rfl
theorem tab_append (n m : Nat) (f : Nat → UInt8) : tab n f ++ tab m (fun j => f (n + j)) = tab (n + m) f := by
 refine List.ext_getElem? fun j => ?_
 by_cases h : j < n
 · rw [List.getElem?_append_left (by rw [tab_len]; exact h), tab_at f h, tab_at f (by omega)]
 · rw [List.getElem?_append_right (by rw [tab_len]; omega), tab_len]
   by_cases h2 : j < n + m
   · rw [tab_at _ (by omega), tab_at f h2, show n + (j - n) = j by omega]
   · rw [List.getElem?_eq_none (by rw [tab_len]; omega), List.getElem?_eq_none (by rw [tab_len]; omega)]
section
variable {k r c w : Int} {L : List (List UInt8)} {l : List RefI}
theorem cutE_sub {fr to PL : Nat} (h : cutE k r c w L l 0 PL = 0) (ht : to ≤ PL) : cutE k r c w L l fr to = 0 := by
 unfold cutE at h ⊢
 split at h
 · contradiction
 · rename_i h1
   rw [if_neg]
   intro h2
   apply h1
   obtain ⟨i, hi, h3⟩ := List.any_eq_true.1 h2
   refine List.any_eq_true.2 ⟨i, hi, ?_⟩
   rw [Bool.and_eq_true] at h3 ⊢
   refine ⟨?_, h3.2⟩
   have := h3.1
   unfold meetB at this ⊢
   rw [decide_eq_true_eq] at this ⊢
   omega
theorem cutB_part {fr to PL : Nat} (ht : to ≤ PL) (hf : min fr PL ≤ to) : cutB k r c w L l fr to = ((cutB k r c w L l 0 PL).drop (min fr PL)).take (to - min fr PL) := by
 unfold cutB
 rw [tab_drop, tab_take]
 by_cases h : fr ≤ PL
 · rw [show min fr PL = fr by omega, show min (to - fr) (PL - 0 - fr) = to - fr by omega]
   congr 1
   funext j
   rw [Nat.zero_add]
 · rw [show to - fr = 0 by omega, show min (to - min fr PL) (PL - 0 - min fr PL) = 0 by omega]
   simp [tab]
theorem cutB_append {fr mi to : Nat} (h1 : fr ≤ mi) (h2 : mi ≤ to) : cutB k r c w L l fr mi ++ cutB k r c w L l mi to = cutB k r c w L l fr to := by
 unfold cutB
 have := tab_append (mi - fr) (to - mi) fun j => bytC k r c w L l (fr + j)
 rw [show mi - fr + (to - mi) = to - fr by omega] at this
 rw [← this]
 congr 1
 unfold tab
 refine List.map_congr_left fun j _ => ?_
 rw [← Nat.add_assoc, show fr + (mi - fr) = mi by omega]
theorem cutB_none {fr to : Nat} (h : to ≤ fr) : cutB k r c w L l fr to = [] := by
 unfold cutB
 rw [show to - fr = 0 by omega]
 simp [tab]
theorem cutB_two {A M B PL : Nat} (h1 : A ≤ M) (h2 : M ≤ B) : cutB k r c w L l A (min M PL) ++ cutB k r c w L l M (min B PL) = cutB k r c w L l A (min B PL) := by
 by_cases h : M ≤ PL
 · rw [show min M PL = M by omega]
   exact cutB_append h1 (by omega)
 · rw [cutB_none (show min B PL ≤ M by omega), List.append_nil, show min M PL = min B PL by omega]
end
theorem slice_tak (b : List UInt8) {o h : Nat} (h1 : o ≤ h) (h2 : h ≤ b.length) : ∃ v, sliceE Tryz.prog 52 (some o) (some h) none (takA b) = some v ∧ RdSl v ((b.drop o).take (h - o)).length (bytesA ((b.drop o).take (h - o)) ++ bytesA ((b.drop o).drop (h - o))) := by
 obtain ⟨v, g1, g2⟩ := (taken_rd b).slice (P := Tryz.prog) (t := 52) (sz := 1) (lo := some o) (hi := some h) (by kernel_rfl) h1 h2
 refine ⟨v, g1, ?_⟩
 simp only [Option.getD_some, Nat.mul_one, List.append_nil] at g2
 rw [← bytesA_append, List.take_append_drop, List.length_take, List.length_drop, show min (h - o) (b.length - o) = h - o by omega]
 have : bytesA (b.drop o) = (bytesA b).drop o := by unfold bytesA; rw [List.map_drop]
 rw [this]
 exact g2
theorem tak_rd (b : List UInt8) : RdSl (takA b) b.length (bytesA b ++ []) := taken_rd b
theorem part_ok {k r c w : Int} {L : List (List UInt8)} {row off n : Int} {PL : Nat} (hR : rowE k r c w L row = 0) (hO : objE k r c w L row = 0) (hP : pLen (objD k r c w L row) = (PL : Int)) (hC : cutE k r c w L (objS k r c w L row) 0 PL = 0) :
   (off < 0 ∨ n < 0 → prtV k r c w L row off n = .tup [nilS, intV 2]) ∧ (¬ (off < 0 ∨ n < 0) → mI k c < off ∨ mI k c - off < n → prtV k r c w L row off n = .tup [nilS, intV 3]) ∧
   (¬ (off < 0 ∨ n < 0) → ¬ (mI k c < off ∨ mI k c - off < n) → prtV k r c w L row off n = .tup [takA (cutB k r c w L (objS k r c w L row) off.toNat (min (off.toNat + n.toNat) PL)), intV 0]) := by
 have hE : prtE k r c w L row off n = if off < 0 ∨ n < 0 then 2 else if mI k c < off ∨ mI k c - off < n then 3 else 0 := by
   unfold prtE
   rw [if_pos hR, hO]
 refine ⟨fun h => ?_, fun h1 h2 => ?_, fun h1 h2 => ?_⟩
 · rw [if_pos h] at hE
   unfold prtV
   rw [hE, if_neg (by decide)]
 · rw [if_neg h1, if_pos h2] at hE
   unfold prtV
   rw [hE, if_neg (by decide)]
 · rw [if_neg h1, if_neg h2] at hE
   unfold prtV
   rw [if_pos hE, hP, show (min (off + n) ((PL : Nat) : Int)).toNat = min (off.toNat + n.toNat) PL by omega]
   unfold cutV
   rw [cutE_sub hC (by omega), if_pos rfl]
theorem prtV_two (k r c w : Int) (L : List (List UInt8)) (row off n : Int) : ∃ z e, prtV k r c w L row off n = .tup [z, .val (.int .i64 e)] ∧ ∀ j, shift j z = z := by
 unfold prtV
 split
 · obtain ⟨a, e, he, hs, _⟩ := cutV_two k r c w L (objS k r c w L row) off.toNat (min (off + n) (pLen (objD k r c w L row))).toNat
   exact ⟨a, e, he, hs⟩
 · exact ⟨_, _, rfl, fun j => rfl⟩
theorem law18_ObjectParts (k r c w row off a b : Int) (v : AV) (L : List (List UInt8)) (cells : List AV) (hv : RowsV v L cells) : FSpec Tryz.prog 5 [imV k r c w v, intV row, intV off, intV a, intV b] ⟨boolV true, []⟩ := by
 have hp := hv.rd.plain
 have hf := rd_fz hv.rd
 have ho := rd_one hv.rd
 have haw := law18_awake
 have hbi := law18_big k r c w v L cells hv
 have hby := object_Bytes k r c w row v L cells hv
 have hle := object_Length k r c w row v L cells hv
 have hpa := fun x y => object_Part k r c w row x y v L cells hv
 have hlen0 : lenE Tryz.prog 52 (.val (.slice none 0 0)) = some (.val (.int .i64 0)) := by kernel_rfl
 unfold imV at hbi hby hle hpa ⊢
 cases hb : mayB k r c w && decide (400 < (k + r) * w) with
 | true =>
   rw [hb] at hbi
   refine fspec_of_body follows Tryz.func5 (by unfold Tryz.f5; rfl) (by unfold Tryz.f5; simp) onceA (by unfold Tryz.f5; simp) (by kernel_rfl) ?_; unfold Tryz.f5
   simp only [↓pre, simprocAttr, parV, sx, tys5, onceA, postU, hf, ho, hlen0, sr]
   (first | refine call_plain (haw) (by first | rfl | simp only [parV, plQ, *]) ?_ | refine call_pure (haw) (by first | rfl | simp only [parV, plQ, *]) (by intro k; first | rfl | simp only [sq, sr, *]) ?_); simp only [↓pre, simprocAttr, parV, sx, tys5, onceA, postU, hf, ho, hlen0, sr]; (first | refine call_plain (hbi) (by first | rfl | simp only [parV, plQ, *]) ?_ | refine call_pure (hbi) (by first | rfl | simp only [parV, plQ, *]) (by intro k; first | rfl | simp only [sq, sr, *]) ?_); simp only [↓pre, simprocAttr, parV, sx, tys5, onceA, postU, hf, ho, hlen0, sr]
 | false =>
   rw [hb] at hbi
   clear hb
   unfold bytV at hby
   by_cases hO : objE k r c w L row = 0
   · rw [if_pos hO] at hby
     obtain ⟨hI, hR, hCo, _, _, hl0, hl1⟩ := obj_refs hO
     obtain ⟨PL, hP⟩ : ∃ PL : Nat, pLen (objD k r c w L row) = (PL : Int) := ⟨(pLen (objD k r c w L row)).toNat, by omega⟩
     rw [hP, Int.toNat_natCast] at hby
     have hlo : lenO k r c w L row = 0 := by unfold lenO; rw [if_pos hR, hCo]
     rw [hlo, if_pos rfl, hP] at hle
     unfold cutV at hby
     by_cases hC : cutE k r c w L (objS k r c w L row) 0 PL = 0
     · rw [if_pos hC] at hby
       have hpo := fun x y => part_ok (off := x) (n := y) hR hO hP hC
       have hPL : PL ≤ 32768 := by omega
       have hcl : (cutB k r c w L (objS k r c w L row) 0 PL).length = PL := by unfold cutB; rw [tab_len]; omega
       have hrd := tak_rd (cutB k r c w L (objS k r c w L row) 0 PL)
       have hlA := hrd.len' (P := Tryz.prog) (t := 52) (by kernel_rfl)
       rw [hcl] at hlA
       have hml := m_le k c
       have sA := rd_shift hrd
       have hsl := fun o h h1 h2 => slice_tak (cutB k r c w L (objS k r c w L row) 0 PL) (o := o) (h := h) h1 (by rw [hcl]; exact h2)
       have hso := fun m => hrd.slOk (P := Tryz.prog) (m := m) (t := 52)
       have hsx := fun d c m lo hi mx => hrd.sliceX (P := Tryz.prog) (m := m) (t := 52) (d := d) (c := c) (lo := lo) (hi := hi) (mx := mx)
       have hpt := fun {fr to : Nat} => cutB_part (k := k) (r := r) (c := c) (w := w) (L := L) (l := objS k r c w L row) (fr := fr) (to := to) (PL := PL)
       have htw := fun {A M B : Nat} => cutB_two (k := k) (r := r) (c := c) (w := w) (L := L) (l := objS k r c w L row) (A := A) (M := M) (B := B) (PL := PL)
       generalize objS k r c w L row = OS at *
       generalize hALL : takA (cutB k r c w L OS 0 PL) = ALL at *
       simp only [intV] at hby hle
       replace hpo := Hid.mk hpo
       replace hsl := Hid.mk hsl
       replace hpt := Hid.mk @hpt
       replace htw := Hid.mk @htw
       replace hO := Hid.mk hO
       replace hR := Hid.mk hR
       replace hC := Hid.mk hC
       replace hP := Hid.mk hP
       replace hl0 := Hid.mk hl0
       replace hl1 := Hid.mk hl1
       replace hlo := Hid.mk hlo
       replace hcl := Hid.mk hcl
       replace hrd := Hid.mk hrd
       replace hALL := Hid.mk hALL
       replace hCo := Hid.mk hCo
       replace hpa := Hid.mk hpa
       have h1 := hpa.out off a
       obtain ⟨q1, q2, q3⟩ := hpo.out off a
       by_cases g1 : off < 0 ∨ a < 0
       · rw [q1 g1] at h1
         clear q1 q2 q3
         simp only [intV, nilS] at h1
         replace hml := Hid.mk hml
         by_cases g2 : off < 0
         · refine fspec_of_body follows Tryz.func5 (by unfold Tryz.f5; rfl) (by unfold Tryz.f5; simp) onceA (by unfold Tryz.f5; simp) (by kernel_rfl) ?_; unfold Tryz.f5
           simp only [↓pre, simprocAttr, parV, sx, tys5, onceA, postU, hf, ho, hlen0, sr]
           (first | refine call_plain (haw) (by first | rfl | simp only [parV, plQ, *]) ?_ | refine call_pure (haw) (by first | rfl | simp only [parV, plQ, *]) (by intro k; first | rfl | simp only [sq, sr, *]) ?_); simp only [↓pre, simprocAttr, parV, sx, tys5, onceA, postU, hf, ho, hlen0, hlA, sA, g2, sr]; (first | refine call_plain (hbi) (by first | rfl | simp only [parV, plQ, *]) ?_ | refine call_pure (hbi) (by first | rfl | simp only [parV, plQ, *]) (by intro k; first | rfl | simp only [sq, sr, *]) ?_); simp only [↓pre, simprocAttr, parV, sx, tys5, onceA, postU, hf, ho, hlen0, hlA, sA, g2, sr]; (first | refine call_plain (hby) (by first | rfl | simp only [parV, plQ, *]) ?_ | refine call_pure (hby) (by first | rfl | simp only [parV, plQ, *]) (by intro k; first | rfl | simp only [sq, sr, *]) ?_); simp only [↓pre, simprocAttr, parV, sx, tys5, onceA, postU, hf, ho, hlen0, hlA, sA, g2, sr]; (first | refine call_plain (hle) (by first | rfl | simp only [parV, plQ, *]) ?_ | refine call_pure (hle) (by first | rfl | simp only [parV, plQ, *]) (by intro k; first | rfl | simp only [sq, sr, *]) ?_); simp only [↓pre, simprocAttr, parV, sx, tys5, onceA, postU, hf, ho, hlen0, hlA, sA, g2, sr]; (first | refine call_plain (h1) (by first | rfl | simp only [parV, plQ, *]) ?_ | refine call_pure (h1) (by first | rfl | simp only [parV, plQ, *]) (by intro k; first | rfl | simp only [sq, sr, *]) ?_); simp only [↓pre, simprocAttr, parV, sx, tys5, onceA, postU, hf, ho, hlen0, hlA, sA, g2, sr]
         · have g3 : a < 0 := by omega
           refine fspec_of_body follows Tryz.func5 (by unfold Tryz.f5; rfl) (by unfold Tryz.f5; simp) onceA (by unfold Tryz.f5; simp) (by kernel_rfl) ?_; unfold Tryz.f5
           simp only [↓pre, simprocAttr, parV, sx, tys5, onceA, postU, hf, ho, hlen0, sr]
           (first | refine call_plain (haw) (by first | rfl | simp only [parV, plQ, *]) ?_ | refine call_pure (haw) (by first | rfl | simp only [parV, plQ, *]) (by intro k; first | rfl | simp only [sq, sr, *]) ?_); simp only [↓pre, simprocAttr, parV, sx, tys5, onceA, postU, hf, ho, hlen0, hlA, sA, g2, g3, sr]; (first | refine call_plain (hbi) (by first | rfl | simp only [parV, plQ, *]) ?_ | refine call_pure (hbi) (by first | rfl | simp only [parV, plQ, *]) (by intro k; first | rfl | simp only [sq, sr, *]) ?_); simp only [↓pre, simprocAttr, parV, sx, tys5, onceA, postU, hf, ho, hlen0, hlA, sA, g2, g3, sr]; (first | refine call_plain (hby) (by first | rfl | simp only [parV, plQ, *]) ?_ | refine call_pure (hby) (by first | rfl | simp only [parV, plQ, *]) (by intro k; first | rfl | simp only [sq, sr, *]) ?_); simp only [↓pre, simprocAttr, parV, sx, tys5, onceA, postU, hf, ho, hlen0, hlA, sA, g2, g3, sr]; (first | refine call_plain (hle) (by first | rfl | simp only [parV, plQ, *]) ?_ | refine call_pure (hle) (by first | rfl | simp only [parV, plQ, *]) (by intro k; first | rfl | simp only [sq, sr, *]) ?_); simp only [↓pre, simprocAttr, parV, sx, tys5, onceA, postU, hf, ho, hlen0, hlA, sA, g2, g3, sr]; (first | refine call_plain (h1) (by first | rfl | simp only [parV, plQ, *]) ?_ | refine call_pure (h1) (by first | rfl | simp only [parV, plQ, *]) (by intro k; first | rfl | simp only [sq, sr, *]) ?_); simp only [↓pre, simprocAttr, parV, sx, tys5, onceA, postU, hf, ho, hlen0, hlA, sA, g2, g3, sr]
       · have g2 : ¬ off < 0 := by omega
         have g3 : ¬ a < 0 := by omega
         have g4 : 0 ≤ off := by omega
         have g5 : 0 ≤ a := by omega
         by_cases g6 : mI k c < off ∨ mI k c - off < a
         · rw [q2 g1 g6] at h1
           clear q1 q2 q3
           simp only [intV, nilS] at h1
           replace hml := Hid.mk hml
           replace g1 := Hid.mk g1
           replace g6 := Hid.mk g6
           refine fspec_of_body follows Tryz.func5 (by unfold Tryz.f5; rfl) (by unfold Tryz.f5; simp) onceA (by unfold Tryz.f5; simp) (by kernel_rfl) ?_; unfold Tryz.f5
           simp only [↓pre, simprocAttr, parV, sx, tys5, onceA, postU, hf, ho, hlen0, sr]
           (first | refine call_plain (haw) (by first | rfl | simp only [parV, plQ, *]) ?_ | refine call_pure (haw) (by first | rfl | simp only [parV, plQ, *]) (by intro k; first | rfl | simp only [sq, sr, *]) ?_); simp only [↓pre, simprocAttr, parV, sx, tys5, onceA, postU, hf, ho, hlen0, hlA, sA, g2, g3, g4, g5, sr]; (first | refine call_plain (hbi) (by first | rfl | simp only [parV, plQ, *]) ?_ | refine call_pure (hbi) (by first | rfl | simp only [parV, plQ, *]) (by intro k; first | rfl | simp only [sq, sr, *]) ?_); simp only [↓pre, simprocAttr, parV, sx, tys5, onceA, postU, hf, ho, hlen0, hlA, sA, g2, g3, g4, g5, sr]; (first | refine call_plain (hby) (by first | rfl | simp only [parV, plQ, *]) ?_ | refine call_pure (hby) (by first | rfl | simp only [parV, plQ, *]) (by intro k; first | rfl | simp only [sq, sr, *]) ?_); simp only [↓pre, simprocAttr, parV, sx, tys5, onceA, postU, hf, ho, hlen0, hlA, sA, g2, g3, g4, g5, sr]; (first | refine call_plain (hle) (by first | rfl | simp only [parV, plQ, *]) ?_ | refine call_pure (hle) (by first | rfl | simp only [parV, plQ, *]) (by intro k; first | rfl | simp only [sq, sr, *]) ?_); simp only [↓pre, simprocAttr, parV, sx, tys5, onceA, postU, hf, ho, hlen0, hlA, sA, g2, g3, g4, g5, sr]; (first | refine call_plain (h1) (by first | rfl | simp only [parV, plQ, *]) ?_ | refine call_pure (h1) (by first | rfl | simp only [parV, plQ, *]) (by intro k; first | rfl | simp only [sq, sr, *]) ?_); simp only [↓pre, simprocAttr, parV, sx, tys5, onceA, postU, hf, ho, hlen0, hlA, sA, g2, g3, g4, g5, sr]
         · rw [q3 g1 g6] at h1
           clear q1 q2 q3
           obtain ⟨O, hOf⟩ : ∃ O : Nat, off = (O : Int) := ⟨off.toNat, by omega⟩
           obtain ⟨A, hAf⟩ : ∃ A : Nat, a = (A : Int) := ⟨a.toNat, by omega⟩
           subst hOf
           subst hAf
           simp only [Int.toNat_natCast] at h1
           have hOA : O + A ≤ 32768 := by omega
           have wOA : IntKind.i64.wrap ((O : Int) + (A : Int)) = ((O + A : Nat) : Int) := by rw [show (O : Int) + (A : Int) = ((O + A : Nat) : Int) by simp]; exact wrap_nat (by omega)
           have m1 : min ((O : Nat) : Int) ((PL : Nat) : Int) = ((min O PL : Nat) : Int) := by omega
           have m2 : min ((O + A : Nat) : Int) ((PL : Nat) : Int) = ((min (O + A) PL : Nat) : Int) := by omega
           obtain ⟨sv, s1, r1⟩ := hsl.out (min O PL) (min (O + A) PL) (by omega) (by omega)
           rw [← hpt.out (by omega) (by omega)] at r1
           have hx := tak_rd (cutB k r c w L OS O (min (O + A) PL))
           have x1 := fun (d c : Bool) (m : Mem) => rd_strX (d := d) (c := c) (m := m) hx
           have x2 := fun (d c : Bool) (m : Mem) => rd_strX (d := d) (c := c) (m := m) r1
           have sX := rd_shift hx
           have htw1 := fun B => htw.out (A := O) (M := O + A) (B := B)
           have hXl : (cutB k r c w L OS O (min (O + A) PL)).length ≤ 32768 := by unfold cutB; rw [tab_len]; omega
           generalize hXB : cutB k r c w L OS O (min (O + A) PL) = XB at *
           have s2 : ∀ m : Mem, slOk Tryz.prog m 52 ALL = true := hso
           have nP := fun (d c : Bool) (m : Mem) (lo hi mx : Option AV) => r1.sliceX (P := Tryz.prog) (m := m) (t := 52) (d := d) (c := c) (lo := lo) (hi := hi) (mx := mx)
           have hXB2 := Hid.mk hXB
           clear hXB
           generalize takA XB = X at *
           have h2 := hpa.out ((O + A : Nat) : Int) b
           have h3 := hpa.out (O : Nat) (IntKind.i64.wrap ((A : Int) + b))
           obtain ⟨q1, q2, q3⟩ := hpo.out ((O + A : Nat) : Int) b
           simp only [intV] at h1
           replace hx := Hid.mk hx
           replace r1 := Hid.mk r1
           replace hXl := Hid.mk hXl
           replace htw1 := Hid.mk htw1
           have hpo2 := hpo
           clear hpo hpt htw hsl
           by_cases g7 : ((O + A : Nat) : Int) < 0 ∨ b < 0
           · rw [q1 g7] at h2
             obtain ⟨z, e3, hz, sz⟩ := prtV_two k r c w L row (O : Nat) (IntKind.i64.wrap ((A : Int) + b))
             rw [hz] at h3
             clear q1 q2 q3
             replace hz := Hid.mk hz
             replace hml := Hid.mk hml
             replace g1 := Hid.mk g1
             replace g6 := Hid.mk g6
             replace g7 := Hid.mk g7
             simp only [intV, nilS] at h2 h3
             refine fspec_of_body follows Tryz.func5 (by unfold Tryz.f5; rfl) (by unfold Tryz.f5; simp) onceA (by unfold Tryz.f5; simp) (by kernel_rfl) ?_; unfold Tryz.f5
             simp only [↓pre, simprocAttr, parV, sx, tys5, onceA, postU, hf, ho, hlen0, hlA, sA, sX, g2, g3, wOA, m1, m2, s1, s2, hsx, x1, x2, str_neq, str_eql, optNat, Option.map_some, Option.map_none, decide_true, Bool.not_true, sr]
             (first | refine call_plain (haw) (by first | rfl | simp only [parV, plQ, *]) ?_ | refine call_pure (haw) (by first | rfl | simp only [parV, plQ, *]) (by intro k; first | rfl | simp only [sq, sr, *]) ?_); simp only [↓pre, simprocAttr, parV, sx, tys5, onceA, postU, hf, ho, hlen0, hlA, sA, sX, g2, g3, wOA, m1, m2, s1, s2, hsx, x1, x2, str_neq, str_eql, optNat, Option.map_some, Option.map_none, decide_true, Bool.not_true, sz, sr]; (first | refine call_plain (hbi) (by first | rfl | simp only [parV, plQ, *]) ?_ | refine call_pure (hbi) (by first | rfl | simp only [parV, plQ, *]) (by intro k; first | rfl | simp only [sq, sr, *]) ?_); simp only [↓pre, simprocAttr, parV, sx, tys5, onceA, postU, hf, ho, hlen0, hlA, sA, sX, g2, g3, wOA, m1, m2, s1, s2, hsx, x1, x2, str_neq, str_eql, optNat, Option.map_some, Option.map_none, decide_true, Bool.not_true, sz, sr]; (first | refine call_plain (hby) (by first | rfl | simp only [parV, plQ, *]) ?_ | refine call_pure (hby) (by first | rfl | simp only [parV, plQ, *]) (by intro k; first | rfl | simp only [sq, sr, *]) ?_); simp only [↓pre, simprocAttr, parV, sx, tys5, onceA, postU, hf, ho, hlen0, hlA, sA, sX, g2, g3, wOA, m1, m2, s1, s2, hsx, x1, x2, str_neq, str_eql, optNat, Option.map_some, Option.map_none, decide_true, Bool.not_true, sz, sr]; (first | refine call_plain (hle) (by first | rfl | simp only [parV, plQ, *]) ?_ | refine call_pure (hle) (by first | rfl | simp only [parV, plQ, *]) (by intro k; first | rfl | simp only [sq, sr, *]) ?_); simp only [↓pre, simprocAttr, parV, sx, tys5, onceA, postU, hf, ho, hlen0, hlA, sA, sX, g2, g3, wOA, m1, m2, s1, s2, hsx, x1, x2, str_neq, str_eql, optNat, Option.map_some, Option.map_none, decide_true, Bool.not_true, sz, sr]; (first | refine call_plain (h1) (by first | rfl | simp only [parV, plQ, *]) ?_ | refine call_pure (h1) (by first | rfl | simp only [parV, plQ, *]) (by intro k; first | rfl | simp only [sq, sr, *]) ?_); simp only [↓pre, simprocAttr, parV, sx, tys5, onceA, postU, hf, ho, hlen0, hlA, sA, sX, g2, g3, wOA, m1, m2, s1, s2, hsx, x1, x2, str_neq, str_eql, optNat, Option.map_some, Option.map_none, decide_true, Bool.not_true, sz, sr]; (first | refine call_plain (h2) (by first | rfl | simp only [parV, plQ, *]) ?_ | refine call_pure (h2) (by first | rfl | simp only [parV, plQ, *]) (by intro k; first | rfl | simp only [sq, sr, *]) ?_); simp only [↓pre, simprocAttr, parV, sx, tys5, onceA, postU, hf, ho, hlen0, hlA, sA, sX, g2, g3, wOA, m1, m2, s1, s2, hsx, x1, x2, str_neq, str_eql, optNat, Option.map_some, Option.map_none, decide_true, Bool.not_true, sz, sr]; (first | refine call_plain (h3) (by first | rfl | simp only [parV, plQ, *]) ?_ | refine call_pure (h3) (by first | rfl | simp only [parV, plQ, *]) (by intro k; first | rfl | simp only [sq, sr, *]) ?_); simp only [↓pre, simprocAttr, parV, sx, tys5, onceA, postU, hf, ho, hlen0, hlA, sA, sX, g2, g3, wOA, m1, m2, s1, s2, hsx, x1, x2, str_neq, str_eql, optNat, Option.map_some, Option.map_none, decide_true, Bool.not_true, sz, sr]
           · have g8 : ¬ b < 0 := by omega
             by_cases g9 : mI k c < ((O + A : Nat) : Int) ∨ mI k c - ((O + A : Nat) : Int) < b
             · rw [q2 g7 g9] at h2
               obtain ⟨z, e3, hz, sz⟩ := prtV_two k r c w L row (O : Nat) (IntKind.i64.wrap ((A : Int) + b))
               rw [hz] at h3
               clear q1 q2 q3
               replace hz := Hid.mk hz
               replace hml := Hid.mk hml
               replace g1 := Hid.mk g1
               replace g6 := Hid.mk g6
               replace g7 := Hid.mk g7
               replace g9 := Hid.mk g9
               simp only [intV, nilS] at h2 h3
               refine fspec_of_body follows Tryz.func5 (by unfold Tryz.f5; rfl) (by unfold Tryz.f5; simp) onceA (by unfold Tryz.f5; simp) (by kernel_rfl) ?_; unfold Tryz.f5
               simp only [↓pre, simprocAttr, parV, sx, tys5, onceA, postU, hf, ho, hlen0, hlA, sA, sX, g2, g3, wOA, m1, m2, s1, s2, hsx, x1, x2, str_neq, str_eql, optNat, Option.map_some, Option.map_none, decide_true, Bool.not_true, sr]
               (first | refine call_plain (haw) (by first | rfl | simp only [parV, plQ, *]) ?_ | refine call_pure (haw) (by first | rfl | simp only [parV, plQ, *]) (by intro k; first | rfl | simp only [sq, sr, *]) ?_); simp only [↓pre, simprocAttr, parV, sx, tys5, onceA, postU, hf, ho, hlen0, hlA, sA, sX, g2, g3, wOA, m1, m2, s1, s2, hsx, x1, x2, str_neq, str_eql, optNat, Option.map_some, Option.map_none, decide_true, Bool.not_true, sz, sr]; (first | refine call_plain (hbi) (by first | rfl | simp only [parV, plQ, *]) ?_ | refine call_pure (hbi) (by first | rfl | simp only [parV, plQ, *]) (by intro k; first | rfl | simp only [sq, sr, *]) ?_); simp only [↓pre, simprocAttr, parV, sx, tys5, onceA, postU, hf, ho, hlen0, hlA, sA, sX, g2, g3, wOA, m1, m2, s1, s2, hsx, x1, x2, str_neq, str_eql, optNat, Option.map_some, Option.map_none, decide_true, Bool.not_true, sz, sr]; (first | refine call_plain (hby) (by first | rfl | simp only [parV, plQ, *]) ?_ | refine call_pure (hby) (by first | rfl | simp only [parV, plQ, *]) (by intro k; first | rfl | simp only [sq, sr, *]) ?_); simp only [↓pre, simprocAttr, parV, sx, tys5, onceA, postU, hf, ho, hlen0, hlA, sA, sX, g2, g3, wOA, m1, m2, s1, s2, hsx, x1, x2, str_neq, str_eql, optNat, Option.map_some, Option.map_none, decide_true, Bool.not_true, sz, sr]; (first | refine call_plain (hle) (by first | rfl | simp only [parV, plQ, *]) ?_ | refine call_pure (hle) (by first | rfl | simp only [parV, plQ, *]) (by intro k; first | rfl | simp only [sq, sr, *]) ?_); simp only [↓pre, simprocAttr, parV, sx, tys5, onceA, postU, hf, ho, hlen0, hlA, sA, sX, g2, g3, wOA, m1, m2, s1, s2, hsx, x1, x2, str_neq, str_eql, optNat, Option.map_some, Option.map_none, decide_true, Bool.not_true, sz, sr]; (first | refine call_plain (h1) (by first | rfl | simp only [parV, plQ, *]) ?_ | refine call_pure (h1) (by first | rfl | simp only [parV, plQ, *]) (by intro k; first | rfl | simp only [sq, sr, *]) ?_); simp only [↓pre, simprocAttr, parV, sx, tys5, onceA, postU, hf, ho, hlen0, hlA, sA, sX, g2, g3, wOA, m1, m2, s1, s2, hsx, x1, x2, str_neq, str_eql, optNat, Option.map_some, Option.map_none, decide_true, Bool.not_true, sz, sr]; (first | refine call_plain (h2) (by first | rfl | simp only [parV, plQ, *]) ?_ | refine call_pure (h2) (by first | rfl | simp only [parV, plQ, *]) (by intro k; first | rfl | simp only [sq, sr, *]) ?_); simp only [↓pre, simprocAttr, parV, sx, tys5, onceA, postU, hf, ho, hlen0, hlA, sA, sX, g2, g3, wOA, m1, m2, s1, s2, hsx, x1, x2, str_neq, str_eql, optNat, Option.map_some, Option.map_none, decide_true, Bool.not_true, sz, sr]; (first | refine call_plain (h3) (by first | rfl | simp only [parV, plQ, *]) ?_ | refine call_pure (h3) (by first | rfl | simp only [parV, plQ, *]) (by intro k; first | rfl | simp only [sq, sr, *]) ?_); simp only [↓pre, simprocAttr, parV, sx, tys5, onceA, postU, hf, ho, hlen0, hlA, sA, sX, g2, g3, wOA, m1, m2, s1, s2, hsx, x1, x2, str_neq, str_eql, optNat, Option.map_some, Option.map_none, decide_true, Bool.not_true, sz, sr]
             · rw [q3 g7 g9] at h2
               clear q1 q2 q3
               obtain ⟨B, hB⟩ : ∃ B : Nat, b = (B : Int) := ⟨b.toNat, by omega⟩
               subst hB
               have wAB : IntKind.i64.wrap ((A : Int) + (B : Int)) = ((A + B : Nat) : Int) := by rw [show (A : Int) + (B : Int) = ((A + B : Nat) : Int) by simp]; exact wrap_nat (by omega)
               rw [wAB] at h3
               obtain ⟨_, _, q3⟩ := hpo2.out (O : Nat) ((A + B : Nat) : Int)
               rw [q3 (by omega) (by omega)] at h3
               clear q3
               simp only [Int.toNat_natCast, intV] at h2 h3
               have hcat := htw1.out (O + (A + B)) (by omega) (by omega)
               rw [show O + A + B = O + (A + B) by omega] at h2
               have hy := tak_rd (cutB k r c w L OS (O + A) (min (O + (A + B)) PL))
               have hz := tak_rd (cutB k r c w L OS O (min (O + (A + B)) PL))
               have x3 := fun (d c : Bool) (m : Mem) => rd_strX (d := d) (c := c) (m := m) hy
               have x4 := fun (d c : Bool) (m : Mem) => rd_strX (d := d) (c := c) (m := m) hz
               have sy := rd_shift hy
               have sz := rd_shift hz
               have hYl : (cutB k r c w L OS (O + A) (min (O + (A + B)) PL)).length ≤ 32768 := by unfold cutB; rw [tab_len]; omega
               generalize cutB k r c w L OS (O + A) (min (O + (A + B)) PL) = YB at *
               generalize cutB k r c w L OS O (min (O + (A + B)) PL) = ZB at *
               generalize takA YB = Y at *
               generalize takA ZB = Z at *
               have hadd := fun (t : TypeId) (x y : Operand) => str_add (P := Tryz.prog) (t := t) (x := x) (y := y) (a := XB) (b := YB) (by have := hXl.out; omega)
               rw [hcat] at hadd
               replace hcat := Hid.mk hcat
               replace hml := Hid.mk hml
               replace g1 := Hid.mk g1
               replace g6 := Hid.mk g6
               replace g7 := Hid.mk g7
               replace g9 := Hid.mk g9
               replace hy := Hid.mk hy
               replace hz := Hid.mk hz
               replace hYl := Hid.mk hYl
               refine fspec_of_body follows Tryz.func5 (by unfold Tryz.f5; rfl) (by unfold Tryz.f5; simp) onceA (by unfold Tryz.f5; simp) (by kernel_rfl) ?_; unfold Tryz.f5
               simp only [↓pre, simprocAttr, parV, sx, tys5, onceA, postU, hf, ho, hlen0, hlA, sA, sX, g2, g3, wOA, m1, m2, s1, s2, hsx, x1, x2, str_neq, str_eql, optNat, Option.map_some, Option.map_none, decide_true, Bool.not_true, sr]
               (first | refine call_plain (haw) (by first | rfl | simp only [parV, plQ, *]) ?_ | refine call_pure (haw) (by first | rfl | simp only [parV, plQ, *]) (by intro k; first | rfl | simp only [sq, sr, *]) ?_); simp only [↓pre, simprocAttr, parV, sx, tys5, onceA, postU, hf, ho, hlen0, hlA, sA, sX, g2, g3, wOA, m1, m2, s1, s2, hsx, x1, x2, str_neq, str_eql, optNat, Option.map_some, Option.map_none, decide_true, Bool.not_true, sy, sz, wAB, x3, x4, hadd, g8, sr]; (first | refine call_plain (hbi) (by first | rfl | simp only [parV, plQ, *]) ?_ | refine call_pure (hbi) (by first | rfl | simp only [parV, plQ, *]) (by intro k; first | rfl | simp only [sq, sr, *]) ?_); simp only [↓pre, simprocAttr, parV, sx, tys5, onceA, postU, hf, ho, hlen0, hlA, sA, sX, g2, g3, wOA, m1, m2, s1, s2, hsx, x1, x2, str_neq, str_eql, optNat, Option.map_some, Option.map_none, decide_true, Bool.not_true, sy, sz, wAB, x3, x4, hadd, g8, sr]; (first | refine call_plain (hby) (by first | rfl | simp only [parV, plQ, *]) ?_ | refine call_pure (hby) (by first | rfl | simp only [parV, plQ, *]) (by intro k; first | rfl | simp only [sq, sr, *]) ?_); simp only [↓pre, simprocAttr, parV, sx, tys5, onceA, postU, hf, ho, hlen0, hlA, sA, sX, g2, g3, wOA, m1, m2, s1, s2, hsx, x1, x2, str_neq, str_eql, optNat, Option.map_some, Option.map_none, decide_true, Bool.not_true, sy, sz, wAB, x3, x4, hadd, g8, sr]; (first | refine call_plain (hle) (by first | rfl | simp only [parV, plQ, *]) ?_ | refine call_pure (hle) (by first | rfl | simp only [parV, plQ, *]) (by intro k; first | rfl | simp only [sq, sr, *]) ?_); simp only [↓pre, simprocAttr, parV, sx, tys5, onceA, postU, hf, ho, hlen0, hlA, sA, sX, g2, g3, wOA, m1, m2, s1, s2, hsx, x1, x2, str_neq, str_eql, optNat, Option.map_some, Option.map_none, decide_true, Bool.not_true, sy, sz, wAB, x3, x4, hadd, g8, sr]; (first | refine call_plain (h1) (by first | rfl | simp only [parV, plQ, *]) ?_ | refine call_pure (h1) (by first | rfl | simp only [parV, plQ, *]) (by intro k; first | rfl | simp only [sq, sr, *]) ?_); simp only [↓pre, simprocAttr, parV, sx, tys5, onceA, postU, hf, ho, hlen0, hlA, sA, sX, g2, g3, wOA, m1, m2, s1, s2, hsx, x1, x2, str_neq, str_eql, optNat, Option.map_some, Option.map_none, decide_true, Bool.not_true, sy, sz, wAB, x3, x4, hadd, g8, sr]; (first | refine call_plain (h2) (by first | rfl | simp only [parV, plQ, *]) ?_ | refine call_pure (h2) (by first | rfl | simp only [parV, plQ, *]) (by intro k; first | rfl | simp only [sq, sr, *]) ?_); simp only [↓pre, simprocAttr, parV, sx, tys5, onceA, postU, hf, ho, hlen0, hlA, sA, sX, g2, g3, wOA, m1, m2, s1, s2, hsx, x1, x2, str_neq, str_eql, optNat, Option.map_some, Option.map_none, decide_true, Bool.not_true, sy, sz, wAB, x3, x4, hadd, g8, sr]; (first | refine call_plain (h3) (by first | rfl | simp only [parV, plQ, *]) ?_ | refine call_pure (h3) (by first | rfl | simp only [parV, plQ, *]) (by intro k; first | rfl | simp only [sq, sr, *]) ?_); simp only [↓pre, simprocAttr, parV, sx, tys5, onceA, postU, hf, ho, hlen0, hlA, sA, sX, g2, g3, wOA, m1, m2, s1, s2, hsx, x1, x2, str_neq, str_eql, optNat, Option.map_some, Option.map_none, decide_true, Bool.not_true, sy, sz, wAB, x3, x4, hadd, g8, sr]
     · rw [if_neg hC] at hby
       simp only [intV, nilS] at hby hle
       replace hpa := Hid.mk hpa
       refine fspec_of_body follows Tryz.func5 (by unfold Tryz.f5; rfl) (by unfold Tryz.f5; simp) onceA (by unfold Tryz.f5; simp) (by kernel_rfl) ?_; unfold Tryz.f5
       simp only [↓pre, simprocAttr, parV, sx, tys5, onceA, postU, hf, ho, hlen0, sr]
       (first | refine call_plain (haw) (by first | rfl | simp only [parV, plQ, *]) ?_ | refine call_pure (haw) (by first | rfl | simp only [parV, plQ, *]) (by intro k; first | rfl | simp only [sq, sr, *]) ?_); simp only [↓pre, simprocAttr, parV, sx, tys5, onceA, postU, hf, ho, hlen0, hC, sr]; (first | refine call_plain (hbi) (by first | rfl | simp only [parV, plQ, *]) ?_ | refine call_pure (hbi) (by first | rfl | simp only [parV, plQ, *]) (by intro k; first | rfl | simp only [sq, sr, *]) ?_); simp only [↓pre, simprocAttr, parV, sx, tys5, onceA, postU, hf, ho, hlen0, hC, sr]; (first | refine call_plain (hby) (by first | rfl | simp only [parV, plQ, *]) ?_ | refine call_pure (hby) (by first | rfl | simp only [parV, plQ, *]) (by intro k; first | rfl | simp only [sq, sr, *]) ?_); simp only [↓pre, simprocAttr, parV, sx, tys5, onceA, postU, hf, ho, hlen0, hC, sr]; (first | refine call_plain (hle) (by first | rfl | simp only [parV, plQ, *]) ?_ | refine call_pure (hle) (by first | rfl | simp only [parV, plQ, *]) (by intro k; first | rfl | simp only [sq, sr, *]) ?_); simp only [↓pre, simprocAttr, parV, sx, tys5, onceA, postU, hf, ho, hlen0, hC, sr]
   · rw [if_neg hO] at hby
     simp only [intV, nilS] at hby hle
     replace hpa := Hid.mk hpa
     refine fspec_of_body follows Tryz.func5 (by unfold Tryz.f5; rfl) (by unfold Tryz.f5; simp) onceA (by unfold Tryz.f5; simp) (by kernel_rfl) ?_; unfold Tryz.f5
     simp only [↓pre, simprocAttr, parV, sx, tys5, onceA, postU, hf, ho, hlen0, sr]
     (first | refine call_plain (haw) (by first | rfl | simp only [parV, plQ, *]) ?_ | refine call_pure (haw) (by first | rfl | simp only [parV, plQ, *]) (by intro k; first | rfl | simp only [sq, sr, *]) ?_); simp only [↓pre, simprocAttr, parV, sx, tys5, onceA, postU, hf, ho, hlen0, hO, sr]; (first | refine call_plain (hbi) (by first | rfl | simp only [parV, plQ, *]) ?_ | refine call_pure (hbi) (by first | rfl | simp only [parV, plQ, *]) (by intro k; first | rfl | simp only [sq, sr, *]) ?_); simp only [↓pre, simprocAttr, parV, sx, tys5, onceA, postU, hf, ho, hlen0, hO, sr]; (first | refine call_plain (hby) (by first | rfl | simp only [parV, plQ, *]) ?_ | refine call_pure (hby) (by first | rfl | simp only [parV, plQ, *]) (by intro k; first | rfl | simp only [sq, sr, *]) ?_); simp only [↓pre, simprocAttr, parV, sx, tys5, onceA, postU, hf, ho, hlen0, hO, sr]; (first | refine call_plain (hle) (by first | rfl | simp only [parV, plQ, *]) ?_ | refine call_pure (hle) (by first | rfl | simp only [parV, plQ, *]) (by intro k; first | rfl | simp only [sq, sr, *]) ?_); simp only [↓pre, simprocAttr, parV, sx, tys5, onceA, postU, hf, ho, hlen0, hO, sr]
end Go.Proofs.YtaekhhlgnbhnpaaGreat