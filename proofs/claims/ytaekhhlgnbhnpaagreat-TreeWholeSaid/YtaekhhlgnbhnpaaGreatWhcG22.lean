import Derived.Test.YtaekhhlgnbhnpaaGreatWhcG21
set_option linter.unusedVariables false
set_option linter.unusedSimpArgs false
set_option maxRecDepth 10000
namespace Go.Proofs.YtaekhhlgnbhnpaaGreat
open Go Go.Tw Go.Proofs Go.Gf
abbrev LiveI := Int × Int × Int
def liveA (l : List LiveI) : List AV := l.flatMap fun x => [intV x.1, .val (.int .u8 x.2.1), intV x.2.2]
theorem liveA_len (l : List LiveI) : (liveA l).length = l.length * 3 := by
 induction l with
 | nil => rfl
 | cons a l ih => simp only [liveA, List.flatMap_cons, List.length_append, List.length_cons, List.length_nil] at ih ⊢; omega
theorem liveA_append (a b : List LiveI) : liveA (a ++ b) = liveA a ++ liveA b := by simp [liveA]
theorem liveA_at : ∀ (l : List LiveI) (i : Nat) (a : LiveI), l[i]? = some a → (liveA l)[i * 3]? = some (intV a.1) ∧ (liveA l)[i * 3 + 1]? = some (.val (.int .u8 a.2.1)) ∧ (liveA l)[i * 3 + 2]? = some (intV a.2.2)
 | [], i, a, h => by simp at h
 | b :: l, 0, a, h => by simp at h; subst h; exact ⟨rfl, rfl, rfl⟩
 | b :: l, i + 1, a, h => by
   have ih := liveA_at l i a (by simpa using h)
   have e : liveA (b :: l) = intV b.1 :: .val (.int .u8 b.2.1) :: intV b.2.2 :: liveA l := rfl
   rw [e, show (i + 1) * 3 = i * 3 + 1 + 1 + 1 by omega]
   simpa using ih
def liveT (l : List LiveI) : AV := .tree l.length l.length (liveA l) (decide (l.length = 1))
theorem liveT_rd (l : List LiveI) : RdSl (liveT l) l.length (liveA l) := ⟨.inr (.inr ⟨_, _, rfl, Nat.le_refl _⟩)⟩
def datL (l : List RefI) : List LiveI := l.map fun x => (x.1, 1, x.2)
theorem datL_len (l : List RefI) : (datL l).length = l.length := by simp [datL]
theorem datL_succ {l : List RefI} {i : Nat} {x : RefI} (h : l[i]? = some x) : datL (l.take (i + 1)) = datL (l.take i) ++ [(x.1, 1, x.2)] := by
 rw [List.take_add_one, h]
 simp [datL]
def strL (k r c w : Int) (L : List (List UInt8)) (row : Int) : List LiveI := (row, 2, winI k r c w (rowL k r w L row)) :: datL (objL k r c w L row ++ objS k r c w L row)
def strV17 (k r c w : Int) (L : List (List UInt8)) (row : Int) : AV := if objE k r c w L row = 0 then .tup [liveT (strL k r c w L row), intV 0] else .tup [nilS, intV (objE k r c w L row)]
theorem objL_len {k r c w : Int} {L : List (List UInt8)} {row : Int} (h : objE k r c w L row = 0) : (objL k r c w L row).length ≤ 126 := by
 obtain ⟨_, hR, hC, _⟩ := obj_refs h
 have hD := com_desc hC
 obtain ⟨_, _, _, hll, _⟩ := desc_bounds hD
 obtain ⟨_, hm⟩ := row_rowB hR
 have hw := may_w hm
 unfold objL
 split
 · simp
 · unfold dI at hll
   unfold objD
   omega
theorem tree_Stripes (k r c w row : Int) (v : AV) (L : List (List UInt8)) (cells : List AV) (hv : RowsV v L cells) : FSpec Tryz.prog 63 [imV k r c w v, intV row] ⟨strV17 k r c w L row, []⟩ := by
 refine fspec_fzT ?_
 have hp := hv.rd.plain
 have hf := rd_fz hv.rd
 have ho := rd_one hv.rd
 have hob := tree_Object k r c w row v L cells hv
 unfold strV17
 unfold objV at hob
 unfold imV at hob ⊢
 by_cases hE : objE k r c w L row = 0
 · rw [if_pos hE] at hob ⊢
   have hLl := objL_len hE
   obtain ⟨_, _, _, _, hSl, _, _⟩ := obj_refs hE
   have hRr := treeR_rd (pRefs (objD k r c w L row)).length (refsA (pRefs (objD k r c w L row)))
   have hLr := treeR_rd (objL k r c w L row).length (refsA (objL k r c w L row))
   have hSr := treeR_rd (objS k r c w L row).length (refsA (objS k r c w L row))
   have hcc := concat_refs _ _ _ _ hLr hSr (by omega)
   unfold descA refsT at hob
   unfold strL
   generalize hAl : objL k r c w L row ++ objS k r c w L row = al at *
   have hal : al.length ≤ 30000 := by rw [← hAl, List.length_append]; omega
   have hAr := treeR_rd al.length (refsA al)
   generalize treeR (pRefs (objD k r c w L row)).length (refsA (pRefs (objD k r c w L row))) = DV at *
   generalize treeR (objL k r c w L row).length (refsA (objL k r c w L row)) = LV at *
   generalize treeR (objS k r c w L row).length (refsA (objS k r c w L row)) = SV at *
   generalize treeR al.length (refsA al) = AL at *
   have f2 := rd_fz hRr
   have o2 := rd_one hRr
   have s2 := rd_shift hRr
   have s3 := rd_shift hLr
   have s4 := rd_shift hSr
   have s5 := rd_shift hAr
   have o3 := rd_okA hLr
   have o4 := rd_okA hSr
   have c3 := rd_cells hLr
   have c4 := rd_cells hSr
   have q3 := rd_one hLr
   have q4 := rd_one hSr
   have hbt : ∀ m, buildTreeE Tryz.prog m 243 2 [(0, LV), (1, SV)] = some ⟨.tree 2 2 [LV, SV] true, m, none⟩ := fun m => buildT_of (el := 31) (sz := 1) (z := [.val (.slice none 0 0), .val (.slice none 0 0)]) (by kernel_rfl) (by kernel_rfl) (by kernel_rfl) (by simp [fillE, o3, o4, c3, c4, splice]) (by simp [hasRefs, rd_ref hLr, rd_ref hSr]) (by decide)
   generalize pLen (objD k r c w L row) = PL at *
   generalize pDep (objD k r c w L row) = PD at *
   generalize winI k r c w (rowL k r w L row) = W at *
   have hbl : ∀ m (a kd b : Int), buildTreeE Tryz.prog m 96 1 [(0, .agg [.val (.int .i64 a), .val (.int .u8 kd), .val (.int .i64 b)])] = some ⟨.tree 1 1 [.val (.int .i64 a), .val (.int .u8 kd), .val (.int .i64 b)] true, m, none⟩ := fun m a kd b => buildT_of (el := 104) (sz := 3) (z := [.val (.int .i64 0), .val (.int .u8 0), .val (.int .i64 0)]) (by kernel_rfl) (by kernel_rfl) (by kernel_rfl) rfl rfl (by decide)
   have hsr : ∀ m (a kd b : Int), srcE Tryz.prog 104 3 m (.tree 1 1 [.val (.int .i64 a), .val (.int .u8 kd), .val (.int .i64 b)] true) = some ([.val (.int .i64 a), .val (.int .u8 kd), .val (.int .i64 b)], 1) := fun m a kd b => src_tree (by simp)
   have hats := fun (i : Nat) (x : RefI) (hi : al[i]? = some x) => refsA_at al [] i x hi
   rw [List.append_nil] at hats
   simp only [intV] at hob
   replace hE := Hid.mk hE
   replace hLl := Hid.mk hLl
   replace hSl := Hid.mk hSl
   replace hAl := Hid.mk hAl
   replace hRr := Hid.mk hRr
   replace hLr := Hid.mk hLr
   replace hSr := Hid.mk hSr
   replace hsr := Hid.mk hsr
   replace hats := Hid.mk hats
   refine ospec_of_body follows Tryz.func63 (by unfold Tryz.f63; rfl) (by unfold Tryz.f63; simp) onceA (by unfold Tryz.f63; simp) (by kernel_rfl) ?_; unfold Tryz.f63
   simp only [↓pre, simprocAttr, parV, sx, tys63, onceA, postU, postV, hf, ho, storeE, allocE, put_at, push_at, sr]
   (first | refine call_plain (hob) (by first | rfl | simp only [parV, plQ, *]) ?_ | refine call_pure (hob) (by first | rfl | simp only [parV, plQ, *]) (by intro k; first | rfl | simp only [sq, sr, *]) ?_); simp only [↓pre, simprocAttr, parV, sx, tys63, onceA, postU, postV, hf, ho, storeE, allocE, put_at, push_at, f2, o2, s2, s3, s4, q3, q4, hbl, hbt, s5, hAr.len', sr]; (first | refine call_plain (hcc) (by first | rfl | simp only [parV, plQ, *]) ?_ | refine call_pure (hcc) (by first | rfl | simp only [parV, plQ, *]) (by intro k; first | rfl | simp only [sq, sr, *]) ?_); simp only [↓pre, simprocAttr, parV, sx, tys63, onceA, postU, postV, hf, ho, storeE, allocE, put_at, push_at, f2, o2, s2, s3, s4, q3, q4, hbl, hbt, s5, hAr.len', sr]
   rw [codeW_loop]
   refine loop_intro (fun q e m => ∃ i, q + i = al.length ∧ e 33 = AL ∧ e 34 = intV (al.length : Nat) ∧ e 35 = intV (i : Nat) ∧ Hid ((i = 0 ∧ e 11 = .tree 1 1 [.val (.int .i64 row), .val (.int .u8 2), .val (.int .i64 W)] true) ∨ (0 < i ∧ Own m 104 3 (e 11) (1 + i) (liveA ((row, 2, W) :: datL (al.take i)))))) al.length ⟨0, by omega, rfl, rfl, rfl, ⟨.inl ⟨rfl, rfl⟩⟩⟩ ?_
   rintro q e m ⟨i, hq, e33, e34, e35, hJ⟩
   replace hq := Hid.mk hq
   generalize hv11 : e 11 = v11 at *
   by_cases hlt : i < al.length
   · have hlt' : ((i : Nat) : Int) < ((al.length : Nat) : Int) := by omega
     have wi := wrap_succ (n := i) (by omega)
     obtain ⟨x, hx⟩ : ∃ x, al[i]? = some x := ⟨_, List.getElem?_eq_getElem hlt⟩
     obtain ⟨ha, hb⟩ := hats.out i x hx
     obtain ⟨ht, htl⟩ := take2 ha hb
     have hsuc := datL_succ hx
     have hcell : liveA ((row, 2, W) :: datL (al.take (i + 1))) = liveA ((row, 2, W) :: datL (al.take i)) ++ [.val (.int .i64 x.1), .val (.int .u8 1), .val (.int .i64 x.2)] := by
       rw [hsuc, ← List.cons_append, liveA_append]
       rfl
     replace hx := Hid.mk hx
     replace hsuc := Hid.mk hsuc
     replace hcell := Hid.mk hcell
     simp only [↓pre, simprocAttr, parV, sx, tys63, onceA, postU, postV, hf, ho, storeE, allocE, put_at, push_at, hv11, e33, e34, e35, hlt', hAr.addr', hlt, ht, htl, hbl, sr]
     have hstep : ∀ (m2 : Mem) (K : Out → Prop), m.next ≤ m2.next → (∀ j kk, m.at_ j = some kk → j < m.next → m2.at_ j = some kk) → (∀ lv' m', Own m' 104 3 lv' (1 + (i + 1)) (liveA ((row, 2, W) :: datL (al.take (i + 1)))) → K ⟨lv', m', none⟩) → outW (appE Tryz.prog 104 m2 v11 (.tree 1 1 [.val (.int .i64 x.1), .val (.int .u8 1), .val (.int .i64 x.2)] true)) K := by
       intro m2 K hn hk hK
       rcases hJ.out with ⟨hi0, rfl⟩ | ⟨hi0, hown⟩
       · subst hi0
         have h1 : szE Tryz.prog 104 = some 3 := by kernel_rfl
         have h2 : byE Tryz.prog 104 = some 24 := by kernel_rfl
         have h3 : zeroE Tryz.prog 104 = some [.int .i64 0, .int .u8 0, .int .i64 0] := by kernel_rfl
         have h4 : kindT Tryz.prog 104 = .flat := by kernel_rfl
         have : appE Tryz.prog 104 m2 (.tree 1 1 [.val (.int .i64 row), .val (.int .u8 2), .val (.int .i64 W)] true) (.tree 1 1 [.val (.int .i64 x.1), .val (.int .u8 1), .val (.int .i64 x.2)] true) = some ⟨.sl m2.next 0 2 2 false, m2.push ⟨[.val (.int .i64 row), .val (.int .u8 2), .val (.int .i64 W)] ++ [.val (.int .i64 x.1), .val (.int .u8 1), .val (.int .i64 x.2)], 104, .flat, true⟩, none⟩ := by
           simp only [appE, h1, h2, h3, h4, hsr.out m2, slView, Option.bind_some]
           simp [outV]
         rw [this]
         refine hK _ _ ⟨.inr ⟨m2.next, rfl, ?_, by rw [push_next]; omega, by omega⟩, ?_⟩
         · rw [push_at, if_pos rfl, hcell.out]; rfl
         · rw [liveA_len, List.length_cons, datL_len, List.length_take]; omega
       · have ho2 : Own m2 104 3 v11 (1 + i) (liveA ((row, 2, W) :: datL (al.take i))) := hown.keep hn fun j kk hj hk2 => by
           rcases hown.form with ⟨h, _⟩ | ⟨b, h, _, hb2, _⟩
           · rw [h] at hj; simp [blkOf, nilS] at hj
           · rw [h] at hj
             simp only [blkOf, Option.some.injEq] at hj
             exact hk j kk hk2 (by omega)
         refine app_rule (kd := .flat) (sz := 3) (y := 24) (zl := [.int .i64 0, .int .u8 0, .int .i64 0]) (by kernel_rfl) ho2 (by kernel_rfl) (by kernel_rfl) (by kernel_rfl) rfl (hsr.out m2 _ _ _) rfl (by omega) (by omega) ?_
         intro lv' m' ho' hn'
         rw [← hcell.out] at ho'
         exact hK _ _ (by rw [show 1 + (i + 1) = 1 + i + 1 by omega]; exact ho')
     refine hstep _ _ (by simp only [put_next, push_next]; omega) (fun j kk hj hjl => by rw [put_at, if_neg (by omega), push_at, if_neg (by omega)]; exact hj) ?_
     intro lv' m' ho'
     replace ho' := Hid.mk ho'
     clear hstep
     simp only [↓pre, simprocAttr, parV, sx, tys63, onceA, postU, postV, hf, ho, storeE, allocE, put_at, push_at, hv11, e33, e34, e35, wi, sr]
     exact ⟨q - 1, by have := hq.out; omega, i + 1, by have := hq.out; omega, rfl, ⟨.inr ⟨by omega, ho'.out⟩⟩⟩
   · have hlt' : ¬ ((i : Nat) : Int) < ((al.length : Nat) : Int) := by omega
     have hi : i = al.length := by have := hq.out; omega
     have hfin : ∃ kk, fzT kk m v11 = some (liveT ((row, 2, W) :: datL al)) := by
       rcases hJ.out with ⟨hi0, rfl⟩ | ⟨hi0, hown⟩
       · have : al = [] := List.eq_nil_of_length_eq_zero (by omega)
         subst this
         exact ⟨0, fzT_tree⟩
       · rw [hi, List.take_length] at hown
         refine ⟨0, ?_⟩
         rw [own_fzT hown 0]
         unfold treeR liveT
         rw [if_neg (by omega)]
         have : ((row, 2, W) :: datL al).length = 1 + al.length := by rw [List.length_cons, datL_len]; omega
         rw [this, decide_eq_false (by omega)]
     obtain ⟨kk, hfin⟩ := hfin
     replace hfin := Hid.mk hfin
     simp only [↓pre, simprocAttr, parV, sx, tys63, onceA, postU, postV, hf, ho, storeE, allocE, put_at, push_at, hv11, e33, e34, e35, hlt', sr]
     exact ⟨kk, by rw [fzT_tup, fzTs_cons, hfin.out, Option.bind_some, fzTs_cons, fzT_val, fzTs_nil]; rfl⟩
 · rw [if_neg hE] at hob ⊢
   unfold desc0 nilS at hob
   simp only [intV] at hob
   refine ospec_of_body follows Tryz.func63 (by unfold Tryz.f63; rfl) (by unfold Tryz.f63; simp) onceA (by unfold Tryz.f63; simp) (by kernel_rfl) ?_; unfold Tryz.f63
   simp only [↓pre, simprocAttr, parV, sx, tys63, onceA, postU, postV, hf, ho, storeE, allocE, put_at, push_at, sr]
   (first | refine call_plain (hob) (by first | rfl | simp only [parV, plQ, *]) ?_ | refine call_pure (hob) (by first | rfl | simp only [parV, plQ, *]) (by intro k; first | rfl | simp only [sq, sr, *]) ?_); simp only [↓pre, simprocAttr, parV, sx, tys63, onceA, postU, postV, hf, ho, storeE, allocE, put_at, push_at, hE, sr]
   exact ⟨1, fzId_two (fzId_val (.slice none 0 0)) (fzId_val (.int .i64 (objE k r c w L row))) 1 _⟩
theorem tree_Rows_bad (k r c w row : Int) (v : AV) (L : List (List UInt8)) (cells : List AV) (hv : RowsV v L cells) (hE : ¬ objE k r c w L row = 0) : FSpec Tryz.prog 61 [imV k r c w v, intV row] ⟨.tup [nilS, intV (objE k r c w L row)], []⟩ := by
 refine fspec_fzT ?_
 have hp := hv.rd.plain
 have hf := rd_fz hv.rd
 have ho := rd_one hv.rd
 have hst := tree_Stripes k r c w row v L cells hv
 unfold strV17 at hst
 unfold imV at hst ⊢
 rw [if_neg hE] at hst
 unfold nilS at hst
 simp only [intV] at hst
 refine ospec_of_body follows Tryz.func61 (by unfold Tryz.f61; rfl) (by unfold Tryz.f61; simp) onceA (by unfold Tryz.f61; simp) (by kernel_rfl) ?_; unfold Tryz.f61
 simp only [↓pre, simprocAttr, parV, sx, tys61, onceA, postU, hf, ho, sr]
 (first | refine call_plain (hst) (by first | rfl | simp only [parV, plQ, *]) ?_ | refine call_pure (hst) (by first | rfl | simp only [parV, plQ, *]) (by intro k; first | rfl | simp only [sq, sr, *]) ?_); simp only [↓pre, simprocAttr, parV, sx, tys61, onceA, postU, hf, ho, hE, sr]
 exact ⟨1, fzId_two (fzId_val (.slice none 0 0)) (fzId_val (.int .i64 (objE k r c w L row))) 1 _⟩
theorem law17_awake : FSpec Tryz.prog 57 [] ⟨boolV true, []⟩ := by
 have hE : objE 0 0 0 0 [] 0 = 2 := by
   have h3 : imE 0 0 0 0 [] = 2 := by
     unfold imE
     rw [if_neg (by decide)]
   have h2 : rowE 0 0 0 0 [] 0 = 2 := by
     unfold rowE
     rw [h3, if_neg (by decide)]
   unfold objE
   rw [h2, if_neg (by decide)]
 have h1 := tree_Rows_bad 0 0 0 0 0 nilS [] [] ⟨⟨.inl ⟨rfl, rfl⟩⟩, fun i b h => by simp at h⟩ (by rw [hE]; decide)
 rw [hE] at h1
 unfold imV nilS at h1
 simp only [intV] at h1
 refine fspec_of_body follows Tryz.func57 (by unfold Tryz.f57; rfl) (by unfold Tryz.f57; simp) onceA (by unfold Tryz.f57; simp) (by kernel_rfl) ?_; unfold Tryz.f57
 simp only [↓pre, simprocAttr, parV, sx, tys57, onceA, postU, sr]
 (first | refine call_plain (h1) (by first | rfl | simp only [parV, plQ, *]) ?_ | refine call_pure (h1) (by first | rfl | simp only [parV, plQ, *]) (by intro k; first | rfl | simp only [sq, sr, *]) ?_); simp only [↓pre, simprocAttr, parV, sx, tys57, onceA, postU, sr]
theorem law17_big (k r c w : Int) (v : AV) (L : List (List UInt8)) (cells : List AV) (hv : RowsV v L cells) : FSpec Tryz.prog 58 [imV k r c w v] ⟨boolV (mayB k r c w && decide (400 < (k + r) * w)), []⟩ := by
 have hp := hv.rd.plain
 have hf := rd_fz hv.rd
 have ho := rd_one hv.rd
 have h1 := ref06_may k r c w
 have h2 := fun h => ref06_N k r c w h
 unfold imV
 cases hm : mayB k r c w with
 | false =>
   rw [hm] at h1
   replace h2 := Hid.mk h2
   refine fspec_of_body follows Tryz.func58 (by unfold Tryz.f58; rfl) (by unfold Tryz.f58; simp) onceA (by unfold Tryz.f58; simp) (by kernel_rfl) ?_; unfold Tryz.f58
   simp only [↓pre, simprocAttr, parV, sx, tys58, onceA, postU, hf, ho, sr]
   (first | refine call_plain (h1) (by first | rfl | simp only [parV, plQ, *]) ?_ | refine call_pure (h1) (by first | rfl | simp only [parV, plQ, *]) (by intro k; first | rfl | simp only [sq, sr, *]) ?_); simp only [↓pre, simprocAttr, parV, sx, tys58, onceA, postU, hf, ho, sr]
 | true =>
   rw [hm] at h1
   have h2 := h2 hm
   have hb := im_bound hm
   have wm : IntKind.i64.wrap ((k + r) * w) = (k + r) * w := wrap_id (by omega) (by omega)
   replace hb := Hid.mk hb
   refine fspec_of_body follows Tryz.func58 (by unfold Tryz.f58; rfl) (by unfold Tryz.f58; simp) onceA (by unfold Tryz.f58; simp) (by kernel_rfl) ?_; unfold Tryz.f58
   simp only [↓pre, simprocAttr, parV, sx, tys58, onceA, postU, hf, ho, sr]
   (first | refine call_plain (h1) (by first | rfl | simp only [parV, plQ, *]) ?_ | refine call_pure (h1) (by first | rfl | simp only [parV, plQ, *]) (by intro k; first | rfl | simp only [sq, sr, *]) ?_); simp only [↓pre, simprocAttr, parV, sx, tys58, onceA, postU, hf, ho, wm, sr]; (first | refine call_plain (h2) (by first | rfl | simp only [parV, plQ, *]) ?_ | refine call_pure (h2) (by first | rfl | simp only [parV, plQ, *]) (by intro k; first | rfl | simp only [sq, sr, *]) ?_); simp only [↓pre, simprocAttr, parV, sx, tys58, onceA, postU, hf, ho, wm, sr]
end Go.Proofs.YtaekhhlgnbhnpaaGreat