import Derived.Test.YtaekhhlgnbhnpaaGreatLfcG21
set_option linter.unusedVariables false
set_option linter.unusedSimpArgs false
set_option maxRecDepth 10000
namespace Go.Proofs.YtaekhhlgnbhnpaaGreat
open Go Go.Tw Go.Proofs Go.Gf
theorem refsOk_at {w : Int} {l : List RefI} (h : refsOk w l = true) : ∀ x ∈ l, refB w x = true := fun x hx => List.all_eq_true.1 h x hx
theorem leaves_refs {k r c w : Int} {L : List (List UInt8)} (hk : lI k c ≤ 128) : ∀ (l : List RefI) (n : Int), leavesE k r c w L l n = 0 → (∀ x ∈ leavesR k r c w L l n, refB w x = true) ∧ (leavesR k r c w L l n).length ≤ l.length * 128
 | [], n, _ => ⟨fun x hx => by simp [leavesR] at hx, by simp [leavesR]⟩
 | y :: l, n, h => by
   unfold leavesE at h
   split at h
   · rename_i h1
     obtain ⟨h2, h3⟩ := leaves_refs hk l _ h
     obtain ⟨hn1, hn2⟩ := leaf_ok h1
     unfold leavesR
     refine ⟨fun x hx => ?_, ?_⟩
     · rcases List.mem_append.1 hx with hx | hx
       · unfold leafE at h1
         split at h1
         · omega
         · unfold refsE at h1
           split at h1
           · omega
           · split at h1
             · rename_i h4
               exact refsOk_at h4.1 x hx
             · omega
       · exact h2 x hx
     · rw [List.length_append, leafR_len, List.length_cons]
       omega
   · contradiction
theorem obj_refs {k r c w : Int} {L : List (List UInt8)} {row : Int} (h : objE k r c w L row = 0) : imE k r c w L = 0 ∧ rowE k r c w L row = 0 ∧ comE k r c w (rowL k r w L row) = 0 ∧ (∀ x ∈ objS k r c w L row, refB w x = true) ∧ (objS k r c w L row).length ≤ 20000 ∧ 0 ≤ pLen (objD k r c w L row) ∧ pLen (objD k r c w L row) ≤ 32768 := by
 unfold objE at h
 split at h
 · rename_i hR
   split at h
   · rename_i hC
     have hD := com_desc hC
     obtain ⟨hl0, hl1, hdep, hll, hlr⟩ := desc_bounds hD
     obtain ⟨hrb, hm⟩ := row_rowB hR
     have hw := may_w hm
     have hdb := d_bounds hw.1 hw.2
     have hlb := l_bounds hw.1 hw.2
     have hE : imE k r c w L = 0 := by
       unfold rowE at hR
       split at hR
       · assumption
       · assumption
     refine ⟨hE, hR, hC, ?_⟩
     have hPR : (pRefs (objD k r c w L row)).length ≤ 126 := by unfold dI at hll; unfold objD; omega
     have hre : ∀ x ∈ pRefs (objD k r c w L row), refB w x = true := fun x hx => by
       have := hlr x hx
       unfold refB
       exact decide_eq_true this
     unfold objS
     split at h
     · rename_i hd
       rw [if_pos hd]
       exact ⟨hre, by omega, hl0, hl1⟩
     · rename_i hd
       rw [if_neg hd]
       obtain ⟨h1, h2⟩ := leaves_refs (by unfold lI; omega) _ _ h
       exact ⟨h1, by omega, hl0, hl1⟩
   · contradiction
 · contradiction
def bytV (k r c w : Int) (L : List (List UInt8)) (row : Int) : AV := if objE k r c w L row = 0 then cutV k r c w L (objS k r c w L row) 0 (pLen (objD k r c w L row)).toNat else .tup [nilS, intV (objE k r c w L row)]
theorem cutV_two (k r c w : Int) (L : List (List UInt8)) (l : List RefI) (fr to : Nat) : ∃ a e, cutV k r c w L l fr to = .tup [a, intV e] ∧ (∀ j, shift j a = a) ∧ fzId a := by
 have h := taken_rd (cutB k r c w L l fr to)
 unfold cutV
 split
 · exact ⟨_, _, rfl, fun j => rd_shift h j, fzId_rd h⟩
 · exact ⟨_, _, rfl, fun j => rfl, fzId_val _⟩
theorem object_Bytes (k r c w row : Int) (v : AV) (L : List (List UInt8)) (cells : List AV) (hv : RowsV v L cells) : FSpec Tryz.prog 29 [imV k r c w v, intV row] ⟨bytV k r c w L row, []⟩ := by
 refine fspec_fzT ?_
 have hp := hv.rd.plain
 have hf := rd_fz hv.rd
 have ho := rd_one hv.rd
 have hob := tree_Object k r c w row v L cells hv
 unfold bytV
 unfold objV at hob
 unfold imV at hob ⊢
 by_cases hE : objE k r c w L row = 0
 · rw [if_pos hE] at hob ⊢
   obtain ⟨hI, _, _, hre, hlen, hl0, hl1⟩ := obj_refs hE
   obtain ⟨N, hN⟩ : ∃ N : Nat, pLen (objD k r c w L row) = (N : Int) := ⟨(pLen (objD k r c w L row)).toNat, by omega⟩
   have hRr := treeR_rd (pRefs (objD k r c w L row)).length (refsA (pRefs (objD k r c w L row)))
   have hLr := treeR_rd (objL k r c w L row).length (refsA (objL k r c w L row))
   have hSr := treeR_rd (objS k r c w L row).length (refsA (objS k r c w L row))
   have hcu := object_cut k r c w v L cells hv hI (treeR (objS k r c w L row).length (refsA (objS k r c w L row))) (objS k r c w L row) ⟨[], by rw [List.append_nil]; exact hSr⟩ hre hlen 0 N (by omega)
   obtain ⟨a, e, he, hsh, hid⟩ := cutV_two k r c w L (objS k r c w L row) 0 N
   have hz := fun m => fzId_two hid (fzId_val (.int .i64 e)) 1 m
   replace hz := Hid.mk hz
   rw [hN, Int.toNat_natCast, he]
   rw [he] at hcu
   unfold descA refsT at hob
   unfold imV at hcu
   rw [hN] at hob
   generalize treeR (pRefs (objD k r c w L row)).length (refsA (pRefs (objD k r c w L row))) = DV at *
   generalize treeR (objL k r c w L row).length (refsA (objL k r c w L row)) = LV at *
   generalize treeR (objS k r c w L row).length (refsA (objS k r c w L row)) = SV at *
   have f2 := rd_fz hRr
   have o2 := rd_one hRr
   have s2 := rd_shift hRr
   have s3 := rd_shift hLr
   have s4 := rd_shift hSr
   have p4 := hSr.plain
   generalize pDep (objD k r c w L row) = PD at *
   generalize winI k r c w (rowL k r w L row) = W at *
   simp only [intV, Int.natCast_zero, Int.cast_ofNat_Int] at hob hcu
   replace hE := Hid.mk hE
   replace hN := Hid.mk hN
   replace hre := Hid.mk hre
   replace hlen := Hid.mk hlen
   replace hl0 := Hid.mk hl0
   replace hl1 := Hid.mk hl1
   replace he := Hid.mk he
   replace hRr := Hid.mk hRr
   replace hLr := Hid.mk hLr
   replace hSr := Hid.mk hSr
   refine ospec_of_body follows Tryz.func29 (by unfold Tryz.f29; rfl) (by unfold Tryz.f29; simp) onceA (by unfold Tryz.f29; simp) (by kernel_rfl) ?_; unfold Tryz.f29
   simp only [↓pre, simprocAttr, parV, sx, tys29, onceA, postU, hf, ho, storeE, allocE, put_at, push_at, sr]
   (first | refine call_plain (hob) (by first | rfl | simp only [parV, plQ, *]) ?_ | refine call_pure (hob) (by first | rfl | simp only [parV, plQ, *]) (by intro k; first | rfl | simp only [sq, sr, *]) ?_); simp only [↓pre, simprocAttr, parV, sx, tys29, onceA, postU, hf, ho, storeE, allocE, put_at, push_at, f2, o2, s2, s3, s4, hsh, sr]; (first | refine call_plain (hcu) (by first | rfl | simp only [parV, plQ, *]) ?_ | refine call_pure (hcu) (by first | rfl | simp only [parV, plQ, *]) (by intro k; first | rfl | simp only [sq, sr, *]) ?_); simp only [↓pre, simprocAttr, parV, sx, tys29, onceA, postU, hf, ho, storeE, allocE, put_at, push_at, f2, o2, s2, s3, s4, hsh, sr]
   exact ⟨1, hz.out _⟩
 · rw [if_neg hE] at hob ⊢
   unfold desc0 nilS at hob
   simp only [intV] at hob
   refine ospec_of_body follows Tryz.func29 (by unfold Tryz.f29; rfl) (by unfold Tryz.f29; simp) onceA (by unfold Tryz.f29; simp) (by kernel_rfl) ?_; unfold Tryz.f29
   simp only [↓pre, simprocAttr, parV, sx, tys29, onceA, postU, hf, ho, storeE, allocE, put_at, push_at, sr]
   (first | refine call_plain (hob) (by first | rfl | simp only [parV, plQ, *]) ?_ | refine call_pure (hob) (by first | rfl | simp only [parV, plQ, *]) (by intro k; first | rfl | simp only [sq, sr, *]) ?_); simp only [↓pre, simprocAttr, parV, sx, tys29, onceA, postU, hf, ho, storeE, allocE, put_at, push_at, hE, sr]
   exact ⟨1, fzId_two (fzId_val (.slice none 0 0)) (fzId_val (.int .i64 (objE k r c w L row))) 1 _⟩
abbrev Ent := ByteArray × Int
def entCells : List Ent → List AV
 | [] => []
 | e :: l => strV e.1 :: intV e.2 :: entCells l
theorem ent_at : ∀ {l : List Ent} {x : List AV} {i : Nat} {s : ByteArray} {r : Int}, l[i]? = some (s, r) → (entCells l ++ x)[i * 2]? = some (.val (.string s)) ∧ (entCells l ++ x)[i * 2 + 1]? = some (.val (.int .i64 r)) ∧ ((entCells l ++ x).drop (i * 2)).take 2 = [.val (.string s), .val (.int .i64 r)] ∧ i * 2 + 2 ≤ (entCells l ++ x).length
 | [], x, i, s, r, h => by simp at h
 | e :: l, x, 0, s, r, h => by
   simp at h
   subst h
   simp [entCells, intV]
 | e :: l, x, i + 1, s, r, h => by
   have := ent_at (l := l) (x := x) (i := i) (by simpa using h)
   rw [show (i + 1) * 2 = i * 2 + 2 by omega]
   simpa [entCells] using this
def nameOk (s : ByteArray) : Bool := decide (1 ≤ s.size ∧ s.size ≤ 24)
def entOk (w : Int) (e : Ent) : Bool := nameOk e.1 && decide (0 ≤ e.2 ∧ e.2 < w)
def longN (l : List Ent) : Nat := (l.map fun e => 3 + e.1.size).sum
theorem longN_take {l : List Ent} {i : Nat} {s : ByteArray} {r : Int} (h : l[i]? = some (s, r)) : longN (l.take (i + 1)) = longN (l.take i) + (3 + s.size) := by
 unfold longN
 rw [List.take_add_one, h]
 simp
theorem longN_le {l : List Ent} {i : Nat} : longN (l.take i) ≤ longN l := by
 unfold longN
 conv => rhs; rw [← List.take_append_drop i l]
 rw [List.map_append, List.sum_append]
 omega
theorem name_check (s : ByteArray) (hs : s.size ≤ 1000000000000000) : FSpec Tryz.prog 130 [strV s] ⟨intV (if nameOk s then 0 else 6), []⟩ := by
 refine fspec_of_body follows Tryz.func130 (by unfold Tryz.f130; rfl) (by unfold Tryz.f130; simp) onceA (by unfold Tryz.f130; simp) (by kernel_rfl) ?_; unfold Tryz.f130
 simp only [↓pre, simprocAttr, parV, sx, tys130, onceA, postU]; repeat' ((first | refine guard_dec (fun _ => ?_) (fun _ => ?_) | refine cond_dec (fun _ => ?_) (fun _ => ?_) | refine guard_ndec (fun _ => ?_) (fun _ => ?_) | refine cond_ndec (fun _ => ?_) (fun _ => ?_) | refine guard_split (fun _ => ?_) (fun _ => ?_) | refine cond_split (fun _ => ?_) (fun _ => ?_)) <;> simp only [↓pre, simprocAttr, parV, sx, tys130, onceA, postU, *])
 all_goals (first | (rw [if_neg (by unfold nameOk; simp; omega)]; done) | (rw [if_pos (by unfold nameOk; simp; omega)]; done))
theorem name_less (a b : ByteArray) : FSpec Tryz.prog 267 [strV a, strV b] ⟨boolV (Op.bytesLess a.data.toList b.data.toList), []⟩ := by
 refine fspec_of_body follows Tryz.func267 (by unfold Tryz.f267; rfl) (by unfold Tryz.f267; simp) onceA (by unfold Tryz.f267; simp) (by kernel_rfl) ?_; unfold Tryz.f267
 simp only [↓pre, simprocAttr, parV, sx, tys267, onceA, postU, boolV]; repeat' ((first | refine guard_dec (fun _ => ?_) (fun _ => ?_) | refine cond_dec (fun _ => ?_) (fun _ => ?_) | refine guard_ndec (fun _ => ?_) (fun _ => ?_) | refine cond_ndec (fun _ => ?_) (fun _ => ?_) | refine guard_split (fun _ => ?_) (fun _ => ?_) | refine cond_split (fun _ => ?_) (fun _ => ?_)) <;> simp only [↓pre, simprocAttr, parV, sx, tys267, onceA, postU, boolV, *])
theorem dir_may (k r c w : Int) (s : ByteArray) (n : Int) (hs : s.size ≤ 1000000000000000) : FSpec Tryz.prog 266 [parV k r c w, .agg [strV s, intV n]] ⟨boolV (entOk w (s, n)), []⟩ := by
 refine fspec_of_body follows Tryz.func266 (by unfold Tryz.f266; rfl) (by unfold Tryz.f266; simp) onceA (by unfold Tryz.f266; simp) (by kernel_rfl) ?_; unfold Tryz.f266
 cases h : nameOk s with
 | false => simp only [↓pre, simprocAttr, parV, sx, tys266, onceA, postU, boolV, entOk, h, Bool.false_and, Bool.false_eq_true]; repeat' ((first | refine guard_dec (fun _ => ?_) (fun _ => ?_) | refine cond_dec (fun _ => ?_) (fun _ => ?_) | refine guard_ndec (fun _ => ?_) (fun _ => ?_) | refine cond_ndec (fun _ => ?_) (fun _ => ?_) | refine guard_split (fun _ => ?_) (fun _ => ?_) | refine cond_split (fun _ => ?_) (fun _ => ?_) | refine call_plain (name_check _ hs) (by first | rfl | simp only [parV, plQ, *]) ?_ | refine call_pure (name_check _ hs) (by first | rfl | simp only [parV, plQ, *]) (by intro k; first | rfl | simp only [sq, sr, *]) ?_) <;> simp only [↓pre, simprocAttr, parV, sx, tys266, onceA, postU, boolV, entOk, h, Bool.false_and, Bool.false_eq_true, *])
 | true =>
   simp only [↓pre, simprocAttr, parV, sx, tys266, onceA, postU, boolV, entOk, h, Bool.true_and]; repeat' ((first | refine guard_dec (fun _ => ?_) (fun _ => ?_) | refine cond_dec (fun _ => ?_) (fun _ => ?_) | refine guard_ndec (fun _ => ?_) (fun _ => ?_) | refine cond_ndec (fun _ => ?_) (fun _ => ?_) | refine guard_split (fun _ => ?_) (fun _ => ?_) | refine cond_split (fun _ => ?_) (fun _ => ?_) | refine call_plain (name_check _ hs) (by first | rfl | simp only [parV, plQ, *]) ?_ | refine call_pure (name_check _ hs) (by first | rfl | simp only [parV, plQ, *]) (by intro k; first | rfl | simp only [sq, sr, *]) ?_) <;> simp only [↓pre, simprocAttr, parV, sx, tys266, onceA, postU, boolV, entOk, h, Bool.true_and, *])
   all_goals refine bool_fin ?_
   all_goals simp
   all_goals omega
theorem dir_long (v : AV) (l : List Ent) (x : List AV) (hv : RdSl v l.length (entCells l ++ x)) (hl : longN l ≤ 1000000000000) (hn : l.length ≤ 1000000000000) : FSpec Tryz.prog 268 [v] ⟨intV (longN l), []⟩ := by
 refine fspec_of_body follows Tryz.func268 (by unfold Tryz.f268; rfl) (by unfold Tryz.f268; simp) onceA (by unfold Tryz.f268; simp) (by kernel_rfl) ?_; unfold Tryz.f268
 simp only [↓pre, simprocAttr, parV, sx, tys268, onceA, postU, hv.len', Option.isSome_some]
 rw [codeW_loop]
 refine loop_intro (fun n e m => ∃ i, n + i = l.length ∧ e 6 = v ∧ e 7 = intV (l.length : Nat) ∧ e 8 = intV (i : Nat) ∧ e 3 = intV (longN (l.take i) : Nat)) l.length ⟨0, by omega, ?_⟩ ?_
 · simp [Env.set, longN, entryE, intV]
 · rintro n e m ⟨i, hi, e6, e7, e8, e3⟩
   simp only [↓pre, simprocAttr, parV, sx, tys268, onceA, postU, e6, e7, e8, e3]
   refine cond_dec (fun hlt => ?_) (fun hlt => ?_)
   · obtain ⟨s, r, hsr⟩ : ∃ s r, l[i]? = some (s, r) := ⟨_, _, List.getElem?_eq_getElem (by omega)⟩
     obtain ⟨a1, a2, a3, a4⟩ := ent_at (x := x) hsr
     have hil : i < l.length := by omega
     have b1 := longN_take hsr
     have b2 := longN_le (l := l) (i := i + 1)
     have w1 := wrap_succ (n := i) (by omega)
     have w2 : IntKind.i64.wrap (3 + (s.size : Int)) = ((3 + s.size : Nat) : Int) := by rw [← wrap_nat (n := 3 + s.size) (by omega)]; rfl
     have w3 : IntKind.i64.wrap ((longN (l.take i) : Int) + ((3 + s.size : Nat) : Int)) = (longN (l.take (i + 1)) : Int) := by rw [b1, ← wrap_nat (n := longN (l.take i) + (3 + s.size)) (by omega)]; rfl
     simp only [↓pre, simprocAttr, parV, sx, tys268, onceA, postU, e6, e7, e8, e3, hv.addr', Option.isSome_some, a1, a2, a3, a4, hil, w1, w2, w3, allocE, storeE, Nat.lt_irrefl]
     exact ⟨n - 1, by omega, i + 1, by omega, rfl, rfl⟩
   · have : l.take i = l := List.take_of_length_le (by omega)
     simp only [↓pre, simprocAttr, parV, sx, tys268, onceA, postU, e6, e7, e8, e3, this]
def lessB (a b : ByteArray) : Bool := Op.bytesLess a.data.toList b.data.toList
def okAt (w : Int) (l : List Ent) (i : Nat) : Bool := match l[i]? with
 | some e => entOk w e && (match i with | 0 => true | j + 1 => match l[j]? with | some d => lessB d.1 e.1 | none => true)
 | none => true
def entsOk (w : Int) (l : List Ent) : Bool := (List.range l.length).all (okAt w l)
theorem entsOk_of {w : Int} {l : List Ent} : entsOk w l = true ↔ ∀ i, i < l.length → okAt w l i = true := by
 unfold entsOk
 rw [List.all_eq_true]
 exact ⟨fun h i hi => h i (List.mem_range.2 hi), fun h i hi => h i (List.mem_range.1 hi)⟩
def chk (k r c w : Int) (l : List Ent) : Int := if mayB k r c w = true then (if entsOk w l = true then (if mI k c < (longN l : Int) then 3 else 0) else 220) else 2
theorem size_le {l : List Ent} {i : Nat} {s : ByteArray} {r : Int} (h : l[i]? = some (s, r)) : s.size ≤ longN l := by
 have := longN_take h
 have := longN_le (l := l) (i := i + 1)
 omega
theorem name_less' (a b : ByteArray) : FSpec Tryz.prog 267 [strV a, strV b] ⟨boolV (lessB a b), []⟩ := name_less a b
theorem dir_Check (k r c w : Int) (v : AV) (l : List Ent) (x : List AV) (hv : RdSl v l.length (entCells l ++ x)) (hl : longN l ≤ 1000000000000) (hn : l.length ≤ 1000000000000) : FSpec Tryz.prog 212 [parV k r c w, v] ⟨intV (chk k r c w l), []⟩ := by
 refine fspec_of_body follows Tryz.func212 (by unfold Tryz.f212; rfl) (by unfold Tryz.f212; simp) onceA (by unfold Tryz.f212; simp) (by kernel_rfl) ?_; unfold Tryz.f212
 cases h : mayB k r c w with
 | false => simp only [↓pre, simprocAttr, parV, sx, tys212, onceA, postU, chk, h, Bool.false_eq_true]; repeat' ((first | refine guard_dec (fun _ => ?_) (fun _ => ?_) | refine cond_dec (fun _ => ?_) (fun _ => ?_) | refine guard_ndec (fun _ => ?_) (fun _ => ?_) | refine cond_ndec (fun _ => ?_) (fun _ => ?_) | refine guard_split (fun _ => ?_) (fun _ => ?_) | refine cond_split (fun _ => ?_) (fun _ => ?_) | refine call_plain (layout_Most _ _ _ _) (by first | rfl | simp only [parV, plQ, *]) ?_ | refine call_pure (layout_Most _ _ _ _) (by first | rfl | simp only [parV, plQ, *]) (by intro k; first | rfl | simp only [sq, sr, *]) ?_) <;> simp only [↓pre, simprocAttr, parV, sx, tys212, onceA, postU, chk, h, Bool.false_eq_true, *])
 | true =>
   have hp := hv.plain
   simp only [↓pre, simprocAttr, parV, sx, tys212, onceA, postU, h, hv.len']; repeat' ((first | refine guard_dec (fun _ => ?_) (fun _ => ?_) | refine cond_dec (fun _ => ?_) (fun _ => ?_) | refine guard_ndec (fun _ => ?_) (fun _ => ?_) | refine cond_ndec (fun _ => ?_) (fun _ => ?_) | refine guard_split (fun _ => ?_) (fun _ => ?_) | refine cond_split (fun _ => ?_) (fun _ => ?_) | refine call_plain (layout_Most _ _ _ _) (by first | rfl | simp only [parV, plQ, *]) ?_ | refine call_pure (layout_Most _ _ _ _) (by first | rfl | simp only [parV, plQ, *]) (by intro k; first | rfl | simp only [sq, sr, *]) ?_) <;> simp only [↓pre, simprocAttr, parV, sx, tys212, onceA, postU, h, hv.len', *])
   rw [codeW_loop]
   refine loop_intro (fun n e m => ∃ i, n + i = l.length ∧ e 17 = v ∧ e 1 = v ∧ e 18 = intV (l.length : Nat) ∧ e 19 = intV (i : Nat) ∧ e 2 = .tptr 0 [intV k, intV r, intV c, intV w] ∧ e 5 = intV (mI k c) ∧ ∀ j, j < i → okAt w l j = true) l.length ⟨0, by omega, ?_⟩ ?_
   · simp [Env.set, entryE, intV]
   · rintro n e m ⟨i, hi, e17, e1, e18, e19, e2, e5, hok⟩
     replace hok := Hid.mk hok
     simp only [↓pre, simprocAttr, parV, sx, tys212, onceA, postU, e17, e1, e18, e19, e2, e5]
     refine cond_dec (fun hlt => ?_) (fun hlt => ?_)
     · have hil : i < l.length := by omega
       obtain ⟨s, z, hsr⟩ : ∃ s z, l[i]? = some (s, z) := ⟨_, _, List.getElem?_eq_getElem hil⟩
       obtain ⟨a1, a2, a3, a4⟩ := ent_at (x := x) hsr
       have hsz := size_le hsr
       have w1 := wrap_succ (n := i) (by omega)
       have hbad : okAt w l i = false → chk k r c w l = 220 := fun hb => by
         have : ¬ entsOk w l = true := fun hc => by rw [entsOk_of.1 hc i hil] at hb; cases hb
         simp [chk, h, this]
       cases hq : entOk w (s, z) with
       | false =>
         have hc := hbad (by simp [okAt, hsr, hq])
         simp only [↓pre, simprocAttr, parV, sx, tys212, onceA, postU, e17, e1, e18, e19, e2, e5, hv.addr', a1, a2, a3, a4, hil, w1, allocE, storeE, boolV, hq, hc]; repeat' ((first | refine guard_dec (fun _ => ?_) (fun _ => ?_) | refine cond_dec (fun _ => ?_) (fun _ => ?_) | refine guard_ndec (fun _ => ?_) (fun _ => ?_) | refine cond_ndec (fun _ => ?_) (fun _ => ?_) | refine guard_split (fun _ => ?_) (fun _ => ?_) | refine cond_split (fun _ => ?_) (fun _ => ?_) | refine call_plain (dir_may _ _ _ _ _ _ (by omega)) (by first | rfl | simp only [parV, plQ, *]) ?_ | refine call_pure (dir_may _ _ _ _ _ _ (by omega)) (by first | rfl | simp only [parV, plQ, *]) (by intro k; first | rfl | simp only [sq, sr, *]) ?_) <;> simp only [↓pre, simprocAttr, parV, sx, tys212, onceA, postU, e17, e1, e18, e19, e2, e5, hv.addr', a1, a2, a3, a4, hil, w1, allocE, storeE, boolV, hq, hc, *])
       | true =>
         rcases Nat.eq_zero_or_pos i with h0 | hpos
         · have hk : okAt w l i = true := by subst h0; simp [okAt, hsr, hq]
           have hz : ¬ (0 : Int) < (i : Nat) := by omega
           replace h0 := Hid.mk h0
           simp only [↓pre, simprocAttr, parV, sx, tys212, onceA, postU, e17, e1, e18, e19, e2, e5, hv.addr', a1, a2, a3, a4, hil, w1, hz, allocE, storeE, boolV, hq]; repeat' ((first | refine guard_dec (fun _ => ?_) (fun _ => ?_) | refine cond_dec (fun _ => ?_) (fun _ => ?_) | refine guard_ndec (fun _ => ?_) (fun _ => ?_) | refine cond_ndec (fun _ => ?_) (fun _ => ?_) | refine guard_split (fun _ => ?_) (fun _ => ?_) | refine cond_split (fun _ => ?_) (fun _ => ?_) | refine call_plain (dir_may _ _ _ _ _ _ (by omega)) (by first | rfl | simp only [parV, plQ, *]) ?_ | refine call_pure (dir_may _ _ _ _ _ _ (by omega)) (by first | rfl | simp only [parV, plQ, *]) (by intro k; first | rfl | simp only [sq, sr, *]) ?_) <;> simp only [↓pre, simprocAttr, parV, sx, tys212, onceA, postU, e17, e1, e18, e19, e2, e5, hv.addr', a1, a2, a3, a4, hil, w1, hz, allocE, storeE, boolV, hq, *])
           exact ⟨n - 1, by omega, i + 1, by omega, rfl, fun j hj => by have := h0.out; rw [show j = i by omega]; exact hk⟩
         · obtain ⟨i', hi'⟩ : ∃ i', i = i' + 1 := ⟨i - 1, by omega⟩
           obtain ⟨s', z', hsr'⟩ : ∃ s z, l[i']? = some (s, z) := ⟨_, _, List.getElem?_eq_getElem (by omega)⟩
           obtain ⟨c1, c2, c3, c4⟩ := ent_at (x := x) hsr'
           have hil' : i' < l.length := by omega
           have w2 : IntKind.i64.wrap ((i : Int) - 1) = (i' : Nat) := by rw [show (i : Int) - 1 = (i' : Nat) by omega]; exact wrap_nat (by omega)
           have hp0 : (0 : Int) < (i : Nat) := by omega
           replace hi' := Hid.mk hi'
           cases hq2 : lessB s' s with
           | false =>
             have hc := hbad (by rw [hi'.out] at hsr ⊢; simp [okAt, hsr, hsr', hq2])
             simp only [↓pre, simprocAttr, parV, sx, tys212, onceA, postU, e17, e1, e18, e19, e2, e5, hv.addr', a1, a2, a3, a4, hil, w1, c1, c2, c3, c4, hil', w2, hp0, allocE, storeE, boolV, hq, hq2, hc]; repeat' ((first | refine guard_dec (fun _ => ?_) (fun _ => ?_) | refine cond_dec (fun _ => ?_) (fun _ => ?_) | refine guard_ndec (fun _ => ?_) (fun _ => ?_) | refine cond_ndec (fun _ => ?_) (fun _ => ?_) | refine guard_split (fun _ => ?_) (fun _ => ?_) | refine cond_split (fun _ => ?_) (fun _ => ?_) | refine call_plain (dir_may _ _ _ _ _ _ (by omega)) (by first | rfl | simp only [parV, plQ, *]) ?_ | refine call_plain (name_less' _ _) (by first | rfl | simp only [parV, plQ, *]) ?_ | refine call_pure (dir_may _ _ _ _ _ _ (by omega)) (by first | rfl | simp only [parV, plQ, *]) (by intro k; first | rfl | simp only [sq, sr, *]) ?_ | refine call_pure (name_less' _ _) (by first | rfl | simp only [parV, plQ, *]) (by intro k; first | rfl | simp only [sq, sr, *]) ?_) <;> simp only [↓pre, simprocAttr, parV, sx, tys212, onceA, postU, e17, e1, e18, e19, e2, e5, hv.addr', a1, a2, a3, a4, hil, w1, c1, c2, c3, c4, hil', w2, hp0, allocE, storeE, boolV, hq, hq2, hc, *])
           | true =>
             have hk : okAt w l i = true := by rw [hi'.out] at hsr ⊢; simp [okAt, hsr, hq, hsr', hq2]
             simp only [↓pre, simprocAttr, parV, sx, tys212, onceA, postU, e17, e1, e18, e19, e2, e5, hv.addr', a1, a2, a3, a4, hil, w1, c1, c2, c3, c4, hil', w2, hp0, allocE, storeE, boolV, hq, hq2]; repeat' ((first | refine guard_dec (fun _ => ?_) (fun _ => ?_) | refine cond_dec (fun _ => ?_) (fun _ => ?_) | refine guard_ndec (fun _ => ?_) (fun _ => ?_) | refine cond_ndec (fun _ => ?_) (fun _ => ?_) | refine guard_split (fun _ => ?_) (fun _ => ?_) | refine cond_split (fun _ => ?_) (fun _ => ?_) | refine call_plain (dir_may _ _ _ _ _ _ (by omega)) (by first | rfl | simp only [parV, plQ, *]) ?_ | refine call_plain (name_less' _ _) (by first | rfl | simp only [parV, plQ, *]) ?_ | refine call_pure (dir_may _ _ _ _ _ _ (by omega)) (by first | rfl | simp only [parV, plQ, *]) (by intro k; first | rfl | simp only [sq, sr, *]) ?_ | refine call_pure (name_less' _ _) (by first | rfl | simp only [parV, plQ, *]) (by intro k; first | rfl | simp only [sq, sr, *]) ?_) <;> simp only [↓pre, simprocAttr, parV, sx, tys212, onceA, postU, e17, e1, e18, e19, e2, e5, hv.addr', a1, a2, a3, a4, hil, w1, c1, c2, c3, c4, hil', w2, hp0, allocE, storeE, boolV, hq, hq2, *])
             refine ⟨n - 1, by omega, i + 1, by omega, rfl, fun j hj => ?_⟩
             by_cases hji : j = i
             · subst hji; exact hk
             · exact hok.out j (by omega)
     · have hall : entsOk w l = true := entsOk_of.2 fun j hj => hok.out j (by omega)
       simp only [↓pre, simprocAttr, parV, sx, tys212, onceA, postU, e17, e1, e18, e19, e2, e5, chk, h, hall]; repeat' ((first | refine guard_dec (fun _ => ?_) (fun _ => ?_) | refine cond_dec (fun _ => ?_) (fun _ => ?_) | refine guard_ndec (fun _ => ?_) (fun _ => ?_) | refine cond_ndec (fun _ => ?_) (fun _ => ?_) | refine guard_split (fun _ => ?_) (fun _ => ?_) | refine cond_split (fun _ => ?_) (fun _ => ?_) | refine call_plain (dir_long _ _ _ hv hl hn) (by first | rfl | simp only [parV, plQ, *]) ?_ | refine call_pure (dir_long _ _ _ hv hl hn) (by first | rfl | simp only [parV, plQ, *]) (by intro k; first | rfl | simp only [sq, sr, *]) ?_) <;> simp only [↓pre, simprocAttr, parV, sx, tys212, onceA, postU, e17, e1, e18, e19, e2, e5, chk, h, hall, *])
theorem chk_zero {k r c w : Int} {l : List Ent} (hc : chk k r c w l = 0) : mayB k r c w = true ∧ entsOk w l = true ∧ (longN l : Int) ≤ mI k c ∧ w ≤ 256 := by
 unfold chk at hc
 split at hc
 · rename_i h1
   split at hc
   · rename_i h2
     split at hc
     · omega
     · exact ⟨h1, h2, by omega, (mayB_of.1 h1).2.2.2.2.2.2.2.1⟩
   · omega
 · omega
def posL (l : List Ent) (s : ByteArray) : Nat := (l.takeWhile fun e => lessB e.1 s).length
def isL (l : List Ent) (s : ByteArray) : Bool := match l[posL l s]? with
 | some e => decide (e.1 = s)
 | none => false
theorem posL_eq : ∀ (l : List Ent) (s : ByteArray) (i : Nat), i ≤ l.length → (∀ j e, j < i → l[j]? = some e → lessB e.1 s = true) → (∀ e, l[i]? = some e → lessB e.1 s = false) → posL l s = i
 | [], s, i, h, _, _ => by simp at h; subst h; rfl
 | a :: l, s, 0, _, _, h => by
   have := h a rfl
   simp [posL, List.takeWhile, this]
 | a :: l, s, i + 1, hi, h1, h2 => by
   have ha := h1 0 a (by omega) rfl
   have := posL_eq l s i (by simpa using hi) (fun j e hj he => h1 (j + 1) e (by omega) (by simpa using he)) (fun e he => h2 e (by simpa using he))
   simp only [posL, List.takeWhile, ha] at this ⊢
   simp [this]
def namedE (k r c w : Int) (l : List Ent) (s : ByteArray) : Int := if chk k r c w l = 0 then (if nameOk s then 0 else 6) else chk k r c w l
def rowOf (l : List Ent) (s : ByteArray) : Int := match l[posL l s]? with
 | some e => e.2
 | none => 0
def findT (k r c w : Int) (l : List Ent) (s : ByteArray) : AV := if namedE k r c w l s = 0 then (if isL l s then .tup [intV (rowOf l s), boolV true, intV 0] else .tup [intV 0, boolV false, intV 0]) else .tup [intV 0, boolV false, intV (namedE k r c w l s)]
end Go.Proofs.YtaekhhlgnbhnpaaGreat