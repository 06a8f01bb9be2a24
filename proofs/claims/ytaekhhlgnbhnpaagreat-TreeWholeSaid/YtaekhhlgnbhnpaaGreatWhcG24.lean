import Derived.Test.YtaekhhlgnbhnpaaGreatWhcG23
import Derived.Test.YtaekhhlgnbhnpaaGreatWhcG08
import Derived.Test.YtaekhhlgnbhnpaaGreatWhcG15
import Derived.Shelf.GgSortFunc.RowK
import Derived.Test.YtaekhhlgnbhnpaaGreatWhcG22
import Derived.Test.YtaekhhlgnbhnpaaGreatWhcG21
set_option linter.unusedVariables false
set_option linter.unusedSimpArgs false
set_option maxRecDepth 10000
namespace Go.Proofs.YtaekhhlgnbhnpaaGreat
open Go Go.Tw Go.Proofs Go.Sort
theorem putCells_map (off : Nat) (d : Array Int) (c : Array Value) : putCells (Value.int .i64) off d c = putCells id off (d.map (Value.int .i64)) c := by
 unfold putCells
 apply Array.ext (by simp)
 intro i h1 h2
 simp only [Array.getElem_mapIdx, Array.size_map]
 split
 · rename_i h
   have h3 : i - off < d.size := by omega
   have h4 : i - off < (d.map (Value.int .i64)).size := by simpa using h3
   rw [getElem!_pos d (i - off) h3, getElem!_pos (d.map (Value.int .i64)) (i - off) h4, Array.getElem_map]
   rfl
 · rfl
theorem putRow_map (w : World) (g o : Nat) (d : Array Int) : putRow (Value.int .i64) w g o d = putRow id w g o (d.map (Value.int .i64)) := by
 unfold putRow
 rw [show putCells (Value.int .i64) o d = putCells id o (d.map (Value.int .i64)) from funext (putCells_map o d)]
theorem putRow_cells (w : World) (g o : Nat) (d0 d : Array Int) (hH : Holds (Value.int .i64) w g o d0) (hs : d.size = d0.size) : putRow (Value.int .i64) w g o d = w.setCells g o (d.map (Value.int .i64)).toList := by
 have hself : putRow id w g o (d0.map (Value.int .i64)) = w := by rw [← putRow_map]; exact putRow_self _ w g o d0 hH
 have hsc := setCells_putRow w g o (d.map (Value.int .i64)).toList 0 (d0.map (Value.int .i64)) (by simp [hs])
 rw [hself, Nat.add_zero] at hsc
 rw [hsc, putRow_map]
 congr 1
 refine Go.Sort.ext_get! (by simp [hs]) fun t ht => ?_
 have ht1 : t < d.size := by simpa using ht
 have ht2 : t < (d0.map (Value.int .i64)).size := by simp; omega
 rw [Go.Sort.get_setMany _ _ _ t ht2, if_pos ⟨Nat.zero_le _, by simpa using ht1⟩, Nat.sub_zero]
 simp [ht1]
section
variable {P : Program} {w : World} {I : Nat → Prop} {ρ : Real} {m : Mem}
theorem SR_heapI (hS : SR P w I ρ m) {w' : World} (h : w'.heap = w.heap) : SR P w' I ρ m := by
 have hk : Keeps w w' I I := ⟨fun _ h => h, fun g _ => by rw [h], fun g x hx => by unfold World.shape? at *; rw [h]; exact hx⟩
 exact ⟨fun b k g o h1 h2 => BR_keep hk (fun _ _ h => h) (hS.blk b k g o h1 h2) (by rw [h]) (fun hw => ((hS.blk b k g o h1 h2).wr hw).1), hS.inj, fun g hg => by rw [h]; exact hS.lt g hg, hS.mms.keep hk (fun _ _ h => h) (fun g _ => ⟨by rw [h], fun h => h⟩)⟩
theorem grow_oldI {w : World} {os : Array Obj} {g : Nat} (hg : g < w.heap.size) : (grow w os).heap[g]? = w.heap[g]? := by
 show (w.heap ++ os)[g]? = _
 rw [Array.getElem?_append_left hg]
theorem SR_growI (hS : SR P w I ρ m) (os : Array Obj) : SR P (grow w os) I ρ m ∧ Step w I ρ m (grow w os) I ρ m := by
 have hk : Keeps w (grow w os) I I := ⟨fun _ h => h, fun g hg => grow_oldI (hS.lt g hg), fun g x hx => by rw [shape_same (grow_oldI (shape_lt hx))]; exact hx⟩
 have hsz : w.heap.size ≤ (grow w os).heap.size := by show _ ≤ (w.heap ++ os).size; simp
 refine ⟨⟨fun b k g o h1 h2 => BR_keep hk (fun _ _ h => h) (hS.blk b k g o h1 h2) (grow_oldI (hS.ltb h1 h2)) (fun hw => ((hS.blk b k g o h1 h2).wr hw).1), hS.inj, fun g hg => Nat.lt_of_lt_of_le (hS.lt g hg) hsz, hS.mms.keep hk (fun _ _ h => h) (fun g hg => ⟨grow_oldI (hS.mms.lt hg), fun h => h⟩)⟩, ⟨rfl, rfl, rfl, hsz, fun g hg _ => grow_oldI hg, hk.shape, fun _ h => h, fun _ h => .inl h, fun _ _ h => h, fun b h1 h2 => absurd h1 h2, fun _ h => .inl h, Nat.le_refl _⟩⟩
def intK (L : List Int) : Blk := ⟨intsA L, 3, .flat, true⟩
theorem intsA_at (L : List Int) (i : Nat) (n : Int) (h : L[i]? = some n) : (intsA L)[i]? = some (intV n) := by
 unfold intsA
 rw [List.getElem?_map, h]
 rfl
theorem ints_hold {b g o : Nat} {L : List Int} (hS : SR Tryz.prog w I ρ m) (hb : m.at_ b = some (intK L)) (hbg : ρ b = some (g, o)) : Holds (Value.int .i64) w g o L.toArray := by
 have hB := hS.blk b _ g o hb hbg
 obtain ⟨arr, fr, hh, hcells⟩ := hB.cells
 intro j hj
 have hj2 : j < L.length := by simpa using hj
 refine ⟨?_, hB.nostr rfl (by kernel_rfl) _⟩
 obtain ⟨u, q1, q2⟩ := VRs_at hcells (intsA_at L j L[j] (List.getElem?_eq_getElem hj2))
 simp only [intV, VR] at q2
 subst q2
 have e : L.toArray[j]! = L[j] := by rw [getElem!_pos L.toArray j hj]; simp
 rw [e, cell_of_row _ _ _ _ _ _ hh]
 exact q1
theorem ints_written {b g o : Nat} {L Z : List Int} (hS : SR Tryz.prog w I ρ m) (hb : m.at_ b = some (intK L)) (hbg : ρ b = some (g, o)) (hl : Z.length = L.length) (nd : Nat) :
   SR Tryz.prog (putRow (Value.int .i64) (Go.Sort.ahead w nd) g o Z.toArray) I ρ (m.put b (some (intK Z))) ∧ Step w I ρ m (putRow (Value.int .i64) (Go.Sort.ahead w nd) g o Z.toArray) I ρ (m.put b (some (intK Z))) := by
 have hH := ints_hold hS hb hbg
 have hB := hS.blk b _ g o hb hbg
 obtain ⟨arr, fr, hh, hcells⟩ := hB.cells
 rw [putRow_cells (Go.Sort.ahead w nd) g o L.toArray Z.toArray hH (by simp [hl])]
 have S1 : SR Tryz.prog (Go.Sort.ahead w nd) I ρ m := SR_heapI hS rfl
 have T1 : Step w I ρ m (Go.Sort.ahead w nd) I ρ m := ⟨rfl, rfl, rfl, Nat.le_refl _, fun _ _ _ => rfl, fun _ _ h => h, fun _ h => h, fun _ h => .inl h, fun _ _ h => h, fun b h1 h2 => absurd h1 h2, fun _ h => .inl h, Nat.le_refl _⟩
 have e : (Z.toArray.map (Value.int .i64)).toList = Z.map (Value.int .i64) := by simp
 rw [e]
 obtain ⟨S2, T2⟩ := SR_write (k' := intK Z) S1 hb rfl hbg (vs := Z.map (Value.int .i64)) (p := o) ⟨rfl, rfl, fun c hc => by
     obtain ⟨x, hx, rfl⟩ := List.mem_map.1 hc
     rfl⟩ (fun v hv => by
     obtain ⟨x, hx, rfl⟩ := List.mem_map.1 hv
     rfl) (fun arr0 fr0 e0 e1 arr' e2 e3 => by
     have e0' : w.heap[g]? = some (.cells arr0 3 fr0) := e0
     rw [hh] at e0'
     cases e0'
     simp only [intK, if_true] at hcells ⊢
     refine VRs_iff.2 fun j c hj => ?_
     unfold intsA at hj
     rw [List.getElem?_map, Option.map_eq_some_iff] at hj
     obtain ⟨x, hx, rfl⟩ := hj
     have hjl := (List.getElem?_eq_some_iff.1 hx).1
     obtain ⟨u, q1, _⟩ := VRs_at hcells (intsA_at L j L[j] (List.getElem?_eq_getElem (by omega)))
     have hja := (Array.getElem?_eq_some_iff.1 q1).1
     refine ⟨.int .i64 x, ?_, by simp only [intV, VR]⟩
     rw [e3, if_pos ⟨by omega, by simp; omega, by omega⟩, show o + j - o = j by omega, List.getElem?_map, hx]
     rfl)
 exact ⟨S2, T1.trans T2⟩
end
theorem compact_len (L : List Int) : (Lib.compact L).length ≤ L.length := by
 unfold Lib.compact Lib.compactUpTo
 rw [List.length_map]
 exact Nat.le_trans (List.length_filter_le _ _) (by simp)
theorem getA (L : List Int) (i : Nat) (h : i < L.length) : L.toArray[i]! = L[i] := by rw [getElem!_pos L.toArray i (by simpa using h)]; simp
theorem mem_compact (L : List Int) (x : Int) : x ∈ Lib.compact L ↔ x ∈ L := by
 unfold Lib.compact Lib.compactUpTo
 constructor
 · intro h
   obtain ⟨j, hj, rfl⟩ := List.mem_map.1 h
   have hl := List.mem_range.1 (List.mem_filter.1 hj).1
   rw [getA L j hl]
   exact List.getElem_mem hl
 · intro h
   obtain ⟨j, hj, rfl⟩ := List.mem_iff_getElem.1 h
   have main : ∀ (j : Nat) (hj : j < L.length), ∃ k, k ≤ j ∧ Lib.keeps L.toArray k = true ∧ L.toArray[k]! = L.toArray[j]! := by
     intro j
     induction j with
     | zero => exact fun _ => ⟨0, Nat.le_refl _, by simp [Lib.keeps], rfl⟩
     | succ j ih =>
       intro hj
       by_cases he : L.toArray[j + 1]! = L.toArray[j]!
       · obtain ⟨k, h1, h2, h3⟩ := ih (by omega)
         exact ⟨k, by omega, h2, by rw [h3, he]⟩
       · exact ⟨j + 1, Nat.le_refl _, Lib.keeps_pos (by simpa using he), rfl⟩
   obtain ⟨k, h1, h2, h3⟩ := main j hj
   exact List.mem_map.2 ⟨k, List.mem_filter.2 ⟨List.mem_range.2 (by omega), h2⟩, by rw [h3, getA L j hj]⟩
theorem compact_lt (L : List Int) (hs : L.Pairwise (· ≤ ·)) : (Lib.compact L).Pairwise (· < ·) := by
 unfold Lib.compact Lib.compactUpTo
 rw [List.pairwise_map]
 have h0 : ((List.range L.length).filter (Lib.keeps L.toArray)).Pairwise (· < ·) := List.Pairwise.filter _ List.pairwise_lt_range
 refine (List.pairwise_iff_forall_sublist.2 fun {i j} hsub => ?_)
 have hij : i < j := List.pairwise_iff_forall_sublist.1 h0 hsub
 have hi := hsub.subset (List.mem_cons_self)
 have hj := hsub.subset (List.mem_cons_of_mem _ (List.mem_cons_self))
 have hjl := List.mem_range.1 (List.mem_filter.1 hj).1
 have hk := (List.mem_filter.1 hj).2
 have hne : L.toArray[j]! ≠ L.toArray[j - 1]! := by
   unfold Lib.keeps at hk
   rcases of_decide_eq_true hk with h | h
   · omega
   · exact h
 have hp := List.pairwise_iff_getElem.1 hs
 rw [getA L j hjl, getA L (j - 1) (by omega)] at hne
 rw [getA L i (by omega), getA L j hjl]
 have h1 := hp (j - 1) j (by omega) hjl (by omega)
 rcases Nat.lt_or_ge i (j - 1) with h | h
 · have h2 := hp i (j - 1) (by omega) (by omega) h
   omega
 · obtain rfl : i = j - 1 := by omega
   omega
def srtI (L : List Int) : List Int := L.mergeSort fun x y => decide (x ≤ y)
theorem srtI_mem (L : List Int) (x : Int) : x ∈ srtI L ↔ x ∈ L := (List.mergeSort_perm L _).mem_iff
theorem srtI_le (L : List Int) : (srtI L).Pairwise (· ≤ ·) := (List.pairwise_mergeSort (le := fun x y : Int => decide (x ≤ y)) (fun a b c h1 h2 => by simp at *; omega) (fun a b => by simp; omega) L).imp fun h => by simpa using h
theorem srtI_len (L : List Int) : (srtI L).length = L.length := List.length_mergeSort L
theorem sort_ints (m : Mem) (b c : Nat) (f : Bool) (L : List Int) (hb : m.at_ b = some (intK L)) (hlen : L.length ≤ 1000000000) :
   OSpec Tryz.prog 135 [.sl b 0 L.length c f] m (fun v m' => v = undefA ∧ m' = m.put b (some (intK (srtI L)))) := by
 refine ⟨by kernel_rfl, fun w I ρ vs hS hsz hv hfree => ?_⟩
 have hsz1 : vs.size = 1 := hsz
 obtain ⟨v0, hv0, h0⟩ := VRs_at hv (j := 0) rfl
 simp only [VR] at h0
 obtain ⟨g, o, cap, ty, n, s, hbg, rfl, ⟨hc1, hc2⟩, _, hsh, hsz3, hfit⟩ := h0
 have hvs : vs = #[.slice (some ⟨g, o + 0, none⟩) L.length cap] := by
   apply Array.ext (by simpa using hsz1)
   intro i h1 h2
   have : i = 0 := by simp at h2; omega
   subst this
   simp only [Array.getElem?_eq_getElem h1, Option.some.injEq] at hv0
   simpa using hv0
 obtain ⟨arr, fr, hh, _⟩ := (hS.blk b _ g o hb hbg).cells
 have hcon := Go.Proofs.Any.slices_Sort_int sortInts g o cap L w (ints_hold hS hb hbg) (heap_lt hh) (by omega)
 change Calls Tryz.prog 135 _ _ _ at hcon
 rw [hvs, Nat.add_zero]
 refine hcon.mono ?_
 rintro en w' ⟨rfl, nd, os, rfl⟩
 obtain ⟨S2, T2⟩ := ints_written hS hb hbg (Z := srtI L) (srtI_len L) nd
 obtain ⟨S3, T3⟩ := SR_growI S2 os
 exact ⟨.tuple #[], undefA, _, I, ρ, rfl, ⟨rfl, rfl⟩, by simp only [undefA, VR], S3, T2.trans T3, hfree⟩
theorem compact_ints (m : Mem) (b c : Nat) (f : Bool) (L : List Int) (hb : m.at_ b = some (intK L)) (hlen : L.length ≤ 1000000000) :
   OSpec Tryz.prog 136 [.sl b 0 L.length c f] m (fun v m' => v = .sl b 0 (Lib.compact L).length c f ∧ m' = m.put b (some (intK (Lib.compact L ++ List.replicate (L.length - (Lib.compact L).length) 0)))) := by
 refine ⟨by kernel_rfl, fun w I ρ vs hS hsz hv hfree => ?_⟩
 have hsz1 : vs.size = 1 := hsz
 obtain ⟨v0, hv0, h0⟩ := VRs_at hv (j := 0) rfl
 have h00 := h0
 simp only [VR] at h0
 obtain ⟨g, o, cap, ty, n, s, hbg, rfl, ⟨hc1, hc2⟩, hfu, hsh, hsz3, hfit⟩ := h0
 have hvs : vs = #[.slice (some ⟨g, o + 0, none⟩) L.length cap] := by
   apply Array.ext (by simpa using hsz1)
   intro i h1 h2
   have : i = 0 := by simp at h2; omega
   subst this
   simp only [Array.getElem?_eq_getElem h1, Option.some.injEq] at hv0
   simpa using hv0
 have hcl : (Lib.compact L).length ≤ L.length := compact_len L
 have hcon := Go.Proofs.Any.slices_Compact_int compactInts g o cap L w (ints_hold hS hb hbg) (by omega) (by omega)
 change Calls Tryz.prog 136 _ _ _ at hcon
 rw [hvs, Nat.add_zero]
 refine hcon.mono ?_
 rintro en w' ⟨rfl, nd, rfl⟩
 obtain ⟨S2, T2⟩ := ints_written hS hb hbg (Z := Lib.compact L ++ List.replicate (L.length - (Lib.compact L).length) 0) (by rw [List.length_append, List.length_replicate]; omega) nd
 refine ⟨_, _, _, I, ρ, rfl, ⟨rfl, rfl⟩, ?_, S2, T2, hfree⟩
 simp only [VR]
 refine ⟨g, o, cap, ty, n, s, hbg, by rw [Nat.add_zero], ⟨by omega, hc2⟩, hfu, ?_, hsz3, hfit⟩
 exact (T2.keeps hS).shape _ _ hsh
end Go.Proofs.YtaekhhlgnbhnpaaGreat
namespace Go.Proofs.YtaekhhlgnbhnpaaGreat
open Go Go.Tw Go.Proofs Go.Gf
theorem take3 {cells : List AV} {i : Nat} {a b c : AV} (h : cells[i]? = some a) (h' : cells[i + 1]? = some b) (h2 : cells[i + 2]? = some c) : (cells.drop i).take 3 = [a, b, c] ∧ i + 3 ≤ cells.length := by
 obtain ⟨h1, e1⟩ := List.getElem?_eq_some_iff.1 h
 obtain ⟨h3, e3⟩ := List.getElem?_eq_some_iff.1 h'
 obtain ⟨h4, e4⟩ := List.getElem?_eq_some_iff.1 h2
 refine ⟨?_, by omega⟩
 rw [List.drop_eq_getElem_cons h1, List.drop_eq_getElem_cons h3, List.drop_eq_getElem_cons h4, e1, e3, e4]
 rfl
theorem strL_len (k r c w : Int) (L : List (List UInt8)) (row : Int) : (strL k r c w L row).length = 1 + ((objL k r c w L row).length + (objS k r c w L row).length) := by
 unfold strL
 rw [List.length_cons, datL_len, List.length_append]
 omega
def rowsI (l : List LiveI) : List Int := Lib.compact (srtI (l.map (·.1)))
def rowsT (l : List LiveI) : AV := .tree (rowsI l).length l.length (intsA (rowsI l ++ List.replicate (l.length - (rowsI l).length) 0)) false
theorem rowsI_len (l : List LiveI) : (rowsI l).length ≤ l.length := by
 have := compact_len (srtI (l.map (·.1)))
 rw [srtI_len, List.length_map] at this
 exact this
theorem rowsT_rd (l : List LiveI) : RdSl (rowsT l) (rowsI l).length (intsA (rowsI l) ++ intsA (List.replicate (l.length - (rowsI l).length) 0)) := by
 refine ⟨.inr (.inr ⟨l.length, false, ?_, rowsI_len l⟩)⟩
 unfold rowsT intsA
 rw [List.map_append]
theorem rowsI_mem (l : List LiveI) (n : Int) : n ∈ rowsI l ↔ ∃ x ∈ l, x.1 = n := by
 unfold rowsI
 rw [mem_compact, srtI_mem, List.mem_map]
theorem rowsI_lt (l : List LiveI) : (rowsI l).Pairwise (· < ·) := compact_lt _ (srtI_le _)
theorem tree_Rows_ok (k r c w row : Int) (v : AV) (L : List (List UInt8)) (cells : List AV) (hv : RowsV v L cells) (hE : objE k r c w L row = 0) : FSpec Tryz.prog 61 [imV k r c w v, intV row] ⟨.tup [rowsT (strL k r c w L row), intV 0], []⟩ := by
 refine fspec_fzT ?_
 have hp := hv.rd.plain
 have hf := rd_fz hv.rd
 have ho := rd_one hv.rd
 have hst := tree_Stripes k r c w row v L cells hv
 unfold strV17 at hst
 unfold imV at hst ⊢
 rw [if_pos hE] at hst
 have hlen : (strL k r c w L row).length ≤ 100000 := by
   have h1 := objL_len hE
   obtain ⟨_, _, _, _, hSl, _, _⟩ := obj_refs hE
   rw [strL_len]
   omega
 have hpos : 0 < (strL k r c w L row).length := by rw [strL_len]; omega
 generalize strL k r c w L row = sl at *
 have hTr := liveT_rd sl
 generalize liveT sl = TV at *
 have hats := fun (i : Nat) (x : LiveI) (hi : sl[i]? = some x) => liveA_at sl i x hi
 have hbl : ∀ m (a : Int), buildTreeE Tryz.prog m 41 1 [(0, .val (.int .i64 a))] = some ⟨.tree 1 1 [.val (.int .i64 a)] true, m, none⟩ := fun m a => buildT_of (el := 3) (sz := 1) (z := [.val (.int .i64 0)]) (by kernel_rfl) (by kernel_rfl) (by kernel_rfl) rfl rfl (by decide)
 have hsr : ∀ m (a : Int), srcE Tryz.prog 3 1 m (.tree 1 1 [.val (.int .i64 a)] true) = some ([.val (.int .i64 a)], 1) := fun m a => src_tree (by simp)
 have s2 := rd_shift hTr
 simp only [intV] at hst
 replace hE := Hid.mk hE
 replace hTr := Hid.mk hTr
 replace hsr := Hid.mk hsr
 replace hats := Hid.mk hats
 refine ospec_of_body follows Tryz.func61 (by unfold Tryz.f61; rfl) (by unfold Tryz.f61; simp) onceA (by unfold Tryz.f61; simp) (by kernel_rfl) ?_; unfold Tryz.f61
 simp only [↓pre, simprocAttr, parV, sx, tys61, onceA, postU, hf, ho, s2, storeE, allocE, put_at, push_at, sr]
 (first | refine call_plain (hst) (by first | rfl | simp only [parV, plQ, *]) ?_ | refine call_pure (hst) (by first | rfl | simp only [parV, plQ, *]) (by intro k; first | rfl | simp only [sq, sr, *]) ?_); simp only [↓pre, simprocAttr, parV, sx, tys61, onceA, postU, hf, ho, s2, storeE, allocE, put_at, push_at, hTr.out.len', sr]
 rw [codeW_loop]
 refine loop_intro (fun q e m => ∃ i, q + i = sl.length ∧ e 20 = TV ∧ e 21 = intV (sl.length : Nat) ∧ e 22 = intV (i : Nat) ∧ Hid (Own m 3 1 (e 8) i (intsA ((sl.take i).map (·.1))))) sl.length ⟨0, by omega, rfl, rfl, rfl, ⟨own_nil⟩⟩ ?_
 rintro q e m ⟨i, hq, e20, e21, e22, hJ⟩
 replace hq := Hid.mk hq
 generalize hv8 : e 8 = v8 at *
 by_cases hlt : i < sl.length
 · have hlt' : ((i : Nat) : Int) < ((sl.length : Nat) : Int) := by omega
   have wi := wrap_succ (n := i) (by omega)
   obtain ⟨x, hx⟩ : ∃ x, sl[i]? = some x := ⟨_, List.getElem?_eq_getElem hlt⟩
   obtain ⟨ha, hb, hc3⟩ := hats.out i x hx
   obtain ⟨ht, htl⟩ := take3 ha hb hc3
   have hcell : intsA ((sl.take (i + 1)).map (·.1)) = intsA ((sl.take i).map (·.1)) ++ [.val (.int .i64 x.1)] := by
     rw [List.take_add_one, hx]
     simp [intsA, intV]
   replace hx := Hid.mk hx
   replace hcell := Hid.mk hcell
   simp only [↓pre, simprocAttr, parV, sx, tys61, onceA, postU, hf, ho, s2, storeE, allocE, put_at, push_at, hv8, e20, e21, e22, hlt', hTr.out.addr', hlt, ht, htl, hbl, sr]
   have hstep : ∀ (m2 : Mem) (K : Out → Prop), m.next ≤ m2.next → (∀ j kk, m.at_ j = some kk → j < m.next → m2.at_ j = some kk) → (∀ lv' m', Own m' 3 1 lv' (i + 1) (intsA ((sl.take (i + 1)).map (·.1))) → K ⟨lv', m', none⟩) → outW (appE Tryz.prog 3 m2 v8 (.tree 1 1 [.val (.int .i64 x.1)] true)) K := by
     intro m2 K hn hk hK
     have hown := hJ.out
     have ho2 : Own m2 3 1 v8 i (intsA ((sl.take i).map (·.1))) := hown.keep hn fun j kk hj hk2 => by
       rcases hown.form with ⟨h, _⟩ | ⟨b, h, _, hb2, _⟩
       · rw [h] at hj; simp [blkOf, nilS] at hj
       · rw [h] at hj
         simp only [blkOf, Option.some.injEq] at hj
         exact hk j kk hk2 (by omega)
     refine app_rule (kd := .flat) (sz := 1) (y := 8) (zl := [.int .i64 0]) (by kernel_rfl) ho2 (by kernel_rfl) (by kernel_rfl) (by kernel_rfl) rfl (hsr.out m2 _) rfl (by omega) (by omega) ?_
     intro lv' m' ho' hn'
     rw [← hcell.out] at ho'
     exact hK _ _ ho'
   refine hstep _ _ (by simp only [put_next, push_next]; omega) (fun j kk hj hjl => by rw [put_at, if_neg (by omega), push_at, if_neg (by omega)]; exact hj) ?_
   intro lv' m' ho'
   replace ho' := Hid.mk ho'
   clear hstep
   simp only [↓pre, simprocAttr, parV, sx, tys61, onceA, postU, hf, ho, s2, storeE, allocE, put_at, push_at, hv8, e20, e21, e22, wi, sr]
   exact ⟨q - 1, by have := hq.out; omega, i + 1, by have := hq.out; omega, rfl, ho'⟩
 · have hlt' : ¬ ((i : Nat) : Int) < ((sl.length : Nat) : Int) := by omega
   have hi : i = sl.length := by have := hq.out; omega
   have hown := hJ.out
   rw [hi, List.take_length] at hown
   obtain ⟨b, rfl, hbm, hbl2, _⟩ : ∃ b, v8 = .sl b 0 sl.length sl.length false ∧ m.at_ b = some (intK (sl.map (·.1))) ∧ b < m.next ∧ 0 < sl.length := by
     rcases hown.form with ⟨_, h, _⟩ | h
     · omega
     · exact h
   have hso := sort_ints m b sl.length false (sl.map (·.1)) hbm (by rw [List.length_map]; omega)
   rw [List.length_map] at hso
   have hso2 := compact_ints (m.put b (some (intK (srtI (sl.map (·.1)))))) b sl.length false (srtI (sl.map (·.1))) (by rw [put_at, if_pos rfl]) (by rw [srtI_len, List.length_map]; omega)
   rw [srtI_len, List.length_map] at hso2
   replace hown := Hid.mk hown
   simp only [↓pre, simprocAttr, parV, sx, tys61, onceA, postU, hf, ho, s2, storeE, allocE, put_at, push_at, hv8, e20, e21, e22, hlt', sr]
   refine .inr (.inr (.inl ⟨_, _, hso, ?_⟩))
   simp only [↓pre, simprocAttr, parV, sx, tys61, onceA, postU, hf, ho, s2, storeE, allocE, put_at, push_at, hv8, sr]
   refine .inr (.inr (.inl ⟨_, _, hso2, ?_⟩))
   simp only [↓pre, simprocAttr, parV, sx, tys61, onceA, postU, hf, ho, s2, storeE, allocE, put_at, push_at, hv8, sr]
   exact ⟨0, by rw [fzT_tup, fzTs_cons, fzT_flat (by rw [put_at, if_pos rfl]; rfl), Option.bind_some, fzTs_cons, fzT_val, fzTs_nil]; rfl⟩
theorem up_mul {a b : Int} (ha : 0 ≤ a) (hb : 1 ≤ b) : a ≤ upI a b * b := by
 unfold upI
 have h1 := Int.emod_nonneg (a + b - 1) (show b ≠ 0 by omega)
 have h2 := Int.emod_lt_of_pos (a + b - 1) (show 0 < b by omega)
 have h3 := Int.mul_ediv_add_emod (a + b - 1) b
 rw [Int.mul_comm] at h3
 omega
theorem leaves_len {k r c w : Int} {L : List (List UInt8)} (hk : 1 ≤ lI k c) : ∀ (l : List RefI) (n : Int), leavesE k r c w L l n = 0 → 0 ≤ n → n ≤ (l.length : Int) * lI k c → ((leavesR k r c w L l n).length : Int) = n
 | [], n, _, h0, hn => by
   have : n = 0 := by simp at hn; omega
   subst this
   rfl
 | y :: l, n, h, h0, hn => by
   unfold leavesE at h
   split at h
   · rename_i h1
     obtain ⟨hn1, hn2⟩ := leaf_ok h1
     have hm : n - min n (lI k c) ≤ (l.length : Int) * lI k c := by
       rw [List.length_cons, Int.natCast_add, Int.add_mul] at hn
       have : (0 : Int) ≤ (l.length : Int) * lI k c := Int.mul_nonneg (by omega) (by omega)
       omega
     have ih := leaves_len hk l _ h (by omega) hm
     unfold leavesR
     rw [List.length_append, leafR_len, Int.natCast_add, ih]
     omega
   · contradiction
theorem obj_many {k r c w : Int} {L : List (List UInt8)} {row : Int} (h : objE k r c w L row = 0) : oE k r c w (pLen (objD k r c w L row)) = 0 ∧ ((objL k r c w L row).length : Int) = oF k r c w (pLen (objD k r c w L row)) ∧ ((objS k r c w L row).length : Int) = oS k r c w (pLen (objD k r c w L row)) := by
 obtain ⟨_, hR, hC, _, _, hl0, hl1⟩ := obj_refs h
 have hD := com_desc hC
 change chkD k r c w (pLen (objD k r c w L row)) (pDep (objD k r c w L row)) (pRefs (objD k r c w L row)) = 0 at hD
 obtain ⟨hm, hok⟩ := desc_fit hD
 unfold descOk at hok
 simp only [Bool.and_eq_true, decide_eq_true_eq] at hok
 obtain ⟨h1, h2, h3, _⟩ := hok
 have hw := may_w hm
 have hlb := l_bounds hw.1 hw.2
 have hl : 1 ≤ lI k c := by unfold lI; omega
 have hF0 := oF_nn (n := pLen (objD k r c w L row)) hm
 refine ⟨h1, ?_⟩
 unfold objE at h
 rw [if_pos hR, if_pos hC] at h
 unfold objL objS
 by_cases hd : pDep (objD k r c w L row) = 0
 · rw [if_pos hd, if_pos hd]
   rw [hd] at h2 h3
   rw [if_neg (by decide)] at h3
   exact ⟨by simp; omega, h3⟩
 · rw [if_neg hd] at h
   rw [if_neg hd, if_neg hd]
   have hd1 : pDep (objD k r c w L row) = 1 := by omega
   rw [hd1, if_pos rfl] at h3
   have hfs : oF k r c w (pLen (objD k r c w L row)) ≠ 0 := by omega
   have hs : oS k r c w (pLen (objD k r c w L row)) = sI k c (pLen (objD k r c w L row)) := by unfold oS; rw [if_pos h1]
   have hf : oF k r c w (pLen (objD k r c w L row)) = upI (sI k c (pLen (objD k r c w L row))) (lI k c) := by
     unfold oF at hfs ⊢
     rw [if_pos h1] at hfs ⊢
     unfold fI at hfs ⊢
     split
     · rename_i h5
       rw [if_pos h5] at hfs
       exact absurd rfl hfs
     · rfl
   have hs0 : 0 ≤ sI k c (pLen (objD k r c w L row)) := by
     unfold sI wI
     exact (up_bounds hl0 hl1 (by omega) (by omega)).1
   refine ⟨h3, leaves_len hl _ _ h (by rw [hs]; exact hs0) ?_⟩
   rw [h3, hf, hs]
   exact up_mul hs0 hl
theorem layout_rows (k r c w n : Int) (h : oE k r c w n = 0) (hb : 0 ≤ oS k r c w n ∧ oS k r c w n ≤ 100000 ∧ 0 ≤ oF k r c w n ∧ oF k r c w n ≤ 100000) : FSpec Tryz.prog 69 [parV k r c w, intV n] ⟨.tup [intV (oS k r c w n + oF k r c w n + 1), intV 0], []⟩ := by
 have h1 := layout_object k r c w n
 rw [h] at h1
 have w1 : IntKind.i64.wrap (oS k r c w n + oF k r c w n) = oS k r c w n + oF k r c w n := wrap_id (by omega) (by omega)
 have w2 : IntKind.i64.wrap (oS k r c w n + oF k r c w n + 1) = oS k r c w n + oF k r c w n + 1 := wrap_id (by omega) (by omega)
 simp only [intV] at h1
 refine fspec_of_body follows Tryz.func69 (by unfold Tryz.f69; rfl) (by unfold Tryz.f69; simp) onceA (by unfold Tryz.f69; simp) (by kernel_rfl) ?_; unfold Tryz.f69
 simp only [↓pre, simprocAttr, parV, sx, tys69, onceA, postU, sr]
 (first | refine call_plain (h1) (by first | rfl | simp only [parV, plQ, *]) ?_ | refine call_pure (h1) (by first | rfl | simp only [parV, plQ, *]) (by intro k; first | rfl | simp only [sq, sr, *]) ?_); simp only [↓pre, simprocAttr, parV, sx, tys69, onceA, postU, w1, w2, sr]
theorem law17_among (l : List LiveI) (n : Int) (hl : l.length ≤ 100000) : FSpec Tryz.prog 70 [liveT l, intV n] ⟨boolV (decide (∃ x ∈ l, x.1 = n)), []⟩ := by
 have hTr := liveT_rd l
 generalize liveT l = TV at *
 have hp := hTr.plain
 have hats := fun (i : Nat) (x : LiveI) (hi : l[i]? = some x) => liveA_at l i x hi
 replace hats := Hid.mk hats
 refine fspec_of_body follows Tryz.func70 (by unfold Tryz.f70; rfl) (by unfold Tryz.f70; simp) onceA (by unfold Tryz.f70; simp) (by kernel_rfl) ?_; unfold Tryz.f70
 simp only [↓pre, simprocAttr, parV, sx, tys70, onceA, postU, hTr.len', sr]
 rw [codeW_loop]
 refine loop_intro (fun q e m => ∃ i, q + i = l.length ∧ e 0 = TV ∧ e 1 = intV n ∧ e 5 = intV (i : Nat) ∧ Hid (∀ j x, j < i → l[j]? = some x → x.1 ≠ n)) l.length ⟨0, by omega, rfl, rfl, rfl, ⟨fun j x hj => by omega⟩⟩ ?_
 rintro q e m ⟨i, hq, e0, e1, e5, hJ⟩
 replace hq := Hid.mk hq
 by_cases hlt : i < l.length
 · have hlt' : ((i : Nat) : Int) < ((l.length : Nat) : Int) := by omega
   have wi := wrap_succ (n := i) (by omega)
   obtain ⟨x, hx⟩ : ∃ x, l[i]? = some x := ⟨_, List.getElem?_eq_getElem hlt⟩
   obtain ⟨ha, hb, hc3⟩ := hats.out i x hx
   by_cases hn : x.1 = n
   · have hd : decide (∃ x ∈ l, x.1 = n) = true := decide_eq_true ⟨x, List.mem_of_getElem? hx, hn⟩
     rw [hd]
     replace hx := Hid.mk hx
     replace hd := Hid.mk hd
     simp only [↓pre, simprocAttr, parV, sx, tys70, onceA, postU, hTr.len', e0, e1, e5, hlt', hTr.addr', hlt, ha, hn, sr]
   · have hnext : ∀ j y, j < i + 1 → l[j]? = some y → y.1 ≠ n := fun j y hj hy => by
       by_cases e : j = i
       · subst e
         rw [hx] at hy
         cases hy
         exact hn
       · exact hJ.out j y (by omega) hy
     replace hx := Hid.mk hx
     replace hnext := Hid.mk hnext
     simp only [↓pre, simprocAttr, parV, sx, tys70, onceA, postU, hTr.len', e0, e1, e5, hlt', hTr.addr', hlt, ha, hn, wi, sr]
     exact ⟨q - 1, by have := hq.out; omega, i + 1, by have := hq.out; omega, rfl, hnext⟩
 · have hlt' : ¬ ((i : Nat) : Int) < ((l.length : Nat) : Int) := by omega
   have hd : decide (∃ x ∈ l, x.1 = n) = false := decide_eq_false fun ⟨x, hx, he⟩ => by
     obtain ⟨j, hj⟩ := List.getElem?_of_mem hx
     exact hJ.out j x (by have := (List.getElem?_eq_some_iff.1 hj).1; omega) hj he
   rw [hd]
   replace hd := Hid.mk hd
   simp only [↓pre, simprocAttr, parV, sx, tys70, onceA, postU, hTr.len', e0, e1, e5, hlt', sr]
theorem ref_same (i j : Nat) (a b : Int) : binE Tryz.prog .neq 67 (.tmp i) (.tmp j) (.agg [.val (.int .i64 a), .val (.int .i64 b)]) (.agg [.val (.int .i64 a), .val (.int .i64 b)]) = some (.val (.bool false)) := by
 have h : eqF Tryz.prog #[.int .i64 a, .int .i64 b] #[.int .i64 a, .int .i64 b] (fieldsP Tryz.prog 67) = if a = a then (if b = b then some true else some false) else some false := by kernel_rfl
 rw [if_pos rfl, if_pos rfl] at h
 exact (bin_struct (a := [.val (.int .i64 a), .val (.int .i64 b)]) (b := [.val (.int .i64 a), .val (.int .i64 b)]) (u := [.int .i64 a, .int .i64 b]) (v := [.int .i64 a, .int .i64 b]) rfl rfl (by kernel_rfl) (by kernel_rfl) (by kernel_rfl) h).2
theorem live_same (i j : Nat) (a b : Int) : binE Tryz.prog .neq 104 (.tmp i) (.tmp j) (.agg [.val (.int .i64 a), .val (.int .u8 2), .val (.int .i64 b)]) (.agg [.val (.int .i64 a), .val (.int .u8 2), .val (.int .i64 b)]) = some (.val (.bool false)) := by
 have h : eqF Tryz.prog #[.int .i64 a, .int .u8 2, .int .i64 b] #[.int .i64 a, .int .u8 2, .int .i64 b] (fieldsP Tryz.prog 104) = if a = a then (if (2 : Int) = 2 then (if b = b then some true else some false) else some false) else some false := by kernel_rfl
 rw [if_pos rfl, if_pos rfl, if_pos rfl] at h
 exact (bin_struct (a := [.val (.int .i64 a), .val (.int .u8 2), .val (.int .i64 b)]) (b := [.val (.int .i64 a), .val (.int .u8 2), .val (.int .i64 b)]) (u := [.int .i64 a, .int .u8 2, .int .i64 b]) (v := [.int .i64 a, .int .u8 2, .int .i64 b]) rfl rfl (by kernel_rfl) (by kernel_rfl) (by kernel_rfl) h).2
def onceWh : Nat → Bool := fun d => d != 22 && d != 178 && d != 192
set_option maxHeartbeats 4000000 in
theorem law17_TreeWhole (k r c w row : Int) (v : AV) (L : List (List UInt8)) (cells : List AV) (hv : RowsV v L cells) : FSpec Tryz.prog 11 [imV k r c w v, intV row] ⟨boolV true, []⟩ := by
 refine fspec_fzT ?_
 have hp := hv.rd.plain
 have hf := rd_fz hv.rd
 have ho := rd_one hv.rd
 have haw := law17_awake
 have hbi := law17_big k r c w v L cells hv
 have hob := tree_Object k r c w row v L cells hv
 have hst := tree_Stripes k r c w row v L cells hv
 unfold strV17 at hst
 unfold objV at hob
 have hlen0 : lenE Tryz.prog 31 (.val (.slice none 0 0)) = some (.val (.int .i64 0)) := by kernel_rfl
 have hlen1 : lenE Tryz.prog 41 (.val (.slice none 0 0)) = some (.val (.int .i64 0)) := by kernel_rfl
 have hlen2 : lenE Tryz.prog 96 (.val (.slice none 0 0)) = some (.val (.int .i64 0)) := by kernel_rfl
 cases hb : mayB k r c w && decide (400 < (k + r) * w) with
 | true =>
   rw [hb] at hbi
   unfold imV at hbi ⊢
   clear hst hob
   refine ospec_of_body follows Tryz.func11 (by unfold Tryz.f11; rfl) (by unfold Tryz.f11; simp) onceWh (by unfold Tryz.f11; simp) (by kernel_rfl) ?_; unfold Tryz.f11
   simp only [↓pre, simprocAttr, parV, sx, tys11, cellsR, onceWh, bne, postU, postA, storeE, allocE, me0, put_at, push_at, hf, ho, hlen0, hlen1, hlen2, sr]
   (first | refine call_plain (haw) (by first | rfl | simp only [parV, plQ, *]) ?_ | refine call_pure (haw) (by first | rfl | simp only [parV, plQ, *]) (by intro k; first | rfl | simp only [sq, sr, *]) ?_); simp only [↓pre, simprocAttr, parV, sx, tys11, cellsR, onceWh, bne, postU, postA, storeE, allocE, me0, put_at, push_at, hf, ho, hlen0, hlen1, hlen2, sr]; (first | refine call_plain (hbi) (by first | rfl | simp only [parV, plQ, *]) ?_ | refine call_pure (hbi) (by first | rfl | simp only [parV, plQ, *]) (by intro k; first | rfl | simp only [sq, sr, *]) ?_); simp only [↓pre, simprocAttr, parV, sx, tys11, cellsR, onceWh, bne, postU, postA, storeE, allocE, me0, put_at, push_at, hf, ho, hlen0, hlen1, hlen2, sr]
   exact ⟨0, fzT_val⟩
 | false =>
   rw [hb] at hbi
   clear hb
   by_cases hO : objE k r c w L row = 0
   · rw [if_pos hO] at hob hst
     have hro := tree_Rows_ok k r c w row v L cells hv hO
     obtain ⟨hI, hR, hC, hre, hSl, hl0, hl1⟩ := obj_refs hO
     obtain ⟨hE, hF, hS⟩ := obj_many hO
     have hLl := objL_len hO
     have hSLl := strL_len k r c w L row
     have hmS := layout_stripes k r c w (pLen (objD k r c w L row))
     have hmL := layout_leaves k r c w (pLen (objD k r c w L row))
     have hmR := layout_rows k r c w (pLen (objD k r c w L row)) hE ⟨by omega, by omega, by omega, by omega⟩
     have hcnt : oS k r c w (pLen (objD k r c w L row)) + oF k r c w (pLen (objD k r c w L row)) + 1 = ((strL k r c w L row).length : Nat) := by rw [hSLl]; omega
     rw [hE] at hmS hmL
     rw [hcnt] at hmR
     rw [← hS] at hmS
     rw [← hF] at hmL
     have hs0 : (strL k r c w L row)[0]? = some (row, 2, winI k r c w (rowL k r w L row)) := rfl
     have hs1 : ∀ i x, (objL k r c w L row ++ objS k r c w L row)[i]? = some x → (strL k r c w L row)[i + 1]? = some (x.1, 1, x.2) := fun i x hx => by
       unfold strL datL
       rw [List.getElem?_cons_succ, List.getElem?_map, hx]
       rfl
     have ham := fun n => law17_among (strL k r c w L row) n (by omega)
     have hRr := treeR_rd (pRefs (objD k r c w L row)).length (refsA (pRefs (objD k r c w L row)))
     have hLr := treeR_rd (objL k r c w L row).length (refsA (objL k r c w L row))
     have hSr := treeR_rd (objS k r c w L row).length (refsA (objS k r c w L row))
     have hTr := liveT_rd (strL k r c w L row)
     have hQr := rowsT_rd (strL k r c w L row)
     have hql := rowsI_len (strL k r c w L row)
     have hqm := rowsI_mem (strL k r c w L row)
     have hqp := rowsI_lt (strL k r c w L row)
     have hats := fun (i : Nat) (x : LiveI) (hi : (strL k r c w L row)[i]? = some x) => liveA_at (strL k r c w L row) i x hi
     have hatL := fun (i : Nat) (x : RefI) (hi : (objL k r c w L row)[i]? = some x) => refsA_at (objL k r c w L row) [] i x hi
     have hatS := fun (i : Nat) (x : RefI) (hi : (objS k r c w L row)[i]? = some x) => refsA_at (objS k r c w L row) [] i x hi
     rw [List.append_nil] at hatL hatS
     unfold descA refsT at hob
     unfold imV at hob hst hro hbi ⊢
     generalize treeR (pRefs (objD k r c w L row)).length (refsA (pRefs (objD k r c w L row))) = DV at *
     generalize treeR (objL k r c w L row).length (refsA (objL k r c w L row)) = LV at *
     generalize treeR (objS k r c w L row).length (refsA (objS k r c w L row)) = SV at *
     generalize liveT (strL k r c w L row) = TV at *
     generalize rowsT (strL k r c w L row) = QV at *
     generalize rowsI (strL k r c w L row) = QL at *
     generalize intsA (List.replicate ((strL k r c w L row).length - QL.length) 0) = QX at *
     generalize winI k r c w (rowL k r w L row) = W at *
     clear hE hF hS hcnt hre hI hR hC hl0 hl1
     generalize pLen (objD k r c w L row) = PL at *
     generalize pDep (objD k r c w L row) = PD at *
     generalize pRefs (objD k r c w L row) = PR at *
     generalize strL k r c w L row = SL at *
     clear hO
     generalize objL k r c w L row = LL at *
     generalize objS k r c w L row = SS at *
     have f2 := rd_fz hRr
     have o2 := rd_one hRr
     have s2 := rd_shift hRr
     have s3 := rd_shift hLr
     have s4 := rd_shift hSr
     have s5 := rd_shift hTr
     have s6 := rd_shift hQr
     have pTV := hTr.plain
     simp only [intV, parV] at hob hst hro hmS hmL hmR ham
     replace ham := Hid.mk ham
     obtain ⟨ha0, hb0, hc0⟩ := hats 0 _ hs0
     obtain ⟨ht0, htl0⟩ := take3 ha0 hb0 hc0
     rw [Nat.zero_mul, List.drop_zero] at ht0
     have hpos : 0 < SL.length := by omega
     have hpos' : (0 : Int) < (SL.length : Nat) := by omega
     replace hSl := Hid.mk hSl
     replace hLl := Hid.mk hLl
     replace hSLl := Hid.mk hSLl
     replace hs1 := Hid.mk hs1
     replace hql := Hid.mk hql
     replace hqm := Hid.mk hqm
     replace hqp := Hid.mk hqp
     replace hats := Hid.mk hats
     replace hatL := Hid.mk hatL
     replace hatS := Hid.mk hatS
     replace hRr := Hid.mk hRr
     refine ospec_of_body follows Tryz.func11 (by unfold Tryz.f11; rfl) (by unfold Tryz.f11; simp) onceWh (by unfold Tryz.f11; simp) (by kernel_rfl) ?_; unfold Tryz.f11
     simp only [↓pre, simprocAttr, parV, sx, tys11, cellsR, onceWh, bne, postU, postA, storeE, allocE, me0, put_at, push_at, hf, ho, hlen0, hlen1, hlen2, f2, o2, s2, s3, s4, s5, s6, hLr.len', hSr.len', hTr.len', hQr.len', sr]
     (first | refine call_plain (haw) (by first | rfl | simp only [parV, plQ, *]) ?_ | refine call_pure (haw) (by first | rfl | simp only [parV, plQ, *]) (by intro k; first | rfl | simp only [sq, sr, *]) ?_); simp only [↓pre, simprocAttr, parV, sx, tys11, cellsR, onceWh, bne, postU, postA, storeE, allocE, me0, put_at, push_at, hf, ho, hlen0, hlen1, hlen2, f2, o2, s2, s3, s4, s5, s6, hLr.len', hSr.len', hTr.len', hQr.len', hTr.addr', hpos, hpos', ht0, htl0, live_same, sr]; (first | refine call_plain (hbi) (by first | rfl | simp only [parV, plQ, *]) ?_ | refine call_pure (hbi) (by first | rfl | simp only [parV, plQ, *]) (by intro k; first | rfl | simp only [sq, sr, *]) ?_); simp only [↓pre, simprocAttr, parV, sx, tys11, cellsR, onceWh, bne, postU, postA, storeE, allocE, me0, put_at, push_at, hf, ho, hlen0, hlen1, hlen2, f2, o2, s2, s3, s4, s5, s6, hLr.len', hSr.len', hTr.len', hQr.len', hTr.addr', hpos, hpos', ht0, htl0, live_same, sr]; (first | refine call_plain (hob) (by first | rfl | simp only [parV, plQ, *]) ?_ | refine call_pure (hob) (by first | rfl | simp only [parV, plQ, *]) (by intro k; first | rfl | simp only [sq, sr, *]) ?_); simp only [↓pre, simprocAttr, parV, sx, tys11, cellsR, onceWh, bne, postU, postA, storeE, allocE, me0, put_at, push_at, hf, ho, hlen0, hlen1, hlen2, f2, o2, s2, s3, s4, s5, s6, hLr.len', hSr.len', hTr.len', hQr.len', hTr.addr', hpos, hpos', ht0, htl0, live_same, sr]; (first | refine call_plain (hro) (by first | rfl | simp only [parV, plQ, *]) ?_ | refine call_pure (hro) (by first | rfl | simp only [parV, plQ, *]) (by intro k; first | rfl | simp only [sq, sr, *]) ?_); simp only [↓pre, simprocAttr, parV, sx, tys11, cellsR, onceWh, bne, postU, postA, storeE, allocE, me0, put_at, push_at, hf, ho, hlen0, hlen1, hlen2, f2, o2, s2, s3, s4, s5, s6, hLr.len', hSr.len', hTr.len', hQr.len', hTr.addr', hpos, hpos', ht0, htl0, live_same, sr]; (first | refine call_plain (hst) (by first | rfl | simp only [parV, plQ, *]) ?_ | refine call_pure (hst) (by first | rfl | simp only [parV, plQ, *]) (by intro k; first | rfl | simp only [sq, sr, *]) ?_); simp only [↓pre, simprocAttr, parV, sx, tys11, cellsR, onceWh, bne, postU, postA, storeE, allocE, me0, put_at, push_at, hf, ho, hlen0, hlen1, hlen2, f2, o2, s2, s3, s4, s5, s6, hLr.len', hSr.len', hTr.len', hQr.len', hTr.addr', hpos, hpos', ht0, htl0, live_same, sr]; (first | refine call_plain (hmS) (by first | rfl | simp only [parV, plQ, *]) ?_ | refine call_pure (hmS) (by first | rfl | simp only [parV, plQ, *]) (by intro k; first | rfl | simp only [sq, sr, *]) ?_); simp only [↓pre, simprocAttr, parV, sx, tys11, cellsR, onceWh, bne, postU, postA, storeE, allocE, me0, put_at, push_at, hf, ho, hlen0, hlen1, hlen2, f2, o2, s2, s3, s4, s5, s6, hLr.len', hSr.len', hTr.len', hQr.len', hTr.addr', hpos, hpos', ht0, htl0, live_same, sr]; (first | refine call_plain (hmL) (by first | rfl | simp only [parV, plQ, *]) ?_ | refine call_pure (hmL) (by first | rfl | simp only [parV, plQ, *]) (by intro k; first | rfl | simp only [sq, sr, *]) ?_); simp only [↓pre, simprocAttr, parV, sx, tys11, cellsR, onceWh, bne, postU, postA, storeE, allocE, me0, put_at, push_at, hf, ho, hlen0, hlen1, hlen2, f2, o2, s2, s3, s4, s5, s6, hLr.len', hSr.len', hTr.len', hQr.len', hTr.addr', hpos, hpos', ht0, htl0, live_same, sr]; (first | refine call_plain (hmR) (by first | rfl | simp only [parV, plQ, *]) ?_ | refine call_pure (hmR) (by first | rfl | simp only [parV, plQ, *]) (by intro k; first | rfl | simp only [sq, sr, *]) ?_); simp only [↓pre, simprocAttr, parV, sx, tys11, cellsR, onceWh, bne, postU, postA, storeE, allocE, me0, put_at, push_at, hf, ho, hlen0, hlen1, hlen2, f2, o2, s2, s3, s4, s5, s6, hLr.len', hSr.len', hTr.len', hQr.len', hTr.addr', hpos, hpos', ht0, htl0, live_same, sr]
     clear haw hbi hob hst hro hmS hmL hmR ha0 hb0 hc0 ht0 htl0
     rw [codeW_loop]
     refine loop_cut (fun e' m' => e' 11 = QV ∧ e' 13 = TV) (fun e' m' hR => ?_) ?_
     · obtain ⟨e11, e13⟩ := hR
       simp only [↓pre, simprocAttr, parV, sx, tys11, cellsR, onceWh, bne, postU, postA, storeE, allocE, me0, put_at, push_at, hf, ho, hlen0, hlen1, hlen2, f2, o2, s2, s3, s4, s5, s6, hLr.len', hSr.len', hTr.len', hQr.len', e11, e13, sr]
       rw [codeW_loop]
       refine loop_cut (fun e' m' => e' 11 = QV ∧ e' 13 = TV) (fun e' m' hR => ?_) ?_
       · clear e11 e13
         obtain ⟨e11, e13⟩ := hR
         simp only [↓pre, simprocAttr, parV, sx, tys11, cellsR, onceWh, bne, postU, postA, storeE, allocE, me0, put_at, push_at, hf, ho, hlen0, hlen1, hlen2, f2, o2, s2, s3, s4, s5, s6, hLr.len', hSr.len', hTr.len', hQr.len', e11, e13, sr]
         rw [codeW_loop]
         refine loop_intro (fun q e m => ∃ i, q + i = SL.length ∧ e 11 = QV ∧ e 13 = TV ∧ e 24 = intV (i : Nat)) SL.length ⟨0, by omega, e11, e13, rfl⟩ ?_
         clear e11 e13
         rintro q e m ⟨i, hq, e11, e13, e24⟩
         replace hq := Hid.mk hq
         by_cases hlt : i < SL.length
         · have hlt' : ((i : Nat) : Int) < ((SL.length : Nat) : Int) := by omega
           have wi := wrap_succ (n := i) (by have := hSLl.out; have := hLl.out; have := hSl.out; omega)
           obtain ⟨x, hx⟩ : ∃ x, SL[i]? = some x := ⟨_, List.getElem?_eq_getElem hlt⟩
           obtain ⟨ha, hb, hc3⟩ := hats.out i x hx
           have hxm := (hqm.out x.1).2 ⟨x, List.mem_of_getElem? hx, rfl⟩
           replace hx := Hid.mk hx
           replace hxm := Hid.mk hxm
           simp only [↓pre, simprocAttr, parV, sx, tys11, cellsR, onceWh, bne, postU, postA, storeE, allocE, me0, put_at, push_at, hf, ho, hlen0, hlen1, hlen2, f2, o2, s2, s3, s4, s5, s6, hLr.len', hSr.len', hTr.len', hQr.len', e11, e13, e24, hlt', sr]
           rw [codeW_loop]
           refine loop_cut (fun e' m' => e' 11 = QV ∧ e' 13 = TV ∧ e' 24 = intV (i : Nat) ∧ e' 25 = boolV true) (fun e' m' hR => ?_) ?_
           · clear e11 e13 e24
             obtain ⟨e11, e13, e24, e25⟩ := hR
             simp only [↓pre, simprocAttr, parV, sx, tys11, cellsR, onceWh, bne, postU, postA, storeE, allocE, me0, put_at, push_at, hf, ho, hlen0, hlen1, hlen2, f2, o2, s2, s3, s4, s5, s6, hLr.len', hSr.len', hTr.len', hQr.len', e11, e13, e24, e25, wi, sr]
             exact ⟨q - 1, by have := hq.out; omega, i + 1, by have := hq.out; omega, rfl⟩
           · refine loop_intro (fun q e m => ∃ j bb, q + j = QL.length ∧ e 11 = QV ∧ e 13 = TV ∧ e 24 = intV (i : Nat) ∧ e 25 = boolV bb ∧ e 26 = intV (j : Nat) ∧ Hid (bb = true ∨ ∀ j' n, j' < j → QL[j']? = some n → n ≠ x.1)) QL.length ⟨0, false, by omega, e11, e13, e24, rfl, rfl, ⟨.inr fun j' n h => by omega⟩⟩ ?_
             clear e11 e13 e24
             rintro q2 e m ⟨j, bb, hq2, e11, e13, e24, e25, e26, hJ⟩
             replace hq2 := Hid.mk hq2
             by_cases hl2 : j < QL.length
             · have hl2' : ((j : Nat) : Int) < ((QL.length : Nat) : Int) := by omega
               have wj := wrap_succ (n := j) (by have := hql.out; have := hSLl.out; have := hLl.out; have := hSl.out; omega)
               obtain ⟨n, hn⟩ : ∃ n, QL[j]? = some n := ⟨_, List.getElem?_eq_getElem hl2⟩
               have hna := int_at (x := QX) hn
               have hnext : ∀ b2 : Bool, b2 = (bb || decide (n = x.1)) → (b2 = true ∨ ∀ j' n', j' < j + 1 → QL[j']? = some n' → n' ≠ x.1) := fun b2 h2 => by
                 cases bb with
                 | true => exact .inl (by rw [h2]; rfl)
                 | false =>
                   by_cases he : n = x.1
                   · exact .inl (by rw [h2, decide_eq_true he]; rfl)
                   · refine .inr fun j' n' hj' hn' => ?_
                     rcases hJ.out with h | h
                     · cases h
                     · by_cases e : j' = j
                       · subst e; rw [hn] at hn'; cases hn'; exact he
                       · exact h j' n' (by omega) hn'
               replace hn := Hid.mk hn
               replace hnext := Hid.mk hnext
               cases bb with
               | true =>
                 simp only [↓pre, simprocAttr, parV, sx, tys11, cellsR, onceWh, bne, postU, postA, storeE, allocE, me0, put_at, push_at, hf, ho, hlen0, hlen1, hlen2, f2, o2, s2, s3, s4, s5, s6, hLr.len', hSr.len', hTr.len', hQr.len', e11, e13, e24, e25, e26, hl2', hl2, wj, sr]
                 exact ⟨q2 - 1, by have := hq2.out; omega, j + 1, _, by have := hq2.out; omega, rfl, rfl, ⟨.inl rfl⟩⟩
               | false =>
                 simp only [↓pre, simprocAttr, parV, sx, tys11, cellsR, onceWh, bne, postU, postA, storeE, allocE, me0, put_at, push_at, hf, ho, hlen0, hlen1, hlen2, f2, o2, s2, s3, s4, s5, s6, hLr.len', hSr.len', hTr.len', hQr.len', e11, e13, e24, e25, e26, hl2', hl2, wj, hQr.addr', hna, hTr.addr', hlt, ha, sr]
                 exact ⟨q2 - 1, by have := hq2.out; omega, j + 1, _, by have := hq2.out; omega, rfl, rfl, ⟨hnext.out _ (by simp)⟩⟩
             · have hl2' : ¬ ((j : Nat) : Int) < ((QL.length : Nat) : Int) := by omega
               have hb1 : bb = true := by
                 rcases hJ.out with h | h
                 · exact h
                 · obtain ⟨j', hj'⟩ := List.getElem?_of_mem hxm.out
                   exact absurd rfl (h j' _ (by have := (List.getElem?_eq_some_iff.1 hj').1; omega) hj')
               subst hb1
               simp only [↓pre, simprocAttr, parV, sx, tys11, cellsR, onceWh, bne, postU, postA, storeE, allocE, me0, put_at, push_at, hf, ho, hlen0, hlen1, hlen2, f2, o2, s2, s3, s4, s5, s6, hLr.len', hSr.len', hTr.len', hQr.len', e11, e13, e24, e25, e26, hl2', sr]
               done
         · have hlt' : ¬ ((i : Nat) : Int) < ((SL.length : Nat) : Int) := by omega
           simp only [↓pre, simprocAttr, parV, sx, tys11, cellsR, onceWh, bne, postU, postA, storeE, allocE, me0, put_at, push_at, hf, ho, hlen0, hlen1, hlen2, f2, o2, s2, s3, s4, s5, s6, hLr.len', hSr.len', hTr.len', hQr.len', e11, e13, e24, hlt', sr]
           exact ⟨0, fzT_val⟩
       · refine loop_intro (fun q e m => ∃ i, q + i = QL.length ∧ e 11 = QV ∧ e 13 = TV ∧ e 23 = intV (i : Nat)) QL.length ⟨0, by omega, e11, e13, rfl⟩ ?_
         clear e11 e13
         rintro q e m ⟨i, hq, e11, e13, e23⟩
         replace hq := Hid.mk hq
         by_cases hlt : i < QL.length
         · have hlt' : ((i : Nat) : Int) < ((QL.length : Nat) : Int) := by omega
           have wi := wrap_succ (n := i) (by have := hql.out; have := hSLl.out; have := hLl.out; have := hSl.out; omega)
           obtain ⟨n, hn⟩ : ∃ n, QL[i]? = some n := ⟨_, List.getElem?_eq_getElem hlt⟩
           have hna := int_at (x := QX) hn
           have hmem : decide (∃ x ∈ SL, x.1 = n) = true := decide_eq_true ((hqm.out n).1 (List.mem_of_getElem? hn))
           have hamn := ham.out n
           rw [hmem] at hamn
           simp only [boolV] at hamn
           by_cases h0 : i = 0
           · subst h0
             have hl0 : (0 : Int) < ((QL.length : Nat) : Int) := by omega
             have wi0 : IntKind.i64.wrap (0 + 1) = 1 := by decide
             clear hlt'
             replace hn := Hid.mk hn
             replace hmem := Hid.mk hmem
             simp only [↓pre, simprocAttr, parV, sx, tys11, cellsR, onceWh, bne, postU, postA, storeE, allocE, me0, put_at, push_at, hf, ho, hlen0, hlen1, hlen2, f2, o2, s2, s3, s4, s5, s6, hLr.len', hSr.len', hTr.len', hQr.len', e11, e13, e23, hl0, hlt, hQr.addr', hna, Int.natCast_zero, Int.cast_ofNat_Int, Int.lt_irrefl, sr]
             (first | refine call_plain (hamn) (by first | rfl | simp only [parV, plQ, *]) ?_ | refine call_pure (hamn) (by first | rfl | simp only [parV, plQ, *]) (by intro k; first | rfl | simp only [sq, sr, *]) ?_); simp only [↓pre, simprocAttr, parV, sx, tys11, cellsR, onceWh, bne, postU, postA, storeE, allocE, me0, put_at, push_at, hf, ho, hlen0, hlen1, hlen2, f2, o2, s2, s3, s4, s5, s6, hLr.len', hSr.len', hTr.len', hQr.len', e11, e13, e23, hl0, hlt, hQr.addr', hna, wi0, Int.natCast_zero, Int.cast_ofNat_Int, sr]
             exact ⟨q - 1, by have := hq.out; omega, 0 + 1, by have := hq.out; omega, rfl⟩
           · have h0' : (0 : Int) < (i : Nat) := by omega
             have wp : IntKind.i64.wrap (((i : Nat) : Int) - 1) = ((i - 1 : Nat) : Int) := by rw [wrap_id (by omega) (by have := hql.out; have := hSLl.out; have := hLl.out; have := hSl.out; omega)]; omega
             have hlt1 : i - 1 < QL.length := by omega
             obtain ⟨n1, hn1⟩ : ∃ n, QL[i - 1]? = some n := ⟨_, List.getElem?_eq_getElem hlt1⟩
             have hna1 := int_at (x := QX) hn1
             have hord : ¬ n ≤ n1 := by
               obtain ⟨q1, r1⟩ := List.getElem?_eq_some_iff.1 hn
               obtain ⟨q2, r2⟩ := List.getElem?_eq_some_iff.1 hn1
               have := List.pairwise_iff_getElem.1 hqp.out (i - 1) i q2 q1 (by omega)
               omega
             replace hn := Hid.mk hn
             replace hn1 := Hid.mk hn1
             replace hmem := Hid.mk hmem
             simp only [↓pre, simprocAttr, parV, sx, tys11, cellsR, onceWh, bne, postU, postA, storeE, allocE, me0, put_at, push_at, hf, ho, hlen0, hlen1, hlen2, f2, o2, s2, s3, s4, s5, s6, hLr.len', hSr.len', hTr.len', hQr.len', e11, e13, e23, hlt', hlt, hQr.addr', hna, h0', wp, hlt1, hna1, hord, sr]
             (first | refine call_plain (hamn) (by first | rfl | simp only [parV, plQ, *]) ?_ | refine call_pure (hamn) (by first | rfl | simp only [parV, plQ, *]) (by intro k; first | rfl | simp only [sq, sr, *]) ?_); simp only [↓pre, simprocAttr, parV, sx, tys11, cellsR, onceWh, bne, postU, postA, storeE, allocE, me0, put_at, push_at, hf, ho, hlen0, hlen1, hlen2, f2, o2, s2, s3, s4, s5, s6, hLr.len', hSr.len', hTr.len', hQr.len', e11, e13, e23, hlt', hlt, hQr.addr', hna, wi, sr]
             exact ⟨q - 1, by have := hq.out; omega, i + 1, by have := hq.out; omega, rfl⟩
         · have hlt' : ¬ ((i : Nat) : Int) < ((QL.length : Nat) : Int) := by omega
           simp only [↓pre, simprocAttr, parV, sx, tys11, cellsR, onceWh, bne, postU, postA, storeE, allocE, me0, put_at, push_at, hf, ho, hlen0, hlen1, hlen2, f2, o2, s2, s3, s4, s5, s6, hLr.len', hSr.len', hTr.len', hQr.len', e11, e13, e23, hlt', sr]
           done
     · refine loop_intro (fun q e m => ∃ i, q + (i + 1) = SL.length ∧ e 8 = LV ∧ e 9 = SV ∧ e 11 = QV ∧ e 13 = TV ∧ e 17 = intV (LL.length : Nat) ∧ e 21 = intV ((i + 1 : Nat) : Int)) (SL.length - 1) ⟨0, by omega, rfl, rfl, rfl, rfl, rfl, rfl⟩ ?_
       rintro q e m ⟨i, hq, e8, e9, e11, e13, e17, e21⟩
       replace hq := Hid.mk hq
       by_cases hlt : i + 1 < SL.length
       · have hlt' : ((i + 1 : Nat) : Int) < ((SL.length : Nat) : Int) := by omega
         have wi := wrap_succ (n := i + 1) (by have := hSLl.out; have := hLl.out; have := hSl.out; omega)
         have wp : IntKind.i64.wrap (((i + 1 : Nat) : Int) - 1) = (i : Nat) := by rw [wrap_id (by omega) (by have := hSLl.out; have := hLl.out; have := hSl.out; omega)]; omega
         by_cases hle : i + 1 ≤ LL.length
         · have hle' : ((i + 1 : Nat) : Int) ≤ ((LL.length : Nat) : Int) := by omega
           have hgt' : ¬ ((LL.length : Nat) : Int) < ((i + 1 : Nat) : Int) := by omega
           have hil : i < LL.length := by omega
           obtain ⟨x, hx⟩ : ∃ x, LL[i]? = some x := ⟨_, List.getElem?_eq_getElem hil⟩
           obtain ⟨ha, hb, hc3⟩ := hats.out (i + 1) _ (hs1.out i x (by rw [List.getElem?_append_left hil]; exact hx))
           obtain ⟨ha2, hb2⟩ := hatL.out i x hx
           obtain ⟨ht2, htl2⟩ := take2 ha2 hb2
           replace hx := Hid.mk hx
           simp only [↓pre, simprocAttr, parV, sx, tys11, cellsR, onceWh, bne, postU, postA, storeE, allocE, me0, put_at, push_at, hf, ho, hlen0, hlen1, hlen2, f2, o2, s2, s3, s4, s5, s6, hLr.len', hSr.len', hTr.len', hQr.len', e8, e9, e11, e13, e17, e21, hlt', hlt, hTr.addr', ha, hb, hc3, wp, hle', hgt', hLr.addr', hil, ht2, htl2, ref_same, sr]
           refine contW_fixed (by kernel_rfl) ?_
           simp only [↓pre, simprocAttr, parV, sx, tys11, cellsR, onceWh, bne, postU, postA, storeE, allocE, me0, put_at, push_at, hf, ho, hlen0, hlen1, hlen2, f2, o2, s2, s3, s4, s5, s6, hLr.len', hSr.len', hTr.len', hQr.len', e8, e9, e11, e13, e17, e21, hlt', hlt, hTr.addr', ha, hb, hc3, wp, hle', hgt', hLr.addr', hil, ht2, htl2, ref_same, sr]
           refine contW_fixed (by kernel_rfl) ?_
           simp only [↓pre, simprocAttr, parV, sx, tys11, cellsR, onceWh, bne, postU, postA, storeE, allocE, me0, put_at, push_at, hf, ho, hlen0, hlen1, hlen2, f2, o2, s2, s3, s4, s5, s6, hLr.len', hSr.len', hTr.len', hQr.len', e8, e9, e11, e13, e17, e21, hlt', hlt, hTr.addr', ha, hb, hc3, wp, hle', hgt', hLr.addr', hil, ht2, htl2, ref_same, wi, sr]
           exact ⟨q - 1, by have := hq.out; omega, i + 1, by have := hq.out; omega, rfl⟩
         · have hle' : ¬ ((i + 1 : Nat) : Int) ≤ ((LL.length : Nat) : Int) := by omega
           have hgt' : ((LL.length : Nat) : Int) < ((i + 1 : Nat) : Int) := by omega
           have hil : i - LL.length < SS.length := by have := hSLl.out; omega
           have wq : IntKind.i64.wrap (((i : Nat) : Int) - ((LL.length : Nat) : Int)) = ((i - LL.length : Nat) : Int) := by rw [wrap_id (by omega) (by have := hSLl.out; have := hLl.out; have := hSl.out; omega)]; omega
           obtain ⟨x, hx⟩ : ∃ x, SS[i - LL.length]? = some x := ⟨_, List.getElem?_eq_getElem hil⟩
           obtain ⟨ha, hb, hc3⟩ := hats.out (i + 1) _ (hs1.out i x (by rw [List.getElem?_append_right (by omega)]; exact hx))
           obtain ⟨ha2, hb2⟩ := hatS.out (i - LL.length) x hx
           obtain ⟨ht2, htl2⟩ := take2 ha2 hb2
           replace hx := Hid.mk hx
           simp only [↓pre, simprocAttr, parV, sx, tys11, cellsR, onceWh, bne, postU, postA, storeE, allocE, me0, put_at, push_at, hf, ho, hlen0, hlen1, hlen2, f2, o2, s2, s3, s4, s5, s6, hLr.len', hSr.len', hTr.len', hQr.len', e8, e9, e11, e13, e17, e21, hlt', hlt, hTr.addr', ha, hb, hc3, wp, wq, hle', hgt', hSr.addr', hil, ht2, htl2, ref_same, sr]
           refine contW_fixed (by kernel_rfl) ?_
           simp only [↓pre, simprocAttr, parV, sx, tys11, cellsR, onceWh, bne, postU, postA, storeE, allocE, me0, put_at, push_at, hf, ho, hlen0, hlen1, hlen2, f2, o2, s2, s3, s4, s5, s6, hLr.len', hSr.len', hTr.len', hQr.len', e8, e9, e11, e13, e17, e21, hlt', hlt, hTr.addr', ha, hb, hc3, wp, wq, hle', hgt', hSr.addr', hil, ht2, htl2, ref_same, sr]
           refine contW_fixed (by kernel_rfl) ?_
           simp only [↓pre, simprocAttr, parV, sx, tys11, cellsR, onceWh, bne, postU, postA, storeE, allocE, me0, put_at, push_at, hf, ho, hlen0, hlen1, hlen2, f2, o2, s2, s3, s4, s5, s6, hLr.len', hSr.len', hTr.len', hQr.len', e8, e9, e11, e13, e17, e21, hlt', hlt, hTr.addr', ha, hb, hc3, wp, wq, hle', hgt', hSr.addr', hil, ht2, htl2, ref_same, wi, sr]
           exact ⟨q - 1, by have := hq.out; omega, i + 1, by have := hq.out; omega, rfl⟩
       · have hlt' : ¬ ((i + 1 : Nat) : Int) < ((SL.length : Nat) : Int) := by omega
         simp only [↓pre, simprocAttr, parV, sx, tys11, cellsR, onceWh, bne, postU, postA, storeE, allocE, me0, put_at, push_at, hf, ho, hlen0, hlen1, hlen2, f2, o2, s2, s3, s4, s5, s6, hLr.len', hSr.len', hTr.len', hQr.len', e8, e9, e11, e13, e17, e21, hlt', sr]
         done
   · have hro := tree_Rows_bad k r c w row v L cells hv hO
     rw [if_neg hO] at hob hst
     unfold desc0 nilS at hob
     unfold nilS at hst hro
     unfold imV at hob hst hro hbi ⊢
     simp only [intV] at hob hst hro
     refine ospec_of_body follows Tryz.func11 (by unfold Tryz.f11; rfl) (by unfold Tryz.f11; simp) onceWh (by unfold Tryz.f11; simp) (by kernel_rfl) ?_; unfold Tryz.f11
     simp only [↓pre, simprocAttr, parV, sx, tys11, cellsR, onceWh, bne, postU, postA, storeE, allocE, me0, put_at, push_at, hf, ho, hlen0, hlen1, hlen2, sr]
     (first | refine call_plain (haw) (by first | rfl | simp only [parV, plQ, *]) ?_ | refine call_pure (haw) (by first | rfl | simp only [parV, plQ, *]) (by intro k; first | rfl | simp only [sq, sr, *]) ?_); simp only [↓pre, simprocAttr, parV, sx, tys11, cellsR, onceWh, bne, postU, postA, storeE, allocE, me0, put_at, push_at, hf, ho, hlen0, hlen1, hlen2, hO, sr]; (first | refine call_plain (hbi) (by first | rfl | simp only [parV, plQ, *]) ?_ | refine call_pure (hbi) (by first | rfl | simp only [parV, plQ, *]) (by intro k; first | rfl | simp only [sq, sr, *]) ?_); simp only [↓pre, simprocAttr, parV, sx, tys11, cellsR, onceWh, bne, postU, postA, storeE, allocE, me0, put_at, push_at, hf, ho, hlen0, hlen1, hlen2, hO, sr]; (first | refine call_plain (hob) (by first | rfl | simp only [parV, plQ, *]) ?_ | refine call_pure (hob) (by first | rfl | simp only [parV, plQ, *]) (by intro k; first | rfl | simp only [sq, sr, *]) ?_); simp only [↓pre, simprocAttr, parV, sx, tys11, cellsR, onceWh, bne, postU, postA, storeE, allocE, me0, put_at, push_at, hf, ho, hlen0, hlen1, hlen2, hO, sr]; (first | refine call_plain (hro) (by first | rfl | simp only [parV, plQ, *]) ?_ | refine call_pure (hro) (by first | rfl | simp only [parV, plQ, *]) (by intro k; first | rfl | simp only [sq, sr, *]) ?_); simp only [↓pre, simprocAttr, parV, sx, tys11, cellsR, onceWh, bne, postU, postA, storeE, allocE, me0, put_at, push_at, hf, ho, hlen0, hlen1, hlen2, hO, sr]; (first | refine call_plain (hst) (by first | rfl | simp only [parV, plQ, *]) ?_ | refine call_pure (hst) (by first | rfl | simp only [parV, plQ, *]) (by intro k; first | rfl | simp only [sq, sr, *]) ?_); simp only [↓pre, simprocAttr, parV, sx, tys11, cellsR, onceWh, bne, postU, postA, storeE, allocE, me0, put_at, push_at, hf, ho, hlen0, hlen1, hlen2, hO, sr]
     exact ⟨0, fzT_val⟩
end Go.Proofs.YtaekhhlgnbhnpaaGreat