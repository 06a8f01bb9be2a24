import Derived.RangeFuncBox
import Derived.RangeFuncLeaves
import Derived.RangeFuncNested
import Derived.Shelf.Abstract
import Derived.WalkKit
import Derived.OwnWalkIn
import Derived.TacticsInMore
import Derived.LoopNIn
import Derived.LoopIn
import Derived.Maps.AppendAt
import Derived.Deep.QuietTactic
import Derived.BigQuiet
import Derived.WalkSmall
import Derived.Test.YtaekhhlgnbhnpaaGreatLfcG25
import Derived.Test.YtaekhhlgnbhnpaaGreatLfcG23
set_option linter.unusedVariables false
set_option linter.unusedSimpArgs false
namespace Go.Proofs.YtaekhhlgnbhnpaaGreat
open Go Go.Tw Go.Proofs Go.RowKit Go.Shelf
attribute [local go_sem] Oper.semAt_some
def rowsOk (w : Int) (l : List Int) : Bool := l.all fun n => decide (0 ≤ n ∧ n < w)
theorem rowsOk_of {w : Int} {l : List Int} : rowsOk w l = true ↔ ∀ (i : Nat) (n : Int), l[i]? = some n → 0 ≤ n ∧ n < w := by
 unfold rowsOk
 rw [List.all_eq_true]
 constructor
 · intro h i n hi
   simpa using h n (List.mem_of_getElem? hi)
 · intro h n hn
   obtain ⟨i, hi, rfl⟩ := List.getElem_of_mem hn
   simpa using h i _ (List.getElem?_eq_getElem hi)
theorem rows_bad {w : Int} {l : List Int} {i : Nat} {n : Int} (h : l[i]? = some n) (hb : ¬ (0 ≤ n ∧ n < w)) : rowsOk w l = false := by
 cases hc : rowsOk w l with
 | false => rfl
 | true => exact absurd (rowsOk_of.1 hc i n h) hb
def decI : List UInt8 → List Int
 | a :: b :: l => ((a.toNat * 256 + b.toNat : Nat) : Int) :: decI l
 | _ => []
theorem decI_len : ∀ (bs : List UInt8), (decI bs).length = bs.length / 2
 | [] => rfl
 | [_] => by simp [decI]
 | _ :: _ :: l => by
   simp only [decI, List.length_cons, decI_len l]
   omega
def bktE (k r c w : Int) (bs : List UInt8) : Int := if mayB k r c w = true then (if bs.length = 8 then (if rowsOk w (decI bs) = true then 0 else 220) else 220) else 2
def upto (k : Nat) : List (Fin 4) := (List.finRange 4).take k
theorem upto_succ (k : Nat) (h : k < 4) : upto (k + 1) = upto k ++ [⟨k, h⟩] := by
 have : ∀ j : Fin 4, upto (j.1 + 1) = upto j.1 ++ [j] := by decide
 exact this ⟨k, h⟩
theorem upto_length (k : Nat) (h : k ≤ 4) : (upto k).length = k := by simp [upto, h]
abbrev FW : Fence := Fence.wide
set_option maxRecDepth 100000 in
set_option maxHeartbeats 2000000 in
def KP (Bs Bn : Nat) (A B : World) : Prop := B.heap[Bs]? = A.heap[Bs]? ∧ B.heap[Bn]? = A.heap[Bn]?
theorem KP.trans {Bs Bn : Nat} {A B C : World} (h : KP Bs Bn A B) (h' : KP Bs Bn B C) : KP Bs Bn A C := ⟨h'.1.trans h.1, h'.2.trans h.2⟩
theorem cellK {A B : World} {g o : Nat} (h : B.heap[g]? = A.heap[g]?) : B.cell? ⟨g, o, none⟩ = A.cell? ⟨g, o, none⟩ := World.cell?_of_block (a := ⟨g, o, none⟩) h
theorem chunk1_in (l Bs Bn b off cap : Nat) (hcap : 8 ≤ cap) (J Jx : List (Fin 4) → World → Prop) (hJ : ∀ s W nq, J s W → J s (W.drewN nq))
   (hY : ∀ pre x W, J pre W → pre.length < 4 → YieldAt FW 2 Tryz.prog l #[.slice (some ⟨b, off + 2 * x.1, none⟩) 2 2] W fun e W' =>
     (e = .returned (.bool true) ∧ J (pre ++ [x]) W' ∧ KP Bs Bn W W') ∨ (e = .returned (.bool false) ∧ Jx (pre ++ [x]) W'))
   (W : World) (hBs : W.cell? ⟨Bs, 0, none⟩ = some (.slice (some ⟨b, off, none⟩) 8 cap)) (hBn : W.cell? ⟨Bn, 0, none⟩ = some (.int .i64 2)) (h0 : J [] W) :
   CallsIn FW 3 Tryz.prog 265 #[.func (.yield l) #[] #[], .pointer (some ⟨Bs, 0, none⟩), .pointer (some ⟨Bn, 0, none⟩)] W fun e W' => (∃ v, e = .returned v) ∧
     ((∃ ys, ys = upto 4 ∧ J ys W') ∨ (∃ pre, (∃ k, k ≤ 4 ∧ pre = upto k) ∧ Jx pre W')) := by
 refine callsIn_of_wp Tryz.func265 rfl trivial ?_ rfl
 simp only [Tryz.ntmps265, List.size_toArray, List.length_cons, List.length_nil, Nat.reduceAdd, Nat.reduceSub, Array.replicate_succ, Array.replicate_zero, List.push_toArray, List.append_toArray, List.nil_append, List.cons_append]
 gi_wp2
 gi_loopw [4] (fun i wr => ∃ k : Nat, k ≤ 4 ∧ i = .int .i64 (2 * k : Nat) ∧ J (upto k) wr ∧ KP Bs Bn W wr)
   (fun i _ => 8 - (intOf i).toNat)
 case atStart => exact ⟨0, Nat.zero_le _, rfl, h0, rfl, rfl⟩
 case round =>
   obtain ⟨k, hk, rfl, hJs, hnx⟩ := hrel
   have hcs : wr.cell? ⟨Bs, 0, none⟩ = some (.slice (some ⟨b, off, none⟩) 8 cap) := (cellK hnx.1).trans hBs
   have hcn : wr.cell? ⟨Bn, 0, none⟩ = some (.int .i64 2) := (cellK hnx.2).trans hBn
   by_cases hlt : k < 4
   · gi_wp2
     refine wpIn_wide.2 ?_
     go_quiet (fail)
     have hmin : min 2 ((8 - 2 * k : Nat) : Int) = 2 := by omega
     simp only [hmin]
     have hJ2 := hJ _ _ nq hJs
     have hcs2 : (wr.drewN nq).cell? ⟨Bs, 0, none⟩ = some (.slice (some ⟨b, off, none⟩) 8 cap) := hcs
     have hcn2 : (wr.drewN nq).cell? ⟨Bn, 0, none⟩ = some (.int .i64 2) := hcn
     have hnx2 : KP Bs Bn W (wr.drewN nq) := hnx
     clear hcs hcn hnx hJs
     generalize wr.drewN nq = wq at hJ2 hcs2 hcn2 hnx2 ⊢
     obtain ⟨fn, tmps, assign, body, hy, hR⟩ := hY _ ⟨k, hlt⟩ wq hJ2 (by rw [upto_length k hk]; exact hlt)
     gi_wp2
     refine hR.mono ?_
     rintro e W3 (⟨rfl, hJ3, hk3⟩ | ⟨rfl, hJx3⟩)
     · have hcn3 : W3.cell? ⟨Bn, 0, none⟩ = some (.int .i64 2) := (cellK hk3.2).trans hcn2
       gi_wp2
       go_roundw
       case rel => exact ⟨k + 1, by omega, by simp; omega, by rw [upto_succ k hlt]; exact hJ3, hnx2.trans hk3⟩
       case measure => simp [intOf]; omega
     · gi_wp2
       refine bodyPost_ret (results_none rfl _ _ _) rfl ?_
       exact ⟨⟨_, rfl⟩, .inr ⟨_, ⟨k + 1, by omega, (upto_succ _ hlt).symm⟩, hJx3⟩⟩
   · obtain rfl : k = 4 := by omega
     gi_wp2
     go_end0
     exact ⟨⟨_, rfl⟩, .inl ⟨_, rfl, hJs⟩⟩
theorem chunk_stops (Bs Bn b off cap : Nat) (hcap : 8 ≤ cap) (w : World) (hBs : w.cell? ⟨Bs, 0, none⟩ = some (.slice (some ⟨b, off, none⟩) 8 cap)) (hBn : w.cell? ⟨Bn, 0, none⟩ = some (.int .i64 2)) (hs : Bs < w.heap.size) (hn : Bn < w.heap.size) :
   SeqStopsK FW 3 Tryz.prog 265 #[.pointer (some ⟨Bs, 0, none⟩), .pointer (some ⟨Bn, 0, none⟩)] (fun x : Fin 4 => #[Value.slice (some ⟨b, off + 2 * x.1, none⟩) 2 2]) (KP Bs Bn) (fun ys => ys = upto 4) (fun pre => ∃ k, k ≤ 4 ∧ pre = upto k) 4 w := fun l J Jx W hW hJ _ hY h0 => by
 refine chunk1_in l Bs Bn b off cap hcap J Jx (fun s A nq hs => hJ s A _ none hs ⟨rfl, rfl, rfl, Nat.le_refl _, fun _ _ _ => rfl⟩ (fun r e => by cases e)) hY W ((hW.cell (p := ⟨Bs, 0, none⟩) hs).trans hBs) ((hW.cell (p := ⟨Bn, 0, none⟩) hn).trans hBn) h0
set_option maxHeartbeats 1000000 in
theorem chunk_in (a : Option Addr) (len cap : Nat) (w : World) :
   Calls Tryz.prog 209 #[.slice a len cap, .int .i64 2] w fun e w' => e = .returned (.func (.func 265) #[] #[.pointer (some ⟨w.heap.size, 0, none⟩), .pointer (some ⟨w.heap.size + 1, 0, none⟩)]) ∧ w' = (w.alloc (.cells #[.slice a len cap] 52)).alloc (.cells #[.int .i64 2] 3) := by
 go_enter Tryz.func209, Tryz.ntmps209
 go_wp2
 go_ret
 exact ⟨by simp, rfl⟩
theorem fspec_calls {P : Program} {f : FuncId} {args : List AV} {u : Value} {W : World} {vs : Array Value} (h : FSpec P f args ⟨.val u, []⟩) (hsz : vs.size = args.length) (hv : VRs P W (allI W) noneR args (fun j => vs[j]?)) :
   Calls P f vs W fun e w' => e = .returned u ∧ Below W.heap.size W w' := by
 refine (h.2 W (allI W) vs (fun g hg => hg) hsz hv).mono fun e w' hq => ?_
 obtain ⟨v, I', ρ', he, h1, h2, h3⟩ := hq
 have hvt : v = u := by simpa only [VR] using h1
 subst hvt
 refine ⟨he, h3.os, h3.tape, h3.output, h3.size, fun k hk => h3.same k hk ?_⟩
 rintro (⟨b, kk, o, q1, q2, q3⟩ | q1)
 · simp [Mem.empty] at q1
 · exact absurd q1 empty_has
theorem check_calls {k r c w : Int} (h : mayB k r c w = true) (W : World) : Calls Tryz.prog 119 #[.agg #[.int .i64 k, .int .i64 r, .int .i64 c, .int .i64 w]] W fun e w' => e = .returned (.int .i64 0) ∧ Below W.heap.size W w' := by
 have := layout_check k r c w
 rw [h] at this
 refine fspec_calls (u := .int .i64 0) this rfl ?_
 simp only [VRs, VR]
 exact ⟨⟨_, rfl, #[.int .i64 k, .int .i64 r, .int .i64 c, .int .i64 w], rfl, rfl, fun c hc => by simp at hc; rcases hc with rfl | rfl | rfl | rfl <;> rfl, ⟨_, rfl, rfl⟩, ⟨_, rfl, rfl⟩, ⟨_, rfl, rfl⟩, ⟨_, rfl, rfl⟩, trivial⟩, trivial⟩
theorem bcell {w w1 : World} {n : Nat} (hb : Below n w w1) : (∀ b o, b < n → w1.cell? ⟨b, o, none⟩ = w.cell? ⟨b, o, none⟩) ∧ (∀ b o, b < n → w1.frozen? ⟨b, o, none⟩ = w.frozen? ⟨b, o, none⟩) :=
 ⟨fun b o h => hb.cell (p := ⟨b, o, none⟩) h, fun b o h => hb.frozen (p := ⟨b, o, none⟩) h⟩
theorem buckets_info : (Tryz.prog.info? 3).map (fun i => (i.zero, i.size, i.bytes)) = some (some (.int .i64 0), 1, 8) := by kernel_rfl
def decN (bs : List UInt8) (j : Fin 4) : Nat := (bs.getD (2 * j.1) 0).toNat * 256 + (bs.getD (2 * j.1 + 1) 0).toNat
theorem decN_all {bs : List UInt8} (h : bs.length = 8) : decI bs = (upto 4).map fun j => ((decN bs j : Nat) : Int) := by
 match bs, h with
 | [_, _, _, _, _, _, _, _], _ => rfl
theorem appended2 {W w1 : World} {n₀ n₁ B Bs Bn : Nat} {t e : TypeId} {size : Nat} {v v' : Value} {k m : Nat} {xs ys : List Value} {tmp : Obj}
   (hv : Boxed W B t v) (hte : t ≠ e) (hrow : W.ownsRow n₁ e size v k xs) (hn₁ : n₁ ≤ W.heap.size) (hn : n₀ ≤ n₁) (hB : n₀ ≤ B) (hs : Bs < n₁) (hsB : Bs ≠ B) (hnn : Bn < n₁) (hnB : Bn ≠ B)
   (hown' : w1.ownsRow n₁ e size v' m ys) (hgrow : (W.alloc tmp).grownBy w1 v.ownBlock) :
   Boxed w1 B t v ∧ Boxed (w1.setCell ⟨B, 0, none⟩ v') B t v' ∧ (w1.setCell ⟨B, 0, none⟩ v').ownsRow n₁ e size v' m ys ∧ KeepsOthers W (w1.setCell ⟨B, 0, none⟩ v') ∧ Below n₀ W (w1.setCell ⟨B, 0, none⟩ v') ∧ KP Bs Bn W (w1.setCell ⟨B, 0, none⟩ v') ∧ (∀ B' t' u, Boxed W B' t' u → B' ≠ B → t' ≠ e → Boxed (w1.setCell ⟨B, 0, none⟩ v') B' t' u) := by
 have hv1 : Boxed w1 B t v := (hv.alloc tmp).kept hgrow (hv.not_row hte hrow)
 have hlow : ∀ b, b < n₁ → b ≠ B → (w1.setCell ⟨B, 0, none⟩ v').heap[b]? = W.heap[b]? := fun b hb hbB => by
   rw [Below.heap_setCell _ _ _ b (fun e => hbB e), hgrow.block b (by simp; omega) (fun e => by have := (hrow.lt b e.symm).1; omega)]
   exact Below.heap_alloc W _ b (by omega)
 refine ⟨hv1, hv1.set v', hown'.kept (grownBy_setCell' w1 B v') (.inr (hv1.not_row hte hown').symm), ?_, ?_, ⟨hlow Bs hs hsB, hlow Bn hnn hnB⟩, fun B' t' u hu hne hte' => ((hu.alloc tmp).kept hgrow (hu.not_row hte' hrow)).other hne v'⟩
 · refine ((KeepsOthers.alloc W tmp).trans (KeepsOthers.of_grownBy hgrow fun j o ej hj => ?_)).trans (KeepsOthers.setCell _ _ _)
   rcases (hrow.alloc tmp).2 with ⟨rfl, _⟩ | ⟨g, cap, cur, rfl, _, hgb, _⟩
   · simp [Value.ownBlock] at ej
   · obtain rfl : g = j := by simpa [Value.ownBlock] using ej
     rw [hgb] at hj; cases hj; rfl
 · refine (((Below.refl n₀ W).alloc (by omega) tmp).grown hgrow (by simp; omega) fun j ej => ?_).setCell (p := ⟨B, 0, none⟩) hB v'
   have := (hrow.lt j ej).1
   omega
set_option maxRecDepth 100000 in
set_option maxHeartbeats 4000000 in
theorem buckets_in (F : Fence) (hF : Tw.Hid (F = Fence.wide)) {k r c q : Int} (hm : mayB k r c q = true) (g off cap : Nat) (hcap : 8 ≤ cap) (bs : List UInt8) (hl : bs.length = 8) (w : World) (hg : g < w.heap.size) (hcs : ∀ j, j < 8 → w.cell? ⟨g, off + j, none⟩ = some (.int .u8 (bs.getD j 0).toNat)) :
   CallsIn F 4 Tryz.prog 121 #[.agg #[.int .i64 k, .int .i64 r, .int .i64 c, .int .i64 q], .slice (some ⟨g, off, none⟩) 8 cap] w fun e W' => Below w.heap.size w W' ∧
     ((rowsOk q (decI bs) = true ∧ ∃ v, e = .returned (.tuple #[v, .int .i64 0]) ∧ W'.ownsRow w.heap.size 3 1 v 4 ((decI bs).map (Value.int .i64))) ∨
      (rowsOk q (decI bs) = false ∧ e = .returned (.tuple #[.slice none 0 0, .int .i64 220]))) := by
 obtain ⟨i0, hi, hz0, hz1, hz2⟩ := info_parts buckets_info
 have hfn : ∀ f, F.fn f := fun f => by rw [hF.out]; trivial
 have hro : F.round = none := by rw [hF.out]; rfl
 have hW : ∀ {n : Nat} {f : FuncId} {args : Array Value} {w : World} {R : Ending → World → Prop}, Calls Tryz.prog f args w R → CallsIn F n Tryz.prog f args w R := fun h => by rw [hF.out]; exact callsIn_wide.2 h
 refine callsIn_of_wp_marks Tryz.func121 rfl (hfn _) ?_ hro
 simp only [Tryz.ntmps121, List.size_toArray, List.length_cons, List.length_nil, Nat.reduceAdd, Nat.reduceSub, Array.replicate_succ, Array.replicate_zero, List.push_toArray, List.append_toArray, List.nil_append, List.cons_append]
 gi_wp2_with (first
   | (gi_at_call 119; refine (hW (check_calls hm _)).mono ?_; rintro e w1 ⟨rfl, hb1⟩; obtain ⟨hc1, hf1⟩ := bcell hb1; have hz1' := hb1.size; simp only [World.size_alloc] at hz1')
   | (gi_at_call 209; refine (hW (chunk_in _ _ _ _)).mono ?_; rintro e w2 ⟨rfl, rfl⟩))
 -- what lies where the loop begins
 obtain ⟨wp, hwp⟩ : ∃ wp, wp = w.alloc (.cells #[.int .i64 k, .int .i64 r, .int .i64 c, .int .i64 q] 23) := ⟨_, rfl⟩
 obtain ⟨w4, hw4⟩ : ∃ w4, w4 = wp.alloc (.cells #[.slice none 0 0] 41) := ⟨_, rfl⟩
 obtain ⟨w5, hw5⟩ : ∃ w5, w5 = w4.alloc (.cells #[.int .i64 0] 28) := ⟨_, rfl⟩
 obtain ⟨w7, hw7⟩ : ∃ w7, w7 = w1.alloc (.cells #[.slice none 0 0] 41) := ⟨_, rfl⟩
 obtain ⟨w8, hw8⟩ : ∃ w8, w8 = w7.alloc (.cells #[.slice (some ⟨g, off, none⟩) 8 cap] 52) := ⟨_, rfl⟩
 obtain ⟨w9, hw9⟩ : ∃ w9, w9 = w8.alloc (.cells #[.int .i64 2] 3) := ⟨_, rfl⟩
 have sp : wp.heap.size = w.heap.size + 1 := by rw [hwp]; simp
 have s4 : w4.heap.size = w.heap.size + 2 := by rw [hw4]; simp [sp]
 have s5 : w5.heap.size = w.heap.size + 3 := by rw [hw5]; simp [s4]
 have s7 : w7.heap.size = w1.heap.size + 1 := by rw [hw7]; simp
 have s8 : w8.heap.size = w1.heap.size + 2 := by rw [hw8]; simp [s7]
 have s9 : w9.heap.size = w1.heap.size + 3 := by rw [hw9]; simp [s8]
 have b4 : Boxed w4 (w.heap.size + 1) 41 (.slice none 0 0) := by have := Boxed.new wp 41 (.slice none 0 0); rw [sp, ← hw4] at this; exact this
 have b5 : Boxed w5 (w.heap.size + 2) 28 (.int .i64 0) := by have := Boxed.new w4 28 (.int .i64 0); rw [s4, ← hw5] at this; exact this
 have b7 : Boxed w7 w1.heap.size 41 (.slice none 0 0) := by have := Boxed.new w1 41 (.slice none 0 0); rw [← hw7] at this; exact this
 have b8 : Boxed w8 (w1.heap.size + 1) 52 (.slice (some ⟨g, off, none⟩) 8 cap) := by have := Boxed.new w7 52 (.slice (some ⟨g, off, none⟩) 8 cap); rw [s7, ← hw8] at this; exact this
 have b9 : Boxed w9 (w1.heap.size + 2) 3 (.int .i64 2) := by have := Boxed.new w8 3 (.int .i64 2); rw [s8, ← hw9] at this; exact this
 have bp : wp.heap[w.heap.size]? = some (.cells #[.int .i64 k, .int .i64 r, .int .i64 c, .int .i64 q] 23 (0, 0)) := by rw [hwp]; exact World.alloc_heap_new w _
 rw [← hwp, ← hw4, ← hw5] at hb1
 rw [← hw7, ← hw8, ← hw9]
 clear hc1 hf1
 rw [s5] at hb1
 have hzw : w.heap.size + 3 ≤ w1.heap.size := by rw [← s5]; exact hb1.size
 have low9 : ∀ b, b < w1.heap.size → w9.heap[b]? = w1.heap[b]? := fun b hb => by
   rw [hw9, Below.heap_alloc _ _ _ (by omega), hw8, Below.heap_alloc _ _ _ (by omega), hw7, Below.heap_alloc _ _ _ hb]
 have up9 : ∀ b, b < w.heap.size + 3 → w9.heap[b]? = w5.heap[b]? := fun b hb => (low9 b (by omega)).trans (hb1.block b hb)
 have low5 : ∀ b, b < w.heap.size → w5.heap[b]? = w.heap[b]? := fun b hb => by
   rw [hw5, Below.heap_alloc _ _ _ (by omega), hw4, Below.heap_alloc _ _ _ (by omega), hwp, Below.heap_alloc _ _ _ hb]
 have c4 : Boxed w9 (w.heap.size + 1) 41 (.slice none 0 0) := by
   show w9.heap[w.heap.size + 1]? = _
   rw [up9 _ (by omega), hw5, Below.heap_alloc _ _ _ (by omega)]; exact b4
 have c5 : Boxed w9 (w.heap.size + 2) 28 (.int .i64 0) := by
   show w9.heap[w.heap.size + 2]? = _
   rw [up9 _ (by omega)]; exact b5
 have c7 : Boxed w9 w1.heap.size 41 (.slice none 0 0) := by
   show w9.heap[w1.heap.size]? = _
   rw [hw9, Below.heap_alloc _ _ _ (by omega), hw8, Below.heap_alloc _ _ _ (by omega)]; exact b7
 have c8 : Boxed w9 (w1.heap.size + 1) 52 (.slice (some ⟨g, off, none⟩) 8 cap) := by
   show w9.heap[w1.heap.size + 1]? = _
   rw [hw9, Below.heap_alloc _ _ _ (by omega)]; exact b8
 have cp : w9.heap[w.heap.size]? = some (.cells #[.int .i64 k, .int .i64 r, .int .i64 c, .int .i64 q] 23 (0, 0)) := by
   rw [up9 _ (by omega), hw5, Below.heap_alloc _ _ _ (by omega), hw4, Below.heap_alloc _ _ _ (by omega)]; exact bp
 have hB9 : Below w.heap.size w w9 := by
   refine ⟨?_, ?_, ?_, by omega, fun b hb => (up9 b (by omega)).trans (low5 b hb)⟩
   · rw [hw9, hw8, hw7]; show w1.os = _; rw [hb1.os, hw5, hw4, hwp]; rfl
   · rw [hw9, hw8, hw7]; show w1.tape = _; rw [hb1.tape, hw5, hw4, hwp]; rfl
   · rw [hw9, hw8, hw7]; show w1.output = _; rw [hb1.output, hw5, hw4, hwp]; rfl
 have hmeas : ∀ W, Below (w.heap.size + 1) w9 W → ∀ j, (W.cell? ⟨w.heap.size, j, none⟩) = w9.cell? ⟨w.heap.size, j, none⟩ := fun W h j => cellK (h.block _ (by omega))
 have hp3 : w9.cell? ⟨w.heap.size, 3, none⟩ = some (.int .i64 q) := by simp [World.cell?, cp]
 have hst : SeqStopsK F 3 Tryz.prog 265 #[.pointer (some ⟨w1.heap.size + 1, 0, none⟩), .pointer (some ⟨w1.heap.size + 2, 0, none⟩)] (fun x : Fin 4 => #[Value.slice (some ⟨g, off + 2 * x.1, none⟩) 2 2]) (KP (w1.heap.size + 1) (w1.heap.size + 2)) (fun ys => ys = upto 4) (fun pre => ∃ k, k ≤ 4 ∧ pre = upto k) 4 w9 := by rw [hF.out]; exact chunk_stops (w1.heap.size + 1) (w1.heap.size + 2) g off cap hcap w9 c8.cell b9.cell (by omega) (by omega)
 have s9a : w9.heap.size ≤ w1.heap.size + 3 := by omega
 have s9b : w1.heap.size + 3 ≤ w9.heap.size := by omega
 clear hwp hw4 hw5 hw7 hw8 hw9 sp s4 s5 s7 s8 s9 b4 b5 b7 b8 b9 bp
 refine wpIn_rangeFunc_ownG (N := 4) hro (by omega) (gf := 265) (lb := #[.pointer (some ⟨w1.heap.size + 1, 0, none⟩), .pointer (some ⟨w1.heap.size + 2, 0, none⟩)]) rfl (hfn _) (enters_of Tryz.func265 (by kernel_rfl) rfl)
   hst KP.trans (fun W l o o' hl' _ _ _ => ⟨World.putObj_heap_other (by omega), World.putObj_heap_other (by omega)⟩) (Below.refl _ _) (fun _ => rfl)
   (fun pre W => (∃ v, Boxed W w1.heap.size 41 v ∧ W.ownsRow w9.heap.size 3 1 v pre.length (pre.map fun j => Value.int .i64 (decN bs j : Nat)) ∧ ∀ j ∈ pre, ((decN bs j : Nat) : Int) < q) ∧ ((Boxed W (w.heap.size + 1) 41 (.slice none 0 0) ∧ Boxed W (w.heap.size + 2) 28 (.int .i64 0)) ∧ Below (w.heap.size + 1) w9 W))
   (fun c pre W => (c = .ret ∧ rowsOk q (decI bs) = false) ∧ ((Boxed W (w.heap.size + 1) 41 (.slice none 0 0) ∧ Boxed W (w.heap.size + 2) 28 (.int .i64 220)) ∧ Below (w.heap.size + 1) w9 W))
   (OwnFrom.and (Own.from (holdsRow_own w9.heap.size w1.heap.size 41 3 1 (fun pre : List (Fin 4) => pre.length) (fun pre => pre.map fun j => Value.int .i64 (decN bs j : Nat)) (fun pre v => ∀ j ∈ pre, ((decN bs j : Nat) : Int) < q)) _) (OwnFrom.and (Own.from (boxed_own _ _ (fun _ => Value.slice none 0 0)) _ |>.and (Own.from (boxed_own _ _ (fun _ => Value.int .i64 0)) _)) (ownFrom_below (by omega) (by omega))))
   (fun c => OwnFrom.and (ownFrom_pure _ (fun _ => c = .ret ∧ rowsOk q (decI bs) = false)) (OwnFrom.and (Own.from (boxed_own _ _ (fun _ => Value.slice none 0 0)) _ |>.and (Own.from (boxed_own _ _ (fun _ => Value.int .i64 220)) _)) (ownFrom_below (by omega) (by omega))))
   ⟨⟨_, c7, World.ownsRow_nil _ _ _ _, fun j hj => by simp at hj⟩, ⟨c4, c5⟩, Below.refl _ _⟩
   (fun x => { tmps := #[.agg #[.int .i64 k, .int .i64 r, .int .i64 c, .int .i64 q], .slice (some ⟨g, off, none⟩) 8 cap, .pointer (some ⟨w.heap.size, 0, none⟩), undef, .pointer (some ⟨w.heap.size + 1, 0, none⟩), .pointer (some ⟨w.heap.size + 1 + 1, 0, none⟩), .int .i64 0, .pointer (some ⟨w1.heap.size, 0, none⟩), .slice (some ⟨g, off + 2 * x.1, none⟩) 2 2, undef,
       .agg #[.int .i64 k, .int .i64 r, .int .i64 c, .int .i64 q], .int .i64 0, .int .i64 0, .bool false, undef, .slice (some ⟨g, off, none⟩) 8 cap, .int .i64 8, .bool false, .slice (some ⟨g, off, none⟩) 8 cap,
       .func (.func 265) #[] #[.pointer (some ⟨w1.heap.size + 1, 0, none⟩), .pointer (some ⟨w1.heap.size + 1 + 1, 0, none⟩)], .slice (some ⟨g, off + 2 * x.1, none⟩) 2 2, undef, undef, undef, undef, undef, undef, undef, undef, undef, undef, undef, undef, undef, undef, undef, undef, undef, undef, undef], defers := [] }) ?assign ?body ?done ?stop
 case assign =>
   intro l x W K hK
   gi_wp2
   exact hK
 case body =>
   rintro l pre x W ⟨⟨v, hv, hrow, hok⟩, ⟨h4, h5⟩, hB⟩ hlt
   have hc := hv.cell
   have hq3 : W.cell? ⟨w.heap.size, 3, none⟩ = some (.int .i64 q) := (hmeas W hB 3).trans hp3
   have hgc : ∀ j, j < 8 → W.cell? ⟨g, off + j, none⟩ = some (.int .u8 (bs.getD j 0).toNat) := fun j hj => (cellK (hB.block g (by omega))).trans ((cellK ((up9 g (by omega)).trans (low5 g hg))).trans (hcs j hj))
   have hx := x.2
   have hg0 := hgc (2 * x.1) (by omega)
   have hg1 := hgc (2 * x.1 + 1) (by omega)
   rw [← Nat.add_assoc] at hg1
   obtain ⟨y1, hy1⟩ : ∃ y1, bs.getD (2 * x.1) 0 = y1 := ⟨_, rfl⟩
   obtain ⟨y2, hy2⟩ : ∃ y2, bs.getD (2 * x.1 + 1) 0 = y2 := ⟨_, rfl⟩
   have hdx : decN bs x = y1.toNat * 256 + y2.toNat := by rw [decN, hy1, hy2]
   rw [hy1] at hg0
   rw [hy2] at hg1
   have ly1 := y1.toNat_lt
   have ly2 := y2.toNat_lt
   have v1 : IntKind.i64.wrap (y1.toNat : Int) = (y1.toNat : Int) := wrap_nat (by omega)
   have v2 : IntKind.i64.wrap (y2.toNat : Int) = (y2.toNat : Int) := wrap_nat (by omega)
   have v3 : IntKind.i64.wrap ((y1.toNat : Int) * 256) = (y1.toNat : Int) * 256 := by
     have : ((y1.toNat : Int) * 256) = ((y1.toNat * 256 : Nat) : Int) := by omega
     rw [this]; exact wrap_nat (by omega)
   clear hgc hy1 hy2
   gi_wp2
   refine wpIn_round_quiet_lit hF.out (by kernel_rfl) (by kernel_rfl) (by kernel_rfl) ?_
   repeat (quiet_step (fail))
   refine wpQuiet_nil ?_
   intro _ hw'
   obtain ⟨nq, hw''⟩ := hw'
   subst hw''
   have hbits : bits .or .i64 ((y1.toNat : Int) * 256) (y2.toNat : Int) = ((decN bs x : Nat) : Int) := by
     have : ((y1.toNat : Int) * 256) = ((y1.toNat * 256 : Nat) : Int) := by omega
     rw [this, hdx]
     have h := borI_i64 (a := y1.toNat * 256) (b := y2.toNat) (by omega) (by omega)
     rw [or_add ly2] at h
     exact h
   simp only [hbits]
   have hv : Boxed (W.drewN nq) w1.heap.size 41 v := hv
   have hrow : (W.drewN nq).ownsRow w9.heap.size 3 1 v pre.length (pre.map fun j => Value.int .i64 (decN bs j : Nat)) := hrow
   have h4 : Boxed (W.drewN nq) (w.heap.size + 1) 41 (.slice none 0 0) := h4
   have h5 : Boxed (W.drewN nq) (w.heap.size + 2) 28 (.int .i64 0) := h5
   have hc : (W.drewN nq).cell? ⟨w1.heap.size, 0, none⟩ = some v := hc
   have hq3 : (W.drewN nq).cell? ⟨w.heap.size, 3, none⟩ = some (.int .i64 q) := hq3
   have hBq : Below (w.heap.size + 1) w9 (W.drewN nq) := below_drewN hB nq
   have hkq : KeepsFrom w9.heap.size W (W.drewN nq) := ⟨Nat.le_refl _, fun k o _ h _ => h⟩
   have hkp : KP (w1.heap.size + 1) (w1.heap.size + 2) W (W.drewN nq) := ⟨rfl, rfl⟩
   have hsz : w9.heap.size ≤ (W.drewN nq).heap.size := hBq.size
   generalize hD : decN bs x = d at hdx hbits
   have hdl : d < 65536 := by omega
   clear hg0 hg1 v1 v2 v3 hbits hB hmeas hdx
   replace hD := Tw.Hid.mk hD
   generalize W.drewN nq = Wq at *
   by_cases hlq : (d : Int) < q
   · have hlq' : decide (q ≤ (d : Int)) = false := by simp; omega
     gi_wp2_with (gi_at_builtin; refine wpListIn_append_own _ rfl _ _ 41 rfl w9.heap.size 3 i0 (.int .i64 0) 1 8 Tryz.underlying41 hi hz0 hz1 hz2 rfl (by decide) _ _ _ rfl (hrow.alloc _) ⟨Wq.heap.size, 0, none⟩ 1 1 [.int .i64 d] rfl rfl (cell_one_new _ _ _) (by simp [Value.oneCell']) (by unfold maxLen; omega) (by omega) (by simp; omega) ?_; intro v' wa hown' hgrow _; obtain ⟨g', cap', rfl⟩ := ownsRow_succ hown'; obtain ⟨e1, e2, e3, e4, e5, e6, e7⟩ := appended2 (n₀ := w.heap.size + 1) (Bs := w1.heap.size + 1) (Bn := w1.heap.size + 2) hv (by decide) hrow hsz (by omega) (by omega) (by omega) (by omega) (by omega) (by omega) hown' hgrow; have hc1 := e1.cell; have hf1 := e1.frozen)
     refine ⟨hkq.trans (e4.from _), hkp.trans e6, ⟨⟨_, e2, ?_, fun j hj => ?_⟩, ⟨e7 _ _ _ h4 (by omega) (by decide), e7 _ _ _ h5 (by omega) (by decide)⟩, hBq.trans e5⟩⟩
     · rw [List.length_append, List.map_append]
       simp only [List.length_cons, List.length_nil, List.map_cons, List.map_nil, hD.out]
       exact e3
     · rcases List.mem_append.1 hj with hj | hj
       · exact hok j hj
       · rw [List.mem_singleton.1 hj, hD.out]; exact hlq
   · have hlq' : q ≤ (d : Int) := by omega
     have hlq2 : decide (q ≤ (d : Int)) = true := by simpa using hlq'
     have hc4 := h4.cell
     have hf4 := h4.frozen
     have h5' := h5.other (B' := w.heap.size + 1) (by omega) (Value.slice none 0 0)
     have hc5 := h5'.cell
     have hf5 := h5'.frozen
     have hbad : rowsOk q (decI bs) = false := by
       refine rows_bad (i := x.1) (n := ((decN bs x : Nat) : Int)) ?_ (by rw [hD.out]; omega)
       rw [decN_all hl, List.getElem?_map]
       have : ∀ x : Fin 4, (upto 4)[x.1]? = some x := by decide
       rw [this x]; rfl
     replace hbad := Tw.Hid.mk hbad
     gi_wp2
     exact ⟨hkq.trans (((KeepsOthers.setCell _ _ _).trans (KeepsOthers.setCell _ _ _)).from _), ⟨rfl, hbad.out⟩, ⟨(h4.set _).other (by omega) _, h5'.set _⟩, (hBq.setCell (p := ⟨w.heap.size + 1, 0, none⟩) (by simp) _).setCell (p := ⟨w.heap.size + 1 + 1, 0, none⟩) (by simp) _⟩
 case done =>
   rintro D ys W hD rfl ⟨⟨v, hv, hrow, hok⟩, ⟨h4, h5⟩, hB⟩ hK
   have hrow : W.ownsRow w9.heap.size 3 1 v (3 + 1) ((upto 4).map fun j => Value.int .i64 (decN bs j : Nat)) := hrow
   obtain ⟨g', cap', rfl⟩ := ownsRow_succ hrow
   have hc := hv.cell
   have hc4 := h4.cell
   have hf4 := h4.frozen
   have h5' := h5.other (B' := w.heap.size + 1) (by omega) (.slice (some ⟨g', 0, none⟩) (3 + 1) cap')
   have hc5 := h5'.cell
   have hf5 := h5'.frozen
   have hgood : rowsOk q (decI bs) = true := rowsOk_of.2 fun i n hin => by
     rw [decN_all hl, List.getElem?_map] at hin
     obtain ⟨j, hj, rfl⟩ := Option.map_eq_some_iff.1 hin
     exact ⟨by omega, hok j (List.mem_of_getElem? hj)⟩
   replace hgood := Tw.Hid.mk hgood
   gi_wp2
   have hK' : ((W.setCell ⟨w.heap.size + 1, 0, none⟩ (.slice (some ⟨g', 0, none⟩) (3 + 1) cap')).setCell ⟨w.heap.size + 1 + 1, 0, none⟩ (.int .i64 0)).heap[D]? = some (.deferred (some [])) := ((KeepsOthers.setCell _ _ _).trans (KeepsOthers.setCell _ _ _)).same D _ hK rfl
   refine ⟨by simp, .inl ⟨_, _, rfl, run_takeDeferred hK', ?_⟩⟩
   have g4 := ((h4.set (.slice (some ⟨g', 0, none⟩) (3 + 1) cap')).other (B' := w.heap.size + 1 + 1) (by omega) (.int .i64 0)).cell
   have g5 := (h5'.set (.int .i64 0)).cell
   have hd4 := cell_kept g4 (grownBy_putObj' _ D (.deferred none)) (fun r e => by cases e; exact ⟨_, hK', rfl⟩)
   have hd5 := cell_kept g5 (grownBy_putObj' _ D (.deferred none)) (fun r e => by cases e; exact ⟨_, hK', rfl⟩)
   have hr1 := hrow.kept (grownBy_setCell' W (w.heap.size + 1) (.slice (some ⟨g', 0, none⟩) (3 + 1) cap')) (.inr (fun e => by have := (hrow.lt g' rfl).1; simp [Value.ownBlock] at e; omega))
   have hr2 := hr1.kept (grownBy_setCell' _ (w.heap.size + 1 + 1) (.int .i64 0)) (.inr (fun e => by have := (hrow.lt g' rfl).1; simp [Value.ownBlock] at e; omega))
   have hr3 := ownsRow_putObj hr2 (.deferred none) hK' rfl
   have hr4 : ((((W.setCell ⟨w.heap.size + 1, 0, none⟩ (.slice (some ⟨g', 0, none⟩) (3 + 1) cap')).setCell ⟨w.heap.size + 1 + 1, 0, none⟩ (.int .i64 0))).putObj D (.deferred none)).ownsRow w.heap.size 3 1 (.slice (some ⟨g', 0, none⟩) 4 cap') 4 ((decI bs).map (Value.int .i64)) := by
     refine ⟨by rw [decN_all hl]; rfl, .inr ?_⟩
     rcases hr3.2 with ⟨h, _⟩ | ⟨g2, cap2, cur, h, q1, q2, q3, q4, q5, q6⟩
     · cases h
     · refine ⟨g2, cap2, cur, h, by omega, q2, q3, q4, q5, ?_⟩
       rw [q6, decN_all hl, List.map_map]; rfl
   refine ⟨.tuple #[.slice (some ⟨g', 0, none⟩) 4 cap', .int .i64 0], ?_, (hB9.trans (((hB.setCell (p := ⟨w.heap.size + 1, 0, none⟩) (by simp) _).setCell (p := ⟨w.heap.size + 1 + 1, 0, none⟩) (by simp) _).mono (by omega))).trans (belowK_b (w := w9) (by omega) _ D _ _ (by omega) hK' rfl rfl), .inl ⟨hgood.out, _, rfl, hr4⟩⟩
   simp [results, Tryz.f121, go_sem, hd4, hd5]
 case stop =>
   rintro D c' pre W hD hpre ⟨⟨rfl, hbad⟩, ⟨h4, h5⟩, hB⟩ hK
   have hc4 := h4.cell
   have hc5 := h5.cell
   replace hbad := Tw.Hid.mk hbad
   gi_wp2
   refine ⟨by simp, .inl ⟨_, _, rfl, run_takeDeferred hK, ?_⟩⟩
   have hd4 := cell_kept hc4 (grownBy_putObj' _ D (.deferred none)) (fun r e => by cases e; exact ⟨_, hK, rfl⟩)
   have hd5 := cell_kept hc5 (grownBy_putObj' _ D (.deferred none)) (fun r e => by cases e; exact ⟨_, hK, rfl⟩)
   refine ⟨.tuple #[.slice none 0 0, .int .i64 220], ?_, (hB9.trans (hB.mono (by omega))).trans (belowK_b (w := w9) (by omega) W D _ _ (by omega) hK rfl rfl), .inr ⟨hbad.out, rfl⟩⟩
   simp [results, Tryz.f121, go_sem, hd4, hd5]
end Go.Proofs.YtaekhhlgnbhnpaaGreat
set_option maxRecDepth 10000
namespace Go.Proofs.YtaekhhlgnbhnpaaGreat
open Go Go.Tw Go.Proofs Go.Gf
def intsRes (n : Nat) (l : List Int) (e : Int) : Res := ⟨.tup [(ownR 3 n (intsA l)).v, intV e], (ownR 3 n (intsA l)).rows⟩
def bktRes (k r c w : Int) (bs : List UInt8) : Res := if bktE k r c w bs = 0 then ⟨.tup [.tree 4 4 (intsA (decI bs)) false, intV 0], []⟩ else intsRes 0 [] (bktE k r c w bs)
theorem dir_Buckets (k r c w : Int) (v : AV) (bs : List UInt8) (x : List AV) (hv : RdSl v bs.length (bytesA bs ++ x)) (hn : bs.length ≤ 1000000000000) : FSpec Tryz.prog 121 [parV k r c w, v] (bktRes k r c w bs) := by
 have hp := hv.plain
 unfold bktRes
 cases h : mayB k r c w with
 | false =>
   have he : bktE k r c w bs = 2 := by simp [bktE, h]
   rw [if_neg (by rw [he]; decide), he]
   refine fspec_of_body follows Tryz.func121 (by unfold Tryz.f121; rfl) (by unfold Tryz.f121; simp) onceA (by unfold Tryz.f121; simp) (by kernel_rfl) ?_; unfold Tryz.f121
   have me : Mem.empty.next = 0 := rfl
   simp only [↓pre, simprocAttr, parV, sx, tys121, onceA, postU, h, me, Bool.false_eq_true, allocE, storeE, Nat.zero_ne_one]; repeat' ((first | refine guard_dec (fun _ => ?_) (fun _ => ?_) | refine cond_dec (fun _ => ?_) (fun _ => ?_) | refine guard_ndec (fun _ => ?_) (fun _ => ?_) | refine cond_ndec (fun _ => ?_) (fun _ => ?_) | refine guard_split (fun _ => ?_) (fun _ => ?_) | refine cond_split (fun _ => ?_) (fun _ => ?_) | refine call_plain (layout_check _ _ _ _) (by first | rfl | simp only [parV, plQ, *]) ?_ | refine call_pure (layout_check _ _ _ _) (by first | rfl | simp only [parV, plQ, *]) (by intro k; first | rfl | simp only [sq, sr, *]) ?_) <;> simp only [↓pre, simprocAttr, parV, sx, tys121, onceA, postU, h, me, Bool.false_eq_true, allocE, storeE, Nat.zero_ne_one, *])
   rfl
 | true =>
   by_cases hl : bs.length = 8
   · have he : bktE k r c w bs = if rowsOk w (decI bs) = true then 0 else 220 := by simp [bktE, h, hl]
     refine ⟨by kernel_rfl, fun W I vs hI hsz hvs => ?_⟩
     rcases hv.form with ⟨_, h0⟩ | ⟨_, _, _, h0⟩ | ⟨cc, f, rfl, hcc⟩
     · omega
     · omega
     simp only [VRs, VR] at hvs
     obtain ⟨⟨v1, h1, ps, rfl, hps, _, ⟨p0, hp0, rfl⟩, ⟨p1, hp1, rfl⟩, ⟨p2, hp2, rfl⟩, ⟨p3, hp3, rfl⟩, _⟩, ⟨v2, h2, g, o, cap, rfl, hIg, ⟨hc1, hc2⟩, _, _, hcells⟩, _⟩ := hvs
     have hps' : ps = #[.int .i64 k, .int .i64 r, .int .i64 c, .int .i64 w] := by
       match ps, hps, hp0, hp1, hp2, hp3 with
       | ⟨[a, b, d, e]⟩, _, hp0, hp1, hp2, hp3 => simp at hp0 hp1 hp2 hp3; simp [hp0, hp1, hp2, hp3]
     subst hps'
     rw [hl] at h2 hc1
     have hvs' : vs = #[.agg #[.int .i64 k, .int .i64 r, .int .i64 c, .int .i64 w], .slice (some ⟨g, o, none⟩) 8 cap] := by
       match vs, hsz, h1, h2 with
       | ⟨[a, b]⟩, _, h1, h2 => simp at h1 h2; simp [h1, h2]
     subst hvs'
     have hcs : ∀ j, j < 8 → W.cell? ⟨g, o + j, none⟩ = some (.int .u8 (bs.getD j 0).toNat) := fun j hj => by
       have hj2 := byte_at (bs := bs) (x := x) (i := j) (a := bs.getD j 0) (by rw [List.getD_eq_getElem?_getD, List.getElem?_eq_getElem (by omega)]; rfl)
       obtain ⟨u, q1, q2⟩ := VRs_at hcells hj2
       simp only [VR] at q2
       rw [q2] at q1
       exact q1
     refine (callsIn_wide.1 (buckets_in Fence.wide ⟨rfl⟩ h g o cap (by omega) bs hl W (hI g hIg) hcs)).mono fun e W' hq => ?_
     obtain ⟨hB, hq⟩ := hq
     have hnoWr : ∀ g, ¬ Wr noneR Mem.empty g := by
       rintro g (⟨b, kk, o, q1, _⟩ | q1)
       · simp [Mem.empty] at q1
       · exact empty_has q1
     have hS : ∀ I' : Nat → Prop, (∀ g, I' g → g < W'.heap.size) → SR Tryz.prog W' I' noneR (pushAll Tryz.prog Mem.empty []) := fun I' hI' => ⟨fun b k g o h => by simp [pushAll, pushFrom, Mem.empty] at h, fun b b' k k' g o o' h => by simp [pushAll, pushFrom, Mem.empty] at h, hI', MRs.none⟩
     have hSt : ∀ I' : Nat → Prop, (∀ g, I g → I' g) → (∀ g, I' g → I g ∨ W.heap.size ≤ g) → Step W I noneR Mem.empty W' I' noneR (pushAll Tryz.prog Mem.empty []) := fun I' q1 q2 => ⟨hB.os, hB.tape, hB.output, hB.size, fun g hg _ => hB.block g hg, fun g y hy => by rw [shape_same (hB.block g (shape_lt hy))]; exact hy, q1, fun g hg => (q2 g hg).imp id .inr, fun _ _ h => h, fun b h1 h2 => absurd h1 h2, fun g hg => by
       rcases hg with ⟨b, kk, o, q1, _⟩ | q1
       · simp [pushAll, pushFrom, Mem.empty] at q1
       · exact absurd q1 empty_has, Nat.le_refl _⟩
     rcases hq with ⟨hr, v, rfl, hown⟩ | ⟨hr, rfl⟩
     · rw [if_pos (by rw [he, if_pos hr])]
       rcases hown.2 with ⟨rfl, h0⟩ | ⟨g2, cap2, cur, rfl, q1, q2, q3, q4, q5, q6⟩
       · omega
       refine ⟨_, (fun y => I y ∨ y = g2), noneR, rfl, ?_, hS _ ?_, hSt _ (fun y hy => .inl hy) ?_⟩
       · simp only [VR, VRs]
         refine ⟨_, rfl, rfl, ⟨_, rfl, g2, 0, cap2, rfl, .inr rfl, ⟨Nat.le_refl _, q3⟩, (fun h => by cases h), ?_, ?_⟩, ⟨_, rfl, rfl⟩, trivial⟩
         · intro a ha
           obtain ⟨z, _, rfl⟩ := List.mem_map.1 ha
           rfl
         · refine VRs_iff.2 fun j a hj => ?_
           unfold intsA at hj
           rw [List.getElem?_map] at hj
           obtain ⟨z, hz, rfl⟩ := Option.map_eq_some_iff.1 hj
           refine ⟨.int .i64 z, ?_, by simp only [intV, VR]⟩
           have hjl := (List.getElem?_eq_some_iff.1 hz).1
           have hdl := decI_len bs
           have h6 := congrArg (fun l : List Value => l[j]?) q6
           simp only [List.getElem?_map, hz, Option.map_some, Nat.mul_one] at h6
           rw [List.getElem?_take_of_lt (by omega), Array.getElem?_toList] at h6
           rw [Nat.zero_add, cell_of_row _ _ _ _ _ _ q2]
           exact h6
       · rintro y (hy | rfl)
         · exact Nat.lt_of_lt_of_le (hI y hy) hB.size
         · exact heap_lt q2
       · rintro y (hy | rfl)
         · exact .inl hy
         · exact .inr q1
     · have he' : bktE k r c w bs = 220 := by rw [he, hr]; rfl
       rw [if_neg (by rw [he']; decide), he']
       refine ⟨_, I, noneR, rfl, ?_, hS _ (fun y hy => Nat.lt_of_lt_of_le (hI y hy) hB.size), hSt _ (fun _ h => h) (fun _ h => .inl h)⟩
       simp only [intsRes, ownR, if_true, VR, VRs, nilS, intV]
       exact ⟨_, rfl, rfl, ⟨_, rfl, rfl⟩, ⟨_, rfl, rfl⟩, trivial⟩
   · have hl' : ¬ ((bs.length : Nat) : Int) = 8 := by omega
     have he : bktE k r c w bs = 220 := by simp [bktE, h, hl]
     replace hl := Hid.mk hl
     rw [if_neg (by rw [he]; decide), he]
     refine fspec_of_body follows Tryz.func121 (by unfold Tryz.f121; rfl) (by unfold Tryz.f121; simp) onceA (by unfold Tryz.f121; simp) (by kernel_rfl) ?_; unfold Tryz.f121
     have me : Mem.empty.next = 0 := rfl
     simp only [↓pre, simprocAttr, parV, sx, tys121, onceA, postU, h, me, hv.len', hl', allocE, storeE, Nat.zero_ne_one]; repeat' ((first | refine guard_dec (fun _ => ?_) (fun _ => ?_) | refine cond_dec (fun _ => ?_) (fun _ => ?_) | refine guard_ndec (fun _ => ?_) (fun _ => ?_) | refine cond_ndec (fun _ => ?_) (fun _ => ?_) | refine guard_split (fun _ => ?_) (fun _ => ?_) | refine cond_split (fun _ => ?_) (fun _ => ?_) | refine call_plain (layout_check _ _ _ _) (by first | rfl | simp only [parV, plQ, *]) ?_ | refine call_pure (layout_check _ _ _ _) (by first | rfl | simp only [parV, plQ, *]) (by intro k; first | rfl | simp only [sq, sr, *]) ?_) <;> simp only [↓pre, simprocAttr, parV, sx, tys121, onceA, postU, h, me, hv.len', hl', allocE, storeE, Nat.zero_ne_one, *])
     rfl
def bktV (k r c w : Int) (bs : List UInt8) : AV := if bktE k r c w bs = 0 then .tup [.tree 4 4 (intsA (decI bs)) false, intV 0] else .tup [nilS, intV (bktE k r c w bs)]
theorem dir_BucketsT (k r c w : Int) (v : AV) (bs : List UInt8) (x : List AV) (hv : RdSl v bs.length (bytesA bs ++ x)) (hn : bs.length ≤ 1000000000000) : FSpec Tryz.prog 121 [parV k r c w, v] ⟨bktV k r c w bs, []⟩ := by
 have h := dir_Buckets k r c w v bs x hv hn
 unfold bktRes at h
 unfold bktV
 split at h
 · rename_i h1
   rw [if_pos h1]
   exact h
 · rename_i h1
   rw [if_neg h1]
   exact h
theorem bkt_eight {k r c w : Int} {bs : List UInt8} (h : bktE k r c w bs = 0) : (decI bs).length = 4 := by
 rw [decI_len]
 unfold bktE at h
 split at h
 · split at h
   · omega
   · omega
 · omega
theorem rd_four {k r c w : Int} {bs : List UInt8} (h : bktE k r c w bs = 0) : RdSl (.tree 4 4 (intsA (decI bs)) false) (decI bs).length (intsA (decI bs)) := by
 rw [bkt_eight h]
 exact ⟨.inr (.inr ⟨_, _, rfl, Nat.le_refl _⟩)⟩
theorem bktV_two (k r c w : Int) (bs : List UInt8) : ∃ a, bktV k r c w bs = .tup [a, intV (bktE k r c w bs)] ∧ (∀ j, shift j a = a) ∧ fzId a := by
 unfold bktV
 split
 · rename_i h
   have := rd_four h
   rw [h]
   exact ⟨_, rfl, fun j => rd_shift this j, fzId_rd this⟩
 · exact ⟨_, rfl, fun j => rfl, fzId_val _⟩
def obyE (k r c w : Int) (L : List (List UInt8)) (row : Int) : Int := if objE k r c w L row = 0 then cutE k r c w L (objS k r c w L row) 0 (pLen (objD k r c w L row)).toNat else objE k r c w L row
def obyB (k r c w : Int) (L : List (List UInt8)) (row : Int) : List UInt8 := if obyE k r c w L row = 0 then cutB k r c w L (objS k r c w L row) 0 (pLen (objD k r c w L row)).toNat else []
theorem bytV_eq (k r c w : Int) (L : List (List UInt8)) (row : Int) : bytV k r c w L row = .tup [takA (obyB k r c w L row), intV (obyE k r c w L row)] := by
 have h0 : takA [] = nilS := rfl
 unfold obyB
 unfold bytV cutV obyE
 by_cases h : objE k r c w L row = 0
 · rw [if_pos h, if_pos h]
   by_cases h2 : cutE k r c w L (objS k r c w L row) 0 (pLen (objD k r c w L row)).toNat = 0
   · rw [if_pos h2, if_pos h2, h2]
   · rw [if_neg h2, if_neg h2, h0]
 · rw [if_neg h, if_neg h, if_neg h, h0]
theorem obyB_len (k r c w : Int) (L : List (List UInt8)) (row : Int) : (obyB k r c w L row).length ≤ 32768 := by
 unfold obyB
 split
 · rename_i h
   unfold obyE at h
   split at h
   · rename_i h2
     obtain ⟨_, _, _, _, _, hl0, hl1⟩ := obj_refs h2
     unfold cutB
     rw [tab_len]
     omega
   · contradiction
 · simp
theorem takA_rd2 (b : List UInt8) : RdSl (takA b) b.length (bytesA b ++ []) := taken_rd b
def bkE (k r c w : Int) (L : List (List UInt8)) : Int := if obyE k r c w L 0 = 0 then bktE k r c w (obyB k r c w L 0) else obyE k r c w L 0
def bkL (k r c w : Int) (L : List (List UInt8)) : List Int := decI (obyB k r c w L 0)
def bkV (k r c w : Int) (L : List (List UInt8)) : AV := if bkE k r c w L = 0 then .tup [.tree 4 4 (intsA (bkL k r c w L)) false, intV 0] else .tup [nilS, intV (bkE k r c w L)]
theorem live_Buckets (k r c w : Int) (v : AV) (L : List (List UInt8)) (cells : List AV) (hv : RowsV v L cells) : FSpec Tryz.prog 48 [imV k r c w v] ⟨bkV k r c w L, []⟩ := by
 refine fspec_fzT ?_
 have hp := hv.rd.plain
 have hf := rd_fz hv.rd
 have ho := rd_one hv.rd
 have hob := object_Bytes k r c w 0 v L cells hv
 rw [bytV_eq] at hob
 have hTr := takA_rd2 (obyB k r c w L 0)
 have hbl := obyB_len k r c w L 0
 have hdb := dir_BucketsT k r c w _ _ [] hTr (by omega)
 have p2 := hTr.plain
 have f2 := rd_fz hTr
 have o2 := rd_one hTr
 have s2 := rd_shift hTr
 unfold bkV bkE bkL
 unfold imV at hob ⊢
 simp only [intV] at hob
 generalize takA (obyB k r c w L 0) = TV at *
 replace hbl := Hid.mk hbl
 replace hTr := Hid.mk hTr
 by_cases hE : obyE k r c w L 0 = 0
 · rw [if_pos hE]
   rw [hE] at hob
   obtain ⟨a, ha, hsh, hid⟩ := bktV_two k r c w (obyB k r c w L 0)
   have hz := fun m => fzId_two hid (fzId_val (.int .i64 (bktE k r c w (obyB k r c w L 0)))) 1 m
   rw [show (if bktE k r c w (obyB k r c w L 0) = 0 then AV.tup [.tree 4 4 (intsA (decI (obyB k r c w L 0))) false, intV 0] else .tup [nilS, intV (bktE k r c w (obyB k r c w L 0))]) = bktV k r c w (obyB k r c w L 0) from rfl, ha]
   rw [ha] at hdb
   simp only [intV] at hdb
   generalize bktE k r c w (obyB k r c w L 0) = BE at *
   replace hz := Hid.mk hz
   replace ha := Hid.mk ha
   replace hE := Hid.mk hE
   refine ospec_of_body follows Tryz.func48 (by unfold Tryz.f48; rfl) (by unfold Tryz.f48; simp) onceA (by unfold Tryz.f48; simp) (by kernel_rfl) ?_; unfold Tryz.f48
   simp only [↓pre, simprocAttr, parV, sx, tys48, onceA, postU, hf, ho, f2, o2, s2, storeE, allocE, put_at, push_at, sr]
   (first | refine call_plain (hob) (by first | rfl | simp only [parV, plQ, *]) ?_ | refine call_pure (hob) (by first | rfl | simp only [parV, plQ, *]) (by intro k; first | rfl | simp only [sq, sr, *]) ?_); simp only [↓pre, simprocAttr, parV, sx, tys48, onceA, postU, hf, ho, f2, o2, s2, storeE, allocE, put_at, push_at, hsh, sr]; (first | refine call_plain (hdb) (by first | rfl | simp only [parV, plQ, *]) ?_ | refine call_pure (hdb) (by first | rfl | simp only [parV, plQ, *]) (by intro k; first | rfl | simp only [sq, sr, *]) ?_); simp only [↓pre, simprocAttr, parV, sx, tys48, onceA, postU, hf, ho, f2, o2, s2, storeE, allocE, put_at, push_at, hsh, sr]
   exact ⟨1, hz.out _⟩
 · rw [if_neg hE, if_neg hE]
   have hz := fun m => fzId_two (fzId_val (.slice none 0 0)) (fzId_val (.int .i64 (obyE k r c w L 0))) 1 m
   replace hz := Hid.mk hz
   refine ospec_of_body follows Tryz.func48 (by unfold Tryz.f48; rfl) (by unfold Tryz.f48; simp) onceA (by unfold Tryz.f48; simp) (by kernel_rfl) ?_; unfold Tryz.f48
   simp only [↓pre, simprocAttr, parV, sx, tys48, onceA, postU, hf, ho, f2, o2, s2, storeE, allocE, put_at, push_at, sr]
   (first | refine call_plain (hob) (by first | rfl | simp only [parV, plQ, *]) ?_ | refine call_pure (hob) (by first | rfl | simp only [parV, plQ, *]) (by intro k; first | rfl | simp only [sq, sr, *]) ?_); simp only [↓pre, simprocAttr, parV, sx, tys48, onceA, postU, hf, ho, f2, o2, s2, storeE, allocE, put_at, push_at, hE, sr]
   exact ⟨1, hz.out _⟩
def enP (k r c w : Int) (L : List (List UInt8)) (b : Int) : Int := if imE k r c w L = 0 then (if b < 0 ∨ 4 ≤ b then 2 else if bkE k r c w L = 0 then obyE k r c w L ((bkL k r c w L).getD b.toNat 0) else bkE k r c w L) else imE k r c w L
def enV (k r c w : Int) (L : List (List UInt8)) (b : Int) : AV := if enP k r c w L b = 0 then prsT k r c w (obyB k r c w L ((bkL k r c w L).getD b.toNat 0)) else .tup [nilS, intV (enP k r c w L b)]
theorem prsT_two (k r c w : Int) (bs : List UInt8) : ∃ a, prsT k r c w bs = .tup [a, intV (prsE k r c w bs)] ∧ (∀ j, shift j a = a) ∧ fzId a := ⟨_, rfl, fun j => shift_treeR, fzId_rd (treeR_rd _ _)⟩
theorem bk_len {k r c w : Int} {L : List (List UInt8)} (h : bkE k r c w L = 0) : (bkL k r c w L).length = 4 := by
 unfold bkE at h
 split at h
 · exact bkt_eight h
 · contradiction
theorem live_Entries (k r c w b : Int) (v : AV) (L : List (List UInt8)) (cells : List AV) (hv : RowsV v L cells) : FSpec Tryz.prog 50 [imV k r c w v, intV b] ⟨enV k r c w L b, []⟩ := by
 refine fspec_fzT ?_
 have hp := hv.rd.plain
 have hf := rd_fz hv.rd
 have ho := rd_one hv.rd
 have hck := image_Check k r c w v L cells hv
 have hbk := live_Buckets k r c w v L cells hv
 unfold enV enP
 unfold bkV at hbk
 unfold imV at hck hbk ⊢
 have hn2 := fun m (e : Int) => fzId_two (fzId_val (.slice none 0 0)) (fzId_val (.int .i64 e)) 1 m
 replace hn2 := Hid.mk hn2
 by_cases hI : imE k r c w L = 0
 · rw [hI] at hck
   simp only [if_pos hI]
   replace hI := Hid.mk hI
   by_cases h1 : b < 0
   · rw [if_pos (Or.inl h1), if_neg (by decide)]
     refine ospec_of_body follows Tryz.func50 (by unfold Tryz.f50; rfl) (by unfold Tryz.f50; simp) onceA (by unfold Tryz.f50; simp) (by kernel_rfl) ?_; unfold Tryz.f50
     simp only [↓pre, simprocAttr, parV, sx, tys50, onceA, postU, hf, ho, storeE, allocE, put_at, push_at, sr]
     (first | refine call_plain (hck) (by first | rfl | simp only [parV, plQ, *]) ?_ | refine call_pure (hck) (by first | rfl | simp only [parV, plQ, *]) (by intro k; first | rfl | simp only [sq, sr, *]) ?_); simp only [↓pre, simprocAttr, parV, sx, tys50, onceA, postU, hf, ho, storeE, allocE, put_at, push_at, h1, sr]
     exact ⟨1, hn2.out _ _⟩
   · by_cases h2 : 4 ≤ b
     · rw [if_pos (Or.inr h2), if_neg (by decide)]
       refine ospec_of_body follows Tryz.func50 (by unfold Tryz.f50; rfl) (by unfold Tryz.f50; simp) onceA (by unfold Tryz.f50; simp) (by kernel_rfl) ?_; unfold Tryz.f50
       simp only [↓pre, simprocAttr, parV, sx, tys50, onceA, postU, hf, ho, storeE, allocE, put_at, push_at, sr]
       (first | refine call_plain (hck) (by first | rfl | simp only [parV, plQ, *]) ?_ | refine call_pure (hck) (by first | rfl | simp only [parV, plQ, *]) (by intro k; first | rfl | simp only [sq, sr, *]) ?_); simp only [↓pre, simprocAttr, parV, sx, tys50, onceA, postU, hf, ho, storeE, allocE, put_at, push_at, h1, h2, sr]
       exact ⟨1, hn2.out _ _⟩
     · simp only [if_neg (show ¬ (b < 0 ∨ 4 ≤ b) by omega)]
       by_cases hB : bkE k r c w L = 0
       · rw [if_pos hB] at hbk
         simp only [if_pos hB]
         obtain ⟨i, rfl⟩ : ∃ i : Nat, b = (i : Int) := ⟨b.toNat, by omega⟩
         rw [Int.toNat_natCast]
         have hil : i < 4 := by omega
         have hbl := bk_len hB
         obtain ⟨n, hn⟩ : ∃ n, (bkL k r c w L)[i]? = some n := ⟨_, List.getElem?_eq_getElem (by omega)⟩
         have hn1 : (bkL k r c w L).getD i 0 = n := by rw [List.getD_eq_getElem?_getD, hn]; rfl
         rw [hn1]
         have hR4 : RdSl (.tree 4 4 (intsA (bkL k r c w L)) false) 4 (intsA (bkL k r c w L)) := ⟨.inr (.inr ⟨_, _, rfl, Nat.le_refl _⟩)⟩
         have a1 := int_at (x := []) hn
         rw [List.append_nil] at a1
         have p4 := hR4.plain
         have f4 := rd_fz hR4
         have o4 := rd_one hR4
         have s4 := rd_shift hR4
         have l4 := fun P t => hR4.len' (P := P) (t := t)
         have d4 := fun P t k => hR4.addr' (P := P) (t := t) (k := k)
         generalize AV.tree 4 4 (intsA (bkL k r c w L)) false = RV at *
         generalize intsA (bkL k r c w L) = RC at *
         have hob := object_Bytes k r c w n v L cells hv
         rw [bytV_eq] at hob
         have hTr := takA_rd2 (obyB k r c w L n)
         have hol := obyB_len k r c w L n
         have hdp := dir_ParseT k r c w _ _ [] hTr (by omega)
         have p2 := hTr.plain
         have f2 := rd_fz hTr
         have o2 := rd_one hTr
         have s2 := rd_shift hTr
         unfold imV at hob
         simp only [intV] at hob hbk
         generalize takA (obyB k r c w L n) = TV at *
         replace hbl := Hid.mk hbl
         replace hn := Hid.mk hn
         replace hn1 := Hid.mk hn1
         replace hB := Hid.mk hB
         replace hR4 := Hid.mk hR4
         replace hol := Hid.mk hol
         replace hTr := Hid.mk hTr
         by_cases hE : obyE k r c w L n = 0
         · rw [if_pos hE]
           rw [hE] at hob
           obtain ⟨a, ha, hsh, hid⟩ := prsT_two k r c w (obyB k r c w L n)
           have hz := fun m => fzId_two hid (fzId_val (.int .i64 (prsE k r c w (obyB k r c w L n)))) 1 m
           rw [ha]
           rw [ha] at hdp
           simp only [intV] at hdp
           generalize prsE k r c w (obyB k r c w L n) = PE at *
           replace hz := Hid.mk hz
           replace ha := Hid.mk ha
           replace hE := Hid.mk hE
           refine ospec_of_body follows Tryz.func50 (by unfold Tryz.f50; rfl) (by unfold Tryz.f50; simp) onceA (by unfold Tryz.f50; simp) (by kernel_rfl) ?_; unfold Tryz.f50
           simp only [↓pre, simprocAttr, parV, sx, tys50, onceA, postU, hf, ho, storeE, allocE, put_at, push_at, sr]
           (first | refine call_plain (hck) (by first | rfl | simp only [parV, plQ, *]) ?_ | refine call_pure (hck) (by first | rfl | simp only [parV, plQ, *]) (by intro k; first | rfl | simp only [sq, sr, *]) ?_); simp only [↓pre, simprocAttr, parV, sx, tys50, onceA, postU, hf, ho, storeE, allocE, put_at, push_at, h1, h2, hil, a1, f2, o2, s2, f4, o4, s4, l4, d4, hsh, sr]; (first | refine call_plain (hbk) (by first | rfl | simp only [parV, plQ, *]) ?_ | refine call_pure (hbk) (by first | rfl | simp only [parV, plQ, *]) (by intro k; first | rfl | simp only [sq, sr, *]) ?_); simp only [↓pre, simprocAttr, parV, sx, tys50, onceA, postU, hf, ho, storeE, allocE, put_at, push_at, h1, h2, hil, a1, f2, o2, s2, f4, o4, s4, l4, d4, hsh, sr]; (first | refine call_plain (hob) (by first | rfl | simp only [parV, plQ, *]) ?_ | refine call_pure (hob) (by first | rfl | simp only [parV, plQ, *]) (by intro k; first | rfl | simp only [sq, sr, *]) ?_); simp only [↓pre, simprocAttr, parV, sx, tys50, onceA, postU, hf, ho, storeE, allocE, put_at, push_at, h1, h2, hil, a1, f2, o2, s2, f4, o4, s4, l4, d4, hsh, sr]; (first | refine call_plain (hdp) (by first | rfl | simp only [parV, plQ, *]) ?_ | refine call_pure (hdp) (by first | rfl | simp only [parV, plQ, *]) (by intro k; first | rfl | simp only [sq, sr, *]) ?_); simp only [↓pre, simprocAttr, parV, sx, tys50, onceA, postU, hf, ho, storeE, allocE, put_at, push_at, h1, h2, hil, a1, f2, o2, s2, f4, o4, s4, l4, d4, hsh, sr]
           exact ⟨1, hz.out _⟩
         · rw [if_neg hE]
           refine ospec_of_body follows Tryz.func50 (by unfold Tryz.f50; rfl) (by unfold Tryz.f50; simp) onceA (by unfold Tryz.f50; simp) (by kernel_rfl) ?_; unfold Tryz.f50
           simp only [↓pre, simprocAttr, parV, sx, tys50, onceA, postU, hf, ho, storeE, allocE, put_at, push_at, sr]
           (first | refine call_plain (hck) (by first | rfl | simp only [parV, plQ, *]) ?_ | refine call_pure (hck) (by first | rfl | simp only [parV, plQ, *]) (by intro k; first | rfl | simp only [sq, sr, *]) ?_); simp only [↓pre, simprocAttr, parV, sx, tys50, onceA, postU, hf, ho, storeE, allocE, put_at, push_at, h1, h2, hil, a1, f2, o2, s2, f4, o4, s4, l4, d4, hE, sr]; (first | refine call_plain (hbk) (by first | rfl | simp only [parV, plQ, *]) ?_ | refine call_pure (hbk) (by first | rfl | simp only [parV, plQ, *]) (by intro k; first | rfl | simp only [sq, sr, *]) ?_); simp only [↓pre, simprocAttr, parV, sx, tys50, onceA, postU, hf, ho, storeE, allocE, put_at, push_at, h1, h2, hil, a1, f2, o2, s2, f4, o4, s4, l4, d4, hE, sr]; (first | refine call_plain (hob) (by first | rfl | simp only [parV, plQ, *]) ?_ | refine call_pure (hob) (by first | rfl | simp only [parV, plQ, *]) (by intro k; first | rfl | simp only [sq, sr, *]) ?_); simp only [↓pre, simprocAttr, parV, sx, tys50, onceA, postU, hf, ho, storeE, allocE, put_at, push_at, h1, h2, hil, a1, f2, o2, s2, f4, o4, s4, l4, d4, hE, sr]
           exact ⟨1, hn2.out _ _⟩
       · rw [if_neg hB] at hbk
         simp only [if_neg hB]
         unfold nilS at hbk
         simp only [intV] at hbk
         refine ospec_of_body follows Tryz.func50 (by unfold Tryz.f50; rfl) (by unfold Tryz.f50; simp) onceA (by unfold Tryz.f50; simp) (by kernel_rfl) ?_; unfold Tryz.f50
         simp only [↓pre, simprocAttr, parV, sx, tys50, onceA, postU, hf, ho, storeE, allocE, put_at, push_at, sr]
         (first | refine call_plain (hck) (by first | rfl | simp only [parV, plQ, *]) ?_ | refine call_pure (hck) (by first | rfl | simp only [parV, plQ, *]) (by intro k; first | rfl | simp only [sq, sr, *]) ?_); simp only [↓pre, simprocAttr, parV, sx, tys50, onceA, postU, hf, ho, storeE, allocE, put_at, push_at, h1, h2, hB, sr]; (first | refine call_plain (hbk) (by first | rfl | simp only [parV, plQ, *]) ?_ | refine call_pure (hbk) (by first | rfl | simp only [parV, plQ, *]) (by intro k; first | rfl | simp only [sq, sr, *]) ?_); simp only [↓pre, simprocAttr, parV, sx, tys50, onceA, postU, hf, ho, storeE, allocE, put_at, push_at, h1, h2, hB, sr]
         exact ⟨1, hn2.out _ _⟩
 · simp only [if_neg hI]
   refine ospec_of_body follows Tryz.func50 (by unfold Tryz.f50; rfl) (by unfold Tryz.f50; simp) onceA (by unfold Tryz.f50; simp) (by kernel_rfl) ?_; unfold Tryz.f50
   simp only [↓pre, simprocAttr, parV, sx, tys50, onceA, postU, hf, ho, storeE, allocE, put_at, push_at, sr]
   (first | refine call_plain (hck) (by first | rfl | simp only [parV, plQ, *]) ?_ | refine call_pure (hck) (by first | rfl | simp only [parV, plQ, *]) (by intro k; first | rfl | simp only [sq, sr, *]) ?_); simp only [↓pre, simprocAttr, parV, sx, tys50, onceA, postU, hf, ho, storeE, allocE, put_at, push_at, hI, sr]
   exact ⟨1, hn2.out _ _⟩
def sumB (l : List UInt8) : Nat := (l.map UInt8.toNat).sum
theorem sumB_le (l : List UInt8) : sumB l ≤ l.length * 255 := by
 induction l with
 | nil => exact Nat.le_refl _
 | cons a l ih =>
   have := a.toNat_lt
   simp only [sumB, List.map_cons, List.sum_cons, List.length_cons] at ih ⊢
   omega
theorem sumB_take {l : List UInt8} {i : Nat} {a : UInt8} (h : l[i]? = some a) : sumB (l.take (i + 1)) = sumB (l.take i) + a.toNat := by
 unfold sumB
 rw [List.take_add_one, h]
 simp
def buN (s : ByteArray) : Nat := sumB s.data.toList % 4
theorem convT (d : Bool) (m : Mem) (s : ByteArray) : convX Tryz.prog d true m 9 52 (.val (.string s)) = some ⟨.tree s.data.toList.length s.data.toList.length (bytesA s.data.toList) false, m, none⟩ := by
 rw [convX_t (by kernel_rfl) (by kernel_rfl) (by kernel_rfl) (by kernel_rfl)]
 rw [show s.data.toList.length = s.size by cases s; simp [ByteArray.size]]
 rfl
theorem name_Bucket (s : ByteArray) (hs : s.size ≤ 1000000000000000) : FSpec Tryz.prog 56 [strV s] ⟨.tup [intV (if nameOk s then (buN s : Nat) else 0), intV (if nameOk s then 0 else 6)], []⟩ := by
 have h1 := name_check s hs
 cases hn : nameOk s with
 | false =>
   rw [hn] at h1
   refine fspec_of_body follows Tryz.func56 (by unfold Tryz.f56; rfl) (by unfold Tryz.f56; simp) onceA (by unfold Tryz.f56; simp) (by kernel_rfl) ?_; unfold Tryz.f56
   simp only [↓pre, simprocAttr, parV, sx, tys56, onceA, postU, sr]
   (first | refine call_plain (h1) (by first | rfl | simp only [parV, plQ, *]) ?_ | refine call_pure (h1) (by first | rfl | simp only [parV, plQ, *]) (by intro k; first | rfl | simp only [sq, sr, *]) ?_); simp only [↓pre, simprocAttr, parV, sx, tys56, onceA, postU, Bool.false_eq_true, sr]
 | true =>
   rw [hn] at h1
   have hl : s.data.toList.length = s.size := by cases s; simp [ByteArray.size]
   have hcv := fun d m => convT d m s
   unfold buN
   generalize s.data.toList = l at *
   have hv : RdSl (.tree l.length l.length (bytesA l) false) l.length (bytesA l ++ []) := ⟨.inr (.inr ⟨_, _, by rw [List.append_nil], Nat.le_refl _⟩)⟩
   refine fspec_of_body follows Tryz.func56 (by unfold Tryz.f56; rfl) (by unfold Tryz.f56; simp) onceA (by unfold Tryz.f56; simp) (by kernel_rfl) ?_; unfold Tryz.f56
   simp only [↓pre, simprocAttr, parV, sx, tys56, onceA, postU, sr]
   generalize hV : AV.tree l.length l.length (bytesA l) false = V at *
   replace hV := Hid.mk hV
   (first | refine call_plain (h1) (by first | rfl | simp only [parV, plQ, *]) ?_ | refine call_pure (h1) (by first | rfl | simp only [parV, plQ, *]) (by intro k; first | rfl | simp only [sq, sr, *]) ?_); simp only [↓pre, simprocAttr, parV, sx, tys56, onceA, postU, hcv, hv.len', sr]
   rw [codeW_loop]
   refine loop_intro (fun q e m => ∃ i, q + i = l.length ∧ e 14 = V ∧ e 15 = intV (l.length : Nat) ∧ e 16 = intV (i : Nat) ∧ e 5 = intV (sumB (l.take i) : Nat)) l.length ⟨0, by omega, rfl, rfl, rfl, rfl⟩ ?_
   rintro q e m ⟨i, hq, e14, e15, e16, e5⟩
   have hlen : l.length ≤ 24 := by
     unfold nameOk at hn
     rw [decide_eq_true_eq] at hn
     omega
   by_cases hlt : i < l.length
   · have hlt' : ((i : Nat) : Int) < ((l.length : Nat) : Int) := by omega
     obtain ⟨a, ha⟩ : ∃ a, l[i]? = some a := ⟨_, List.getElem?_eq_getElem hlt⟩
     have hba := byte_at (x := []) ha
     rw [List.append_nil] at hba
     have w0 := wrap_succ (n := i) (by omega)
     have hal := a.toNat_lt
     have hst := sumB_take ha
     have hsl := sumB_le (l.take i)
     have htl : (l.take i).length ≤ 24 := by rw [List.length_take]; omega
     have w1 : IntKind.i64.wrap (a.toNat : Int) = (a.toNat : Int) := wrap_nat (by omega)
     have w2 : IntKind.i64.wrap ((sumB (l.take i) : Int) + (a.toNat : Int)) = (sumB (l.take (i + 1)) : Int) := by
       rw [show (sumB (l.take i) : Int) + (a.toNat : Int) = ((sumB (l.take (i + 1)) : Nat) : Int) by omega]
       exact wrap_nat (by omega)
     replace ha := Hid.mk ha
     replace hst := Hid.mk hst
     simp only [↓pre, simprocAttr, parV, sx, tys56, onceA, postU, postV, e14, e15, e16, e5, hlt', hlt, hv.addr', hba, w0, w1, w2, sr]
     exact ⟨q - 1, by omega, i + 1, by omega, rfl, rfl⟩
   · have hlt' : ¬ ((i : Nat) : Int) < ((l.length : Nat) : Int) := by omega
     have hli : l.take i = l := List.take_of_length_le (by omega)
     have hm : (sumB l : Int).tmod 4 = ((sumB l % 4 : Nat) : Int) := by rw [Int.tmod_eq_emod_of_nonneg (by omega)]; omega
     have w3 : IntKind.i64.wrap ((sumB l % 4 : Nat) : Int) = ((sumB l % 4 : Nat) : Int) := wrap_nat (by omega)
     rw [hli] at e5
     replace hli := Hid.mk hli
     simp only [↓pre, simprocAttr, parV, sx, tys56, onceA, postU, e14, e15, e16, e5, hlt', hm, w3, sr]
def enE (k r c w : Int) (L : List (List UInt8)) (b : Int) : Int := if enP k r c w L b = 0 then prsE k r c w (obyB k r c w L ((bkL k r c w L).getD b.toNat 0)) else enP k r c w L b
def enL (k r c w : Int) (L : List (List UInt8)) (b : Int) : List Ent := prsL (obyB k r c w L ((bkL k r c w L).getD b.toNat 0))
theorem enV_eq (k r c w : Int) (L : List (List UInt8)) (b : Int) : enV k r c w L b = .tup [treeR (if enE k r c w L b = 0 then enL k r c w L b else []).length (entCells (if enE k r c w L b = 0 then enL k r c w L b else [])), intV (enE k r c w L b)] := by
 unfold enV enE enL
 split
 · rfl
 · rfl
theorem prs_ok {k r c w : Int} {bs : List UInt8} (h : prsE k r c w bs = 0) : mayB k r c w = true ∧ (bs.length : Int) ≤ mI k c ∧ entsOk w (prsL bs) = true ∧ longN (prsL bs) = bs.length := by
 unfold prsE at h
 split at h
 · rename_i h1
   split at h
   · omega
   · rename_i h2
     unfold prsL
     split at h
     · rename_i l hl
       rw [hl]
       split at h
       · rename_i h3
         exact ⟨h1, by omega, h3, parse_long hl⟩
       · omega
     · omega
 · omega
theorem en_ok {k r c w : Int} {L : List (List UInt8)} {b : Int} (h : enE k r c w L b = 0) : imE k r c w L = 0 ∧ 0 ≤ b ∧ b < 4 ∧ bkE k r c w L = 0 ∧ entsOk w (enL k r c w L b) = true ∧ longN (enL k r c w L b) ≤ 32768 ∧ chk k r c w (enL k r c w L b) = 0 := by
 unfold enE at h
 split at h
 · rename_i h1
   obtain ⟨g1, g2, g3, g4⟩ := prs_ok h
   have hl := obyB_len k r c w L ((bkL k r c w L).getD b.toNat 0)
   unfold enP at h1
   split at h1
   · rename_i h2
     split at h1
     · omega
     · split at h1
       · rename_i h3
         refine ⟨h2, by omega, by omega, h3, g3, by unfold enL; omega, ?_⟩
         unfold enL chk
         rw [if_pos g1, if_pos g3, if_neg (by omega)]
       · contradiction
   · contradiction
 · contradiction
def fiE (k r c w : Int) (L : List (List UInt8)) (s : ByteArray) : Int := if imE k r c w L = 0 then (if nameOk s = true then (if bkE k r c w L = 0 then enE k r c w L (buN s : Nat) else bkE k r c w L) else 6) else imE k r c w L
def fiV (k r c w : Int) (L : List (List UInt8)) (s : ByteArray) : AV := if fiE k r c w L s = 0 then .tup [intV (if isL (enL k r c w L (buN s : Nat)) s = true then rowOf (enL k r c w L (buN s : Nat)) s else 0), intV ((bkL k r c w L).getD (buN s) 0), boolV (isL (enL k r c w L (buN s : Nat)) s), intV 0] else .tup [intV 0, intV 0, boolV false, intV (fiE k r c w L s)]
theorem bu_lt (s : ByteArray) : buN s < 4 := Nat.mod_lt _ (by decide)
theorem live_Find (k r c w : Int) (v : AV) (L : List (List UInt8)) (cells : List AV) (hv : RowsV v L cells) (s : ByteArray) (hs : s.size ≤ 1000000000000000) : FSpec Tryz.prog 52 [imV k r c w v, strV s] ⟨fiV k r c w L s, []⟩ := by
 have hp := hv.rd.plain
 have hf := rd_fz hv.rd
 have ho := rd_one hv.rd
 have hck := image_Check k r c w v L cells hv
 have hnb := name_Bucket s hs
 have hbk := live_Buckets k r c w v L cells hv
 have hen := live_Entries k r c w (buN s : Nat) v L cells hv
 have hbu := bu_lt s
 rw [enV_eq] at hen
 unfold fiV fiE
 unfold bkV at hbk
 unfold imV at hck hbk hen ⊢
 by_cases hI : imE k r c w L = 0
 · rw [hI] at hck
   simp only [if_pos hI]
   cases hn : nameOk s with
   | false =>
     rw [hn] at hnb
     simp only [Bool.false_eq_true, if_false] at hnb ⊢
     rw [if_neg (by decide)]
     replace hI := Hid.mk hI
     refine fspec_of_body follows Tryz.func52 (by unfold Tryz.f52; rfl) (by unfold Tryz.f52; simp) onceA (by unfold Tryz.f52; simp) (by kernel_rfl) ?_; unfold Tryz.f52
     simp only [↓pre, simprocAttr, parV, sx, tys52, onceA, postU, hf, ho, storeE, allocE, put_at, push_at, sr]
     (first | refine call_plain (hck) (by first | rfl | simp only [parV, plQ, *]) ?_ | refine call_pure (hck) (by first | rfl | simp only [parV, plQ, *]) (by intro k; first | rfl | simp only [sq, sr, *]) ?_); simp only [↓pre, simprocAttr, parV, sx, tys52, onceA, postU, hf, ho, storeE, allocE, put_at, push_at, sr]; (first | refine call_plain (hnb) (by first | rfl | simp only [parV, plQ, *]) ?_ | refine call_pure (hnb) (by first | rfl | simp only [parV, plQ, *]) (by intro k; first | rfl | simp only [sq, sr, *]) ?_); simp only [↓pre, simprocAttr, parV, sx, tys52, onceA, postU, hf, ho, storeE, allocE, put_at, push_at, sr]
   | true =>
     rw [hn] at hnb
     simp only [if_true] at hnb ⊢
     by_cases hB : bkE k r c w L = 0
     · rw [if_pos hB] at hbk
       simp only [if_pos hB]
       obtain ⟨n, hn1⟩ : ∃ n, (bkL k r c w L)[buN s]? = some n := ⟨_, List.getElem?_eq_getElem (by rw [bk_len hB]; exact hbu)⟩
       have hn2 : (bkL k r c w L).getD (buN s) 0 = n := by rw [List.getD_eq_getElem?_getD, hn1]; rfl
       rw [hn2]
       have hR4 : RdSl (.tree 4 4 (intsA (bkL k r c w L)) false) 4 (intsA (bkL k r c w L)) := ⟨.inr (.inr ⟨_, _, rfl, Nat.le_refl _⟩)⟩
       have a1 := int_at (x := []) hn1
       rw [List.append_nil] at a1
       have p4 := hR4.plain
       have f4 := rd_fz hR4
       have o4 := rd_one hR4
       have s4 := rd_shift hR4
       have l4 := fun P t => hR4.len' (P := P) (t := t)
       have d4 := fun P t k => hR4.addr' (P := P) (t := t) (k := k)
       generalize AV.tree 4 4 (intsA (bkL k r c w L)) false = RV at *
       generalize intsA (bkL k r c w L) = RC at *
       simp only [intV] at hbk hnb
       replace hI := Hid.mk hI
       replace hB := Hid.mk hB
       replace hn1 := Hid.mk hn1
       replace hn2 := Hid.mk hn2
       by_cases hE : enE k r c w L (buN s : Nat) = 0
       · rw [if_pos hE]
         simp only [if_pos hE] at hen
         obtain ⟨_, _, _, _, _, h5, h6⟩ := en_ok hE
         have hdf := dir_Find k r c w _ (enL k r c w L (buN s : Nat)) [] s (by rw [List.append_nil]; exact treeR_rd _ _) (by omega) (by have := long_num (enL k r c w L (buN s : Nat)); omega) hs
         have hnm : namedE k r c w (enL k r c w L (buN s : Nat)) s = 0 := by unfold namedE; rw [if_pos h6, hn, if_pos rfl]
         unfold findT at hdf
         rw [if_pos hnm] at hdf
         rw [hE] at hen
         have hTr := treeR_rd (enL k r c w L (buN s : Nat)).length (entCells (enL k r c w L (buN s : Nat)))
         have p2 := hTr.plain
         have f2 := rd_fz hTr
         have o2 := rd_one hTr
         have s2 := rd_shift hTr
         generalize treeR (enL k r c w L (buN s : Nat)).length (entCells (enL k r c w L (buN s : Nat))) = TV at *
         replace hTr := Hid.mk hTr
         replace hE := Hid.mk hE
         replace hnm := Hid.mk hnm
         replace h5 := Hid.mk h5
         replace h6 := Hid.mk h6
         generalize enL k r c w L (buN s : Nat) = EL at *
         simp only [intV] at hen
         cases hq : isL EL s with
         | true =>
           rw [hq] at hdf
           simp only [if_true] at hdf ⊢
           refine fspec_of_body follows Tryz.func52 (by unfold Tryz.f52; rfl) (by unfold Tryz.f52; simp) onceA (by unfold Tryz.f52; simp) (by kernel_rfl) ?_; unfold Tryz.f52
           simp only [↓pre, simprocAttr, parV, sx, tys52, onceA, postU, hf, ho, storeE, allocE, put_at, push_at, sr]
           (first | refine call_plain (hck) (by first | rfl | simp only [parV, plQ, *]) ?_ | refine call_pure (hck) (by first | rfl | simp only [parV, plQ, *]) (by intro k; first | rfl | simp only [sq, sr, *]) ?_); simp only [↓pre, simprocAttr, parV, sx, tys52, onceA, postU, hf, ho, storeE, allocE, put_at, push_at, f2, o2, s2, f4, o4, s4, l4, d4, a1, hbu, sr]; (first | refine call_plain (hnb) (by first | rfl | simp only [parV, plQ, *]) ?_ | refine call_pure (hnb) (by first | rfl | simp only [parV, plQ, *]) (by intro k; first | rfl | simp only [sq, sr, *]) ?_); simp only [↓pre, simprocAttr, parV, sx, tys52, onceA, postU, hf, ho, storeE, allocE, put_at, push_at, f2, o2, s2, f4, o4, s4, l4, d4, a1, hbu, sr]; (first | refine call_plain (hbk) (by first | rfl | simp only [parV, plQ, *]) ?_ | refine call_pure (hbk) (by first | rfl | simp only [parV, plQ, *]) (by intro k; first | rfl | simp only [sq, sr, *]) ?_); simp only [↓pre, simprocAttr, parV, sx, tys52, onceA, postU, hf, ho, storeE, allocE, put_at, push_at, f2, o2, s2, f4, o4, s4, l4, d4, a1, hbu, sr]; (first | refine call_plain (hen) (by first | rfl | simp only [parV, plQ, *]) ?_ | refine call_pure (hen) (by first | rfl | simp only [parV, plQ, *]) (by intro k; first | rfl | simp only [sq, sr, *]) ?_); simp only [↓pre, simprocAttr, parV, sx, tys52, onceA, postU, hf, ho, storeE, allocE, put_at, push_at, f2, o2, s2, f4, o4, s4, l4, d4, a1, hbu, sr]; (first | refine call_plain (hdf) (by first | rfl | simp only [parV, plQ, *]) ?_ | refine call_pure (hdf) (by first | rfl | simp only [parV, plQ, *]) (by intro k; first | rfl | simp only [sq, sr, *]) ?_); simp only [↓pre, simprocAttr, parV, sx, tys52, onceA, postU, hf, ho, storeE, allocE, put_at, push_at, f2, o2, s2, f4, o4, s4, l4, d4, a1, hbu, sr]
         | false =>
           rw [hq] at hdf
           simp only [Bool.false_eq_true, if_false] at hdf ⊢
           refine fspec_of_body follows Tryz.func52 (by unfold Tryz.f52; rfl) (by unfold Tryz.f52; simp) onceA (by unfold Tryz.f52; simp) (by kernel_rfl) ?_; unfold Tryz.f52
           simp only [↓pre, simprocAttr, parV, sx, tys52, onceA, postU, hf, ho, storeE, allocE, put_at, push_at, sr]
           (first | refine call_plain (hck) (by first | rfl | simp only [parV, plQ, *]) ?_ | refine call_pure (hck) (by first | rfl | simp only [parV, plQ, *]) (by intro k; first | rfl | simp only [sq, sr, *]) ?_); simp only [↓pre, simprocAttr, parV, sx, tys52, onceA, postU, hf, ho, storeE, allocE, put_at, push_at, f2, o2, s2, f4, o4, s4, l4, d4, a1, hbu, sr]; (first | refine call_plain (hnb) (by first | rfl | simp only [parV, plQ, *]) ?_ | refine call_pure (hnb) (by first | rfl | simp only [parV, plQ, *]) (by intro k; first | rfl | simp only [sq, sr, *]) ?_); simp only [↓pre, simprocAttr, parV, sx, tys52, onceA, postU, hf, ho, storeE, allocE, put_at, push_at, f2, o2, s2, f4, o4, s4, l4, d4, a1, hbu, sr]; (first | refine call_plain (hbk) (by first | rfl | simp only [parV, plQ, *]) ?_ | refine call_pure (hbk) (by first | rfl | simp only [parV, plQ, *]) (by intro k; first | rfl | simp only [sq, sr, *]) ?_); simp only [↓pre, simprocAttr, parV, sx, tys52, onceA, postU, hf, ho, storeE, allocE, put_at, push_at, f2, o2, s2, f4, o4, s4, l4, d4, a1, hbu, sr]; (first | refine call_plain (hen) (by first | rfl | simp only [parV, plQ, *]) ?_ | refine call_pure (hen) (by first | rfl | simp only [parV, plQ, *]) (by intro k; first | rfl | simp only [sq, sr, *]) ?_); simp only [↓pre, simprocAttr, parV, sx, tys52, onceA, postU, hf, ho, storeE, allocE, put_at, push_at, f2, o2, s2, f4, o4, s4, l4, d4, a1, hbu, sr]; (first | refine call_plain (hdf) (by first | rfl | simp only [parV, plQ, *]) ?_ | refine call_pure (hdf) (by first | rfl | simp only [parV, plQ, *]) (by intro k; first | rfl | simp only [sq, sr, *]) ?_); simp only [↓pre, simprocAttr, parV, sx, tys52, onceA, postU, hf, ho, storeE, allocE, put_at, push_at, f2, o2, s2, f4, o4, s4, l4, d4, a1, hbu, sr]
       · rw [if_neg hE]
         simp only [if_neg hE] at hen
         rw [show treeR ([] : List Ent).length (entCells []) = nilS from rfl] at hen
         unfold nilS at hen
         simp only [intV] at hen
         refine fspec_of_body follows Tryz.func52 (by unfold Tryz.f52; rfl) (by unfold Tryz.f52; simp) onceA (by unfold Tryz.f52; simp) (by kernel_rfl) ?_; unfold Tryz.f52
         simp only [↓pre, simprocAttr, parV, sx, tys52, onceA, postU, hf, ho, storeE, allocE, put_at, push_at, sr]
         (first | refine call_plain (hck) (by first | rfl | simp only [parV, plQ, *]) ?_ | refine call_pure (hck) (by first | rfl | simp only [parV, plQ, *]) (by intro k; first | rfl | simp only [sq, sr, *]) ?_); simp only [↓pre, simprocAttr, parV, sx, tys52, onceA, postU, hf, ho, storeE, allocE, put_at, push_at, f4, o4, s4, l4, d4, a1, hbu, hE, sr]; (first | refine call_plain (hnb) (by first | rfl | simp only [parV, plQ, *]) ?_ | refine call_pure (hnb) (by first | rfl | simp only [parV, plQ, *]) (by intro k; first | rfl | simp only [sq, sr, *]) ?_); simp only [↓pre, simprocAttr, parV, sx, tys52, onceA, postU, hf, ho, storeE, allocE, put_at, push_at, f4, o4, s4, l4, d4, a1, hbu, hE, sr]; (first | refine call_plain (hbk) (by first | rfl | simp only [parV, plQ, *]) ?_ | refine call_pure (hbk) (by first | rfl | simp only [parV, plQ, *]) (by intro k; first | rfl | simp only [sq, sr, *]) ?_); simp only [↓pre, simprocAttr, parV, sx, tys52, onceA, postU, hf, ho, storeE, allocE, put_at, push_at, f4, o4, s4, l4, d4, a1, hbu, hE, sr]; (first | refine call_plain (hen) (by first | rfl | simp only [parV, plQ, *]) ?_ | refine call_pure (hen) (by first | rfl | simp only [parV, plQ, *]) (by intro k; first | rfl | simp only [sq, sr, *]) ?_); simp only [↓pre, simprocAttr, parV, sx, tys52, onceA, postU, hf, ho, storeE, allocE, put_at, push_at, f4, o4, s4, l4, d4, a1, hbu, hE, sr]
     · rw [if_neg hB] at hbk
       simp only [if_neg hB]
       unfold nilS at hbk
       simp only [intV] at hbk hnb
       refine fspec_of_body follows Tryz.func52 (by unfold Tryz.f52; rfl) (by unfold Tryz.f52; simp) onceA (by unfold Tryz.f52; simp) (by kernel_rfl) ?_; unfold Tryz.f52
       simp only [↓pre, simprocAttr, parV, sx, tys52, onceA, postU, hf, ho, storeE, allocE, put_at, push_at, sr]
       (first | refine call_plain (hck) (by first | rfl | simp only [parV, plQ, *]) ?_ | refine call_pure (hck) (by first | rfl | simp only [parV, plQ, *]) (by intro k; first | rfl | simp only [sq, sr, *]) ?_); simp only [↓pre, simprocAttr, parV, sx, tys52, onceA, postU, hf, ho, storeE, allocE, put_at, push_at, hB, sr]; (first | refine call_plain (hnb) (by first | rfl | simp only [parV, plQ, *]) ?_ | refine call_pure (hnb) (by first | rfl | simp only [parV, plQ, *]) (by intro k; first | rfl | simp only [sq, sr, *]) ?_); simp only [↓pre, simprocAttr, parV, sx, tys52, onceA, postU, hf, ho, storeE, allocE, put_at, push_at, hB, sr]; (first | refine call_plain (hbk) (by first | rfl | simp only [parV, plQ, *]) ?_ | refine call_pure (hbk) (by first | rfl | simp only [parV, plQ, *]) (by intro k; first | rfl | simp only [sq, sr, *]) ?_); simp only [↓pre, simprocAttr, parV, sx, tys52, onceA, postU, hf, ho, storeE, allocE, put_at, push_at, hB, sr]
 · simp only [if_neg hI]
   refine fspec_of_body follows Tryz.func52 (by unfold Tryz.f52; rfl) (by unfold Tryz.f52; simp) onceA (by unfold Tryz.f52; simp) (by kernel_rfl) ?_; unfold Tryz.f52
   simp only [↓pre, simprocAttr, parV, sx, tys52, onceA, postU, hf, ho, storeE, allocE, put_at, push_at, sr]
   (first | refine call_plain (hck) (by first | rfl | simp only [parV, plQ, *]) ?_ | refine call_pure (hck) (by first | rfl | simp only [parV, plQ, *]) (by intro k; first | rfl | simp only [sq, sr, *]) ?_); simp only [↓pre, simprocAttr, parV, sx, tys52, onceA, postU, hf, ho, storeE, allocE, put_at, push_at, hI, sr]
theorem law23_awake : FSpec Tryz.prog 46 [] ⟨boolV true, []⟩ := by
 have h1 := image_Check 0 0 0 0 nilS [] [] ⟨⟨.inl ⟨rfl, rfl⟩⟩, fun i b h => by simp at h⟩
 have hE : imE 0 0 0 0 [] = 2 := by
   unfold imE
   rw [if_neg (by decide)]
 rw [hE] at h1
 unfold imV nilS at h1
 simp only [intV] at h1
 have h2 : FSpec Tryz.prog 120 [.agg [.val (.int .i64 0), .val (.int .i64 0), .val (.int .i64 0), .val (.int .i64 0), .val (.slice none 0 0)]] ⟨.tup [intV 0, intV 2], []⟩ := by
   refine fspec_of_body follows Tryz.func120 (by unfold Tryz.f120; rfl) (by unfold Tryz.f120; simp) onceA (by unfold Tryz.f120; simp) (by kernel_rfl) ?_; unfold Tryz.f120
   simp only [↓pre, simprocAttr, parV, sx, tys120, onceA, postU, storeE, allocE, put_at, push_at, sr]
   (first | refine call_plain (h1) (by first | rfl | simp only [parV, plQ, *]) ?_ | refine call_pure (h1) (by first | rfl | simp only [parV, plQ, *]) (by intro k; first | rfl | simp only [sq, sr, *]) ?_); simp only [↓pre, simprocAttr, parV, sx, tys120, onceA, postU, storeE, allocE, put_at, push_at, sr]
 simp only [intV] at h2
 refine fspec_of_body follows Tryz.func46 (by unfold Tryz.f46; rfl) (by unfold Tryz.f46; simp) onceA (by unfold Tryz.f46; simp) (by kernel_rfl) ?_; unfold Tryz.f46
 simp only [↓pre, simprocAttr, parV, sx, tys46, onceA, postU, sr]
 (first | refine call_plain (h2) (by first | rfl | simp only [parV, plQ, *]) ?_ | refine call_pure (h2) (by first | rfl | simp only [parV, plQ, *]) (by intro k; first | rfl | simp only [sq, sr, *]) ?_); simp only [↓pre, simprocAttr, parV, sx, tys46, onceA, postU, sr]
theorem law23_big (k r c w : Int) (v : AV) (L : List (List UInt8)) (cells : List AV) (hv : RowsV v L cells) : FSpec Tryz.prog 47 [imV k r c w v] ⟨boolV (mayB k r c w && decide (400 < (k + r) * w)), []⟩ := by
 have hp := hv.rd.plain
 have hf := rd_fz hv.rd
 have ho := rd_one hv.rd
 have h1 := ref06_may k r c w
 have h2 := fun h => ref06_N k r c w h
 unfold imV
 cases hm : mayB k r c w with
 | false =>
   rw [hm] at h1
   replace h2 := Hid.mk h2
   refine fspec_of_body follows Tryz.func47 (by unfold Tryz.f47; rfl) (by unfold Tryz.f47; simp) onceA (by unfold Tryz.f47; simp) (by kernel_rfl) ?_; unfold Tryz.f47
   simp only [↓pre, simprocAttr, parV, sx, tys47, onceA, postU, hf, ho, sr]
   (first | refine call_plain (h1) (by first | rfl | simp only [parV, plQ, *]) ?_ | refine call_pure (h1) (by first | rfl | simp only [parV, plQ, *]) (by intro k; first | rfl | simp only [sq, sr, *]) ?_); simp only [↓pre, simprocAttr, parV, sx, tys47, onceA, postU, hf, ho, sr]
 | true =>
   rw [hm] at h1
   have h2 := h2 hm
   have hb := im_bound hm
   have wm : IntKind.i64.wrap ((k + r) * w) = (k + r) * w := wrap_id (by omega) (by omega)
   replace hb := Hid.mk hb
   refine fspec_of_body follows Tryz.func47 (by unfold Tryz.f47; rfl) (by unfold Tryz.f47; simp) onceA (by unfold Tryz.f47; simp) (by kernel_rfl) ?_; unfold Tryz.f47
   simp only [↓pre, simprocAttr, parV, sx, tys47, onceA, postU, hf, ho, sr]
   (first | refine call_plain (h1) (by first | rfl | simp only [parV, plQ, *]) ?_ | refine call_pure (h1) (by first | rfl | simp only [parV, plQ, *]) (by intro k; first | rfl | simp only [sq, sr, *]) ?_); simp only [↓pre, simprocAttr, parV, sx, tys47, onceA, postU, hf, ho, wm, sr]; (first | refine call_plain (h2) (by first | rfl | simp only [parV, plQ, *]) ?_ | refine call_pure (h2) (by first | rfl | simp only [parV, plQ, *]) (by intro k; first | rfl | simp only [sq, sr, *]) ?_); simp only [↓pre, simprocAttr, parV, sx, tys47, onceA, postU, hf, ho, wm, sr]
theorem bl_irrefl : ∀ (a : List UInt8), Op.bytesLess a a = false
 | [] => rfl
 | x :: a => by
   simp only [Op.bytesLess, bl_irrefl a]
   simp
theorem isL_at {l : List Ent} {i : Nat} {s : ByteArray} {z : Int} (hs : sortedP l) (h : l[i]? = some (s, z)) : isL l s = true ∧ rowOf l s = z := by
 have hp : posL l s = i := posL_eq l s i (Nat.le_of_lt (List.getElem?_eq_some_iff.1 h).1) (fun j e hj he => hs j i e (s, z) hj he h) (fun e he => by
   rw [h] at he
   cases he
   exact bl_irrefl _)
 unfold isL rowOf
 rw [hp, h]
 exact ⟨decide_eq_true rfl, rfl⟩
theorem isL_no {l : List Ent} {s : ByteArray} (h : ∀ (i : Nat) (t : ByteArray) (z : Int), l[i]? = some (t, z) → t ≠ s) : isL l s = false := by
 unfold isL
 split
 · rename_i e he
   exact decide_eq_false (h _ e.1 e.2 he)
 · rfl
theorem fi_parts {k r c w : Int} {L : List (List UInt8)} {s : ByteArray} (h : fiE k r c w L s = 0) : imE k r c w L = 0 ∧ nameOk s = true ∧ bkE k r c w L = 0 ∧ enE k r c w L (buN s : Nat) = 0 := by
 unfold fiE at h
 split at h
 · rename_i h1
   split at h
   · rename_i h2
     split at h
     · rename_i h3
       exact ⟨h1, h2, h3, h⟩
     · contradiction
   · omega
 · contradiction
theorem law23_LiveFound (k r c w : Int) (v : AV) (L : List (List UInt8)) (cells : List AV) (hv : RowsV v L cells) (s : ByteArray) (hs : s.size ≤ 1000000000000000) : FSpec Tryz.prog 9 [imV k r c w v, strV s] ⟨boolV true, []⟩ := by
 have hp := hv.rd.plain
 have hf := rd_fz hv.rd
 have ho := rd_one hv.rd
 have ha := law23_awake
 have hg := law23_big k r c w v L cells hv
 have hfi := live_Find k r c w v L cells hv s hs
 have hnb := name_Bucket s hs
 have hbk := live_Buckets k r c w v L cells hv
 have hen := live_Entries k r c w (buN s : Nat) v L cells hv
 have hbu := bu_lt s
 rw [enV_eq] at hen
 unfold fiV at hfi
 unfold bkV at hbk
 unfold imV at hg hfi hbk hen ⊢
 cases hB : (mayB k r c w && decide (400 < (k + r) * w)) with
 | true =>
   rw [hB] at hg
   refine fspec_of_body follows Tryz.func9 (by unfold Tryz.f9; rfl) (by unfold Tryz.f9; simp) onceA (by unfold Tryz.f9; simp) (by kernel_rfl) ?_; unfold Tryz.f9
   simp only [↓pre, simprocAttr, parV, sx, tys9, onceA, postU, hf, ho, storeE, allocE, put_at, push_at, sr]
   (first | refine call_plain (ha) (by first | rfl | simp only [parV, plQ, *]) ?_ | refine call_pure (ha) (by first | rfl | simp only [parV, plQ, *]) (by intro k; first | rfl | simp only [sq, sr, *]) ?_); simp only [↓pre, simprocAttr, parV, sx, tys9, onceA, postU, hf, ho, storeE, allocE, put_at, push_at, sr]; (first | refine call_plain (hg) (by first | rfl | simp only [parV, plQ, *]) ?_ | refine call_pure (hg) (by first | rfl | simp only [parV, plQ, *]) (by intro k; first | rfl | simp only [sq, sr, *]) ?_); simp only [↓pre, simprocAttr, parV, sx, tys9, onceA, postU, hf, ho, storeE, allocE, put_at, push_at, sr]
 | false =>
   rw [hB] at hg
   by_cases hF : fiE k r c w L s = 0
   · rw [if_pos hF] at hfi
     obtain ⟨hI, hn, hK, hE⟩ := fi_parts hF
     rw [hn] at hnb
     simp only [if_true] at hnb
     rw [if_pos hK] at hbk
     simp only [if_pos hE] at hen
     rw [hE] at hen
     obtain ⟨_, _, _, _, h5, h6, _⟩ := en_ok hE
     obtain ⟨n, hn1⟩ : ∃ n, (bkL k r c w L)[buN s]? = some n := ⟨_, List.getElem?_eq_getElem (by rw [bk_len hK]; exact hbu)⟩
     have hn2 : (bkL k r c w L).getD (buN s) 0 = n := by rw [List.getD_eq_getElem?_getD, hn1]; rfl
     rw [hn2] at hfi
     have hR4 : RdSl (.tree 4 4 (intsA (bkL k r c w L)) false) 4 (intsA (bkL k r c w L)) := ⟨.inr (.inr ⟨_, _, rfl, Nat.le_refl _⟩)⟩
     have a1 := int_at (x := []) hn1
     rw [List.append_nil] at a1
     have p4 := hR4.plain
     have f4 := rd_fz hR4
     have o4 := rd_one hR4
     have s4 := rd_shift hR4
     have l4 := fun P t => hR4.len' (P := P) (t := t)
     have d4 := fun P t k => hR4.addr' (P := P) (t := t) (k := k)
     generalize AV.tree 4 4 (intsA (bkL k r c w L)) false = RV at *
     generalize intsA (bkL k r c w L) = RC at *
     have hTr := treeR_rd (enL k r c w L (buN s : Nat)).length (entCells (enL k r c w L (buN s : Nat)))
     have hTr : RdSl (treeR (enL k r c w L (buN s : Nat)).length (entCells (enL k r c w L (buN s : Nat)))) (enL k r c w L (buN s : Nat)).length (entCells (enL k r c w L (buN s : Nat)) ++ []) := by rw [List.append_nil]; exact hTr
     have p2 := hTr.plain
     have f2 := rd_fz hTr
     have o2 := rd_one hTr
     have s2 := rd_shift hTr
     have l2 := fun P t => hTr.len' (P := P) (t := t)
     have d2 := fun P t k => hTr.addr' (P := P) (t := t) (k := k)
     generalize treeR (enL k r c w L (buN s : Nat)).length (entCells (enL k r c w L (buN s : Nat))) = TV at *
     have hso := sorted_of h5
     have hle := long_num (enL k r c w L (buN s : Nat))
     replace hF := Hid.mk hF
     replace hI := Hid.mk hI
     replace hK := Hid.mk hK
     replace hE := Hid.mk hE
     replace h5 := Hid.mk h5
     replace hn1 := Hid.mk hn1
     replace hn2 := Hid.mk hn2
     replace hR4 := Hid.mk hR4
     replace hTr := Hid.mk hTr
     generalize enL k r c w L (buN s : Nat) = EL at *
     have b0 : ¬ ((buN s : Nat) : Int) < 0 := by omega
     have b4 : ¬ ((4 : Nat) : Int) ≤ ((buN s : Nat) : Int) := by omega
     have b5 : ¬ (4 : Int) ≤ ((buN s : Nat) : Int) := by omega
     generalize buN s = b at *
     simp only [intV] at hnb hbk hen
     have hends : isL EL s = false ∨ isL EL s = true := by cases isL EL s; exact .inl rfl; exact .inr rfl
     have hloop : ∀ (q : Bool) (ρ : Int), (q = isL EL s) → (ρ = if isL EL s = true then rowOf EL s else 0) → FSpec Tryz.prog 9 [.agg [.val (.int .i64 k), .val (.int .i64 r), .val (.int .i64 c), .val (.int .i64 w), v], strV s] ⟨boolV true, []⟩ := fun q ρ hq hρ => by
       rw [← hρ, ← hq] at hfi
       simp only [intV] at hfi
       replace hq := Hid.mk hq
       replace hρ := Hid.mk hρ
       replace hso := Hid.mk hso
       refine fspec_of_body follows Tryz.func9 (by unfold Tryz.f9; rfl) (by unfold Tryz.f9; simp) onceA (by unfold Tryz.f9; simp) (by kernel_rfl) ?_; unfold Tryz.f9
       simp only [↓pre, simprocAttr, parV, sx, tys9, onceA, postU, hf, ho, storeE, allocE, put_at, push_at, sr]
       (first | refine call_plain (ha) (by first | rfl | simp only [parV, plQ, *]) ?_ | refine call_pure (ha) (by first | rfl | simp only [parV, plQ, *]) (by intro k; first | rfl | simp only [sq, sr, *]) ?_); simp only [↓pre, simprocAttr, parV, sx, tys9, onceA, postU, hf, ho, storeE, allocE, put_at, push_at, f2, o2, s2, f4, o4, s4, l4, d4, a1, hbu, b0, b4, b5, sr]; (first | refine call_plain (hg) (by first | rfl | simp only [parV, plQ, *]) ?_ | refine call_pure (hg) (by first | rfl | simp only [parV, plQ, *]) (by intro k; first | rfl | simp only [sq, sr, *]) ?_); simp only [↓pre, simprocAttr, parV, sx, tys9, onceA, postU, hf, ho, storeE, allocE, put_at, push_at, f2, o2, s2, f4, o4, s4, l4, d4, a1, hbu, b0, b4, b5, sr]; (first | refine call_plain (hfi) (by first | rfl | simp only [parV, plQ, *]) ?_ | refine call_pure (hfi) (by first | rfl | simp only [parV, plQ, *]) (by intro k; first | rfl | simp only [sq, sr, *]) ?_); simp only [↓pre, simprocAttr, parV, sx, tys9, onceA, postU, hf, ho, storeE, allocE, put_at, push_at, f2, o2, s2, f4, o4, s4, l4, d4, a1, hbu, b0, b4, b5, sr]; (first | refine call_plain (hnb) (by first | rfl | simp only [parV, plQ, *]) ?_ | refine call_pure (hnb) (by first | rfl | simp only [parV, plQ, *]) (by intro k; first | rfl | simp only [sq, sr, *]) ?_); simp only [↓pre, simprocAttr, parV, sx, tys9, onceA, postU, hf, ho, storeE, allocE, put_at, push_at, f2, o2, s2, f4, o4, s4, l4, d4, a1, hbu, b0, b4, b5, sr]; (first | refine call_plain (hbk) (by first | rfl | simp only [parV, plQ, *]) ?_ | refine call_pure (hbk) (by first | rfl | simp only [parV, plQ, *]) (by intro k; first | rfl | simp only [sq, sr, *]) ?_); simp only [↓pre, simprocAttr, parV, sx, tys9, onceA, postU, hf, ho, storeE, allocE, put_at, push_at, f2, o2, s2, f4, o4, s4, l4, d4, a1, hbu, b0, b4, b5, sr]; (first | refine call_plain (hen) (by first | rfl | simp only [parV, plQ, *]) ?_ | refine call_pure (hen) (by first | rfl | simp only [parV, plQ, *]) (by intro k; first | rfl | simp only [sq, sr, *]) ?_); simp only [↓pre, simprocAttr, parV, sx, tys9, onceA, postU, hf, ho, storeE, allocE, put_at, push_at, f2, o2, s2, f4, o4, s4, l4, d4, a1, hbu, b0, b4, b5, sr]
       rw [codeW_loop]
       refine loop_intro (fun t e m => ∃ i, t + i = EL.length ∧ e 16 = intV (i : Nat) ∧ e 14 = TV ∧ e 1 = strV s ∧ e 8 = boolV q ∧ e 6 = intV ρ ∧ Hid (∀ (j : Nat) (t : ByteArray) (z : Int), j < i → EL[j]? = some (t, z) → t ≠ s)) EL.length ⟨0, by omega, rfl, rfl, rfl, rfl, rfl, ⟨fun j t z h => by omega⟩⟩ ?_
       rintro t e m ⟨i, ht, e16, e14, e1, e8, e6, hpre⟩
       by_cases hlt : i < EL.length
       · obtain ⟨u, z, hsr⟩ : ∃ u z, EL[i]? = some (u, z) := ⟨_, _, List.getElem?_eq_getElem hlt⟩
         obtain ⟨c1, c2, c3, c4⟩ := ent_at (x := []) hsr
         rw [List.append_nil] at c1 c2 c3 c4
         have hlt' : (i : Int) < (EL.length : Nat) := by omega
         have w1 := wrap_succ (n := i) (by omega)
         by_cases hu : u = s
         · subst hu
           obtain ⟨g1, g2⟩ := isL_at hso.out hsr
           have hq2 : q = true := by rw [hq.out, g1]
           have hρ2 : ρ = z := by rw [hρ.out, if_pos g1, g2]
           subst hq2
           subst hρ2
           simp only [↓pre, simprocAttr, parV, sx, tys9, onceA, postU, hf, ho, storeE, allocE, put_at, push_at, e16, e14, e1, e8, e6, l2, d2, hlt, hlt', c1, c2, c3, c4, strV, sr]
         · simp only [↓pre, simprocAttr, parV, sx, tys9, onceA, postU, hf, ho, storeE, allocE, put_at, push_at, e16, e14, e1, e8, e6, l2, d2, hlt, hlt', c1, c2, c3, c4, strV, hu, w1, sr]
           refine ⟨t - 1, by omega, i + 1, by omega, rfl, ⟨fun j t' z' hj he => ?_⟩⟩
           by_cases hji : j = i
           · subst hji; rw [hsr] at he; cases he; exact hu
           · exact hpre.out j t' z' (by omega) he
       · have hlt' : ¬ (i : Int) < (EL.length : Nat) := by omega
         have hno := isL_no (l := EL) (s := s) fun j t z he => hpre.out j t z (by have := (List.getElem?_eq_some_iff.1 he).1; omega) he
         have hq2 : q = false := by rw [hq.out, hno]
         have hρ2 : ρ = 0 := by rw [hρ.out, hno, if_neg (by decide)]
         subst hq2
         subst hρ2
         simp only [↓pre, simprocAttr, parV, sx, tys9, onceA, postU, hf, ho, storeE, allocE, put_at, push_at, e16, e14, e1, e8, e6, l2, d2, hlt, hlt', sr]
     exact hloop _ _ rfl rfl
   · rw [if_neg hF] at hfi
     simp only [intV] at hfi
     refine fspec_of_body follows Tryz.func9 (by unfold Tryz.f9; rfl) (by unfold Tryz.f9; simp) onceA (by unfold Tryz.f9; simp) (by kernel_rfl) ?_; unfold Tryz.f9
     simp only [↓pre, simprocAttr, parV, sx, tys9, onceA, postU, hf, ho, storeE, allocE, put_at, push_at, sr]
     (first | refine call_plain (ha) (by first | rfl | simp only [parV, plQ, *]) ?_ | refine call_pure (ha) (by first | rfl | simp only [parV, plQ, *]) (by intro k; first | rfl | simp only [sq, sr, *]) ?_); simp only [↓pre, simprocAttr, parV, sx, tys9, onceA, postU, hf, ho, storeE, allocE, put_at, push_at, hF, sr]; (first | refine call_plain (hg) (by first | rfl | simp only [parV, plQ, *]) ?_ | refine call_pure (hg) (by first | rfl | simp only [parV, plQ, *]) (by intro k; first | rfl | simp only [sq, sr, *]) ?_); simp only [↓pre, simprocAttr, parV, sx, tys9, onceA, postU, hf, ho, storeE, allocE, put_at, push_at, hF, sr]; (first | refine call_plain (hfi) (by first | rfl | simp only [parV, plQ, *]) ?_ | refine call_pure (hfi) (by first | rfl | simp only [parV, plQ, *]) (by intro k; first | rfl | simp only [sq, sr, *]) ?_); simp only [↓pre, simprocAttr, parV, sx, tys9, onceA, postU, hf, ho, storeE, allocE, put_at, push_at, hF, sr]
end Go.Proofs.YtaekhhlgnbhnpaaGreat