import Derived.RangeFuncBox
import Derived.RangeFuncLeaves
import Derived.RangeFuncNested
import Derived.Shelf.Abstract
import Derived.WalkKit
import Derived.OwnWalkIn
import Derived.TacticsInMore
import Derived.LoopNIn
import Derived.LoopIn
import Derived.Maps.AppendAt
import Derived.Deep.QuietTactic
import Derived.BigQuiet
import Derived.WalkSmall
import Derived.Test.YtenmbfplceeolaaDmG17
import Derived.Test.YtenmbfplceeolaaDmG16
import Derived.Test.YtenmbfplceeolaaDmG09
set_option linter.unusedVariables false
set_option linter.unusedSimpArgs false
namespace Go.Proofs.Ytenmbfplceeolaa
open Go Go.Tw Go.Proofs Go.RowKit Go.Shelf
attribute [local go_sem] Oper.semAt_some

def upto (k : Nat) : List (Fin 4) := (List.finRange 4).take k
theorem upto_succ (k : Nat) (h : k < 4) : upto (k + 1) = upto k ++ [⟨k, h⟩] := by
  have : ∀ j : Fin 4, upto (j.1 + 1) = upto j.1 ++ [j] := by decide
  exact this ⟨k, h⟩
theorem upto_length (k : Nat) (h : k ≤ 4) : (upto k).length = k := by simp [upto, h]
abbrev FW : Fence := Fence.wide
set_option maxRecDepth 100000 in
set_option maxHeartbeats 2000000 in
def KP (Bs Bn : Nat) (A B : World) : Prop := B.heap[Bs]? = A.heap[Bs]? ∧ B.heap[Bn]? = A.heap[Bn]?
theorem KP.trans {Bs Bn : Nat} {A B C : World} (h : KP Bs Bn A B) (h' : KP Bs Bn B C) : KP Bs Bn A C := ⟨h'.1.trans h.1, h'.2.trans h.2⟩
theorem cellK {A B : World} {g o : Nat} (h : B.heap[g]? = A.heap[g]?) : B.cell? ⟨g, o, none⟩ = A.cell? ⟨g, o, none⟩ := World.cell?_of_block (a := ⟨g, o, none⟩) h
/-- slices.Chunk(b, 2)'s closure at eight bytes -/
theorem chunk1_in (l Bs Bn b off cap : Nat) (hcap : 8 ≤ cap) (J Jx : List (Fin 4) → World → Prop) (hJ : ∀ s W nq, J s W → J s (W.drewN nq))
    (hY : ∀ pre x W, J pre W → pre.length < 4 → YieldAt FW 2 Try.prog l #[.slice (some ⟨b, off + 2 * x.1, none⟩) 2 2] W fun e W' =>
      (e = .returned (.bool true) ∧ J (pre ++ [x]) W' ∧ KP Bs Bn W W') ∨ (e = .returned (.bool false) ∧ Jx (pre ++ [x]) W'))
    (W : World) (hBs : W.cell? ⟨Bs, 0, none⟩ = some (.slice (some ⟨b, off, none⟩) 8 cap)) (hBn : W.cell? ⟨Bn, 0, none⟩ = some (.int .i64 2)) (h0 : J [] W) :
    CallsIn FW 3 Try.prog 100 #[.func (.yield l) #[] #[], .pointer (some ⟨Bs, 0, none⟩), .pointer (some ⟨Bn, 0, none⟩)] W fun e W' => (∃ v, e = .returned v) ∧
      ((∃ ys, ys = upto 4 ∧ J ys W') ∨ (∃ pre, (∃ k, k ≤ 4 ∧ pre = upto k) ∧ Jx pre W')) := by
  refine callsIn_of_wp Try.func100 rfl trivial ?_ rfl
  simp only [Try.ntmps100, List.size_toArray, List.length_cons, List.length_nil, Nat.reduceAdd, Nat.reduceSub, Array.replicate_succ, Array.replicate_zero, List.push_toArray, List.append_toArray, List.nil_append, List.cons_append]
  gi_wp2
  gi_loopw [4] (fun i wr => ∃ k : Nat, k ≤ 4 ∧ i = .int .i64 (2 * k : Nat) ∧ J (upto k) wr ∧ KP Bs Bn W wr)
    (fun i _ => 8 - (intOf i).toNat)
  case atStart => exact ⟨0, Nat.zero_le _, rfl, h0, rfl, rfl⟩
  case round =>
    obtain ⟨k, hk, rfl, hJs, hnx⟩ := hrel
    have hcs : wr.cell? ⟨Bs, 0, none⟩ = some (.slice (some ⟨b, off, none⟩) 8 cap) := (cellK hnx.1).trans hBs
    have hcn : wr.cell? ⟨Bn, 0, none⟩ = some (.int .i64 2) := (cellK hnx.2).trans hBn
    by_cases hlt : k < 4
    · gi_wp2
      refine wpIn_wide.2 ?_
      go_quiet (fail)
      have hmin : min 2 ((8 - 2 * k : Nat) : Int) = 2 := by omega
      simp only [hmin]
      have hJ2 := hJ _ _ nq hJs
      have hcs2 : (wr.drewN nq).cell? ⟨Bs, 0, none⟩ = some (.slice (some ⟨b, off, none⟩) 8 cap) := hcs
      have hcn2 : (wr.drewN nq).cell? ⟨Bn, 0, none⟩ = some (.int .i64 2) := hcn
      have hnx2 : KP Bs Bn W (wr.drewN nq) := hnx
      clear hcs hcn hnx hJs
      generalize wr.drewN nq = wq at hJ2 hcs2 hcn2 hnx2 ⊢
      obtain ⟨fn, tmps, assign, body, hy, hR⟩ := hY _ ⟨k, hlt⟩ wq hJ2 (by rw [upto_length k hk]; exact hlt)
      gi_wp2
      refine hR.mono ?_
      rintro e W3 (⟨rfl, hJ3, hk3⟩ | ⟨rfl, hJx3⟩)
      · have hcn3 : W3.cell? ⟨Bn, 0, none⟩ = some (.int .i64 2) := (cellK hk3.2).trans hcn2
        gi_wp2
        go_roundw
        case rel => exact ⟨k + 1, by omega, by simp; omega, by rw [upto_succ k hlt]; exact hJ3, hnx2.trans hk3⟩
        case measure => simp [intOf]; omega
      · gi_wp2
        refine bodyPost_ret (results_none rfl _ _ _) rfl ?_
        exact ⟨⟨_, rfl⟩, .inr ⟨_, ⟨k + 1, by omega, (upto_succ _ hlt).symm⟩, hJx3⟩⟩
    · obtain rfl : k = 4 := by omega
      gi_wp2
      go_end0
      exact ⟨⟨_, rfl⟩, .inl ⟨_, rfl, hJs⟩⟩
theorem chunk_stops (Bs Bn b off cap : Nat) (hcap : 8 ≤ cap) (w : World) (hBs : w.cell? ⟨Bs, 0, none⟩ = some (.slice (some ⟨b, off, none⟩) 8 cap)) (hBn : w.cell? ⟨Bn, 0, none⟩ = some (.int .i64 2)) (hs : Bs < w.heap.size) (hn : Bn < w.heap.size) :
    SeqStopsK FW 3 Try.prog 100 #[.pointer (some ⟨Bs, 0, none⟩), .pointer (some ⟨Bn, 0, none⟩)] (fun x : Fin 4 => #[Value.slice (some ⟨b, off + 2 * x.1, none⟩) 2 2]) (KP Bs Bn) (fun ys => ys = upto 4) (fun pre => ∃ k, k ≤ 4 ∧ pre = upto k) 4 w := fun l J Jx W hW hJ _ hY h0 => by
  refine chunk1_in l Bs Bn b off cap hcap J Jx (fun s A nq hs => hJ s A _ none hs ⟨rfl, rfl, rfl, Nat.le_refl _, fun _ _ _ => rfl⟩ (fun r e => by cases e)) hY W ((hW.cell (p := ⟨Bs, 0, none⟩) hs).trans hBs) ((hW.cell (p := ⟨Bn, 0, none⟩) hn).trans hBn) h0
set_option maxHeartbeats 1000000 in
theorem chunk_in (a : Option Addr) (len cap : Nat) (w : World) :
    Calls Try.prog 68 #[.slice a len cap, .int .i64 2] w fun e w' => e = .returned (.func (.func 100) #[] #[.pointer (some ⟨w.heap.size, 0, none⟩), .pointer (some ⟨w.heap.size + 1, 0, none⟩)]) ∧ w' = (w.alloc (.cells #[.slice a len cap] 29)).alloc (.cells #[.int .i64 2] 3) := by
  go_enter Try.func68, Try.ntmps68
  go_wp2
  go_ret
  exact ⟨by simp, rfl⟩
theorem fspec_calls {P : Program} {f : FuncId} {args : List AV} {u : Value} {W : World} {vs : Array Value} (h : FSpec P f args ⟨.val u, []⟩) (hsz : vs.size = args.length) (hv : VRs P W (allI W) noneR args (fun j => vs[j]?)) :
    Calls P f vs W fun e w' => e = .returned u ∧ Below W.heap.size W w' := by
  refine (h.2 W (allI W) vs (fun g hg => hg) hsz hv).mono fun e w' hq => ?_
  obtain ⟨v, I', ρ', he, h1, h2, h3⟩ := hq
  have hvt : v = u := by simpa only [VR] using h1
  subst hvt
  refine ⟨he, h3.os, h3.tape, h3.output, h3.size, fun k hk => h3.same k hk ?_⟩
  rintro ⟨b, kk, o, q1, q2, q3⟩
  simp [Mem.empty] at q1
theorem check_calls {k r c w : Int} (h : mayB k r c w = true) (W : World) : Calls Try.prog 54 #[.agg #[.int .i64 k, .int .i64 r, .int .i64 c, .int .i64 w]] W fun e w' => e = .returned (.int .i64 0) ∧ Below W.heap.size W w' := by
  have := layout_check k r c w
  rw [h] at this
  refine fspec_calls (u := .int .i64 0) this rfl ?_
  simp only [VRs, VR]
  exact ⟨⟨_, rfl, #[.int .i64 k, .int .i64 r, .int .i64 c, .int .i64 w], rfl, rfl, fun c hc => by simp at hc; rcases hc with rfl | rfl | rfl | rfl <;> rfl, ⟨_, rfl, rfl⟩, ⟨_, rfl, rfl⟩, ⟨_, rfl, rfl⟩, ⟨_, rfl, rfl⟩, trivial⟩, trivial⟩
theorem bcell {w w1 : World} {n : Nat} (hb : Below n w w1) : (∀ b o, b < n → w1.cell? ⟨b, o, none⟩ = w.cell? ⟨b, o, none⟩) ∧ (∀ b o, b < n → w1.frozen? ⟨b, o, none⟩ = w.frozen? ⟨b, o, none⟩) :=
  ⟨fun b o h => hb.cell (p := ⟨b, o, none⟩) h, fun b o h => hb.frozen (p := ⟨b, o, none⟩) h⟩
theorem buckets_info : (Try.prog.info? 3).map (fun i => (i.zero, i.size, i.bytes)) = some (some (.int .i64 0), 1, 8) := by kernel_rfl
def decN (bs : List UInt8) (j : Fin 4) : Nat := (bs.getD (2 * j.1) 0).toNat * 256 + (bs.getD (2 * j.1 + 1) 0).toNat
theorem decN_all {bs : List UInt8} (h : bs.length = 8) : decI bs = (upto 4).map fun j => ((decN bs j : Nat) : Int) := by
  match bs, h with
  | [_, _, _, _, _, _, _, _], _ => rfl
/-- behind an append into a boxed row of one's own -/
theorem appended2 {W w1 : World} {n₀ n₁ B Bs Bn : Nat} {t e : TypeId} {size : Nat} {v v' : Value} {k m : Nat} {xs ys : List Value} {tmp : Obj}
    (hv : Boxed W B t v) (hte : t ≠ e) (hrow : W.ownsRow n₁ e size v k xs) (hn₁ : n₁ ≤ W.heap.size) (hn : n₀ ≤ n₁) (hB : n₀ ≤ B) (hs : Bs < n₁) (hsB : Bs ≠ B) (hnn : Bn < n₁) (hnB : Bn ≠ B)
    (hown' : w1.ownsRow n₁ e size v' m ys) (hgrow : (W.alloc tmp).grownBy w1 v.ownBlock) :
    Boxed w1 B t v ∧ Boxed (w1.setCell ⟨B, 0, none⟩ v') B t v' ∧ (w1.setCell ⟨B, 0, none⟩ v').ownsRow n₁ e size v' m ys ∧ KeepsOthers W (w1.setCell ⟨B, 0, none⟩ v') ∧ Below n₀ W (w1.setCell ⟨B, 0, none⟩ v') ∧ KP Bs Bn W (w1.setCell ⟨B, 0, none⟩ v') ∧ (∀ B' t' u, Boxed W B' t' u → B' ≠ B → t' ≠ e → Boxed (w1.setCell ⟨B, 0, none⟩ v') B' t' u) := by
  have hv1 : Boxed w1 B t v := (hv.alloc tmp).kept hgrow (hv.not_row hte hrow)
  have hlow : ∀ b, b < n₁ → b ≠ B → (w1.setCell ⟨B, 0, none⟩ v').heap[b]? = W.heap[b]? := fun b hb hbB => by
    rw [Below.heap_setCell _ _ _ b (fun e => hbB e), hgrow.block b (by simp; omega) (fun e => by have := (hrow.lt b e.symm).1; omega)]
    exact Below.heap_alloc W _ b (by omega)
  refine ⟨hv1, hv1.set v', hown'.kept (grownBy_setCell' w1 B v') (.inr (hv1.not_row hte hown').symm), ?_, ?_, ⟨hlow Bs hs hsB, hlow Bn hnn hnB⟩, fun B' t' u hu hne hte' => ((hu.alloc tmp).kept hgrow (hu.not_row hte' hrow)).other hne v'⟩
  · refine ((KeepsOthers.alloc W tmp).trans (KeepsOthers.of_grownBy hgrow fun j o ej hj => ?_)).trans (KeepsOthers.setCell _ _ _)
    rcases (hrow.alloc tmp).2 with ⟨rfl, _⟩ | ⟨g, cap, cur, rfl, _, hgb, _⟩
    · simp [Value.ownBlock] at ej
    · obtain rfl : g = j := by simpa [Value.ownBlock] using ej
      rw [hgb] at hj; cases hj; rfl
  · refine (((Below.refl n₀ W).alloc (by omega) tmp).grown hgrow (by simp; omega) fun j ej => ?_).setCell (p := ⟨B, 0, none⟩) hB v'
    have := (hrow.lt j ej).1
    omega
def BktI (n₀ n₁ B4 B5 B7 : Nat) (w0 : World) (bs : List UInt8) (q : Int) (pre : List (Fin 4)) (W : World) : Prop :=
  (∃ v, Boxed W B7 43 v ∧ W.ownsRow n₁ 3 1 v pre.length (pre.map fun j => Value.int .i64 (decN bs j : Nat)) ∧ ∀ j ∈ pre, ((decN bs j : Nat) : Int) < q)
def BktX (B4 B5 : Nat) (c : Code) (pre : List (Fin 4)) (W : World) : Prop := c = .ret ∧ Boxed W B4 43 (.slice none 0 0) ∧ Boxed W B5 25 (.int .i64 220)
set_option maxRecDepth 100000 in
set_option maxHeartbeats 4000000 in
theorem buckets_in (F : Fence) (hF : Tw.Hid (F = Fence.wide)) {k r c q : Int} (hm : mayB k r c q = true) (g off cap : Nat) (hcap : 8 ≤ cap) (bs : List UInt8) (hl : bs.length = 8) (w : World) (hg : g < w.heap.size) (hcs : ∀ j, j < 8 → w.cell? ⟨g, off + j, none⟩ = some (.int .u8 (bs.getD j 0).toNat)) :
    CallsIn F 4 Try.prog 23 #[.agg #[.int .i64 k, .int .i64 r, .int .i64 c, .int .i64 q], .slice (some ⟨g, off, none⟩) 8 cap] w fun e W' => Below w.heap.size w W' ∧
      ((rowsOk q (decI bs) = true ∧ ∃ v, e = .returned (.tuple #[v, .int .i64 0]) ∧ W'.ownsRow w.heap.size 3 1 v 4 ((decI bs).map (Value.int .i64))) ∨
       (rowsOk q (decI bs) = false ∧ e = .returned (.tuple #[.slice none 0 0, .int .i64 220]))) := by
  obtain ⟨i0, hi, hz0, hz1, hz2⟩ := info_parts buckets_info
  have hfn : ∀ f, F.fn f := fun f => by rw [hF.out]; trivial
  have hro : F.round = none := by rw [hF.out]; rfl
  have hW : ∀ {n : Nat} {f : FuncId} {args : Array Value} {w : World} {R : Ending → World → Prop}, Calls Try.prog f args w R → CallsIn F n Try.prog f args w R := fun h => by rw [hF.out]; exact callsIn_wide.2 h
  refine callsIn_of_wp_marks Try.func23 rfl (hfn _) ?_ hro
  simp only [Try.ntmps23, List.size_toArray, List.length_cons, List.length_nil, Nat.reduceAdd, Nat.reduceSub, Array.replicate_succ, Array.replicate_zero, List.push_toArray, List.append_toArray, List.nil_append, List.cons_append]
  gi_wp2_with (first
    | (gi_at_call 54; refine (hW (check_calls hm _)).mono ?_; rintro e w1 ⟨rfl, hb1⟩; obtain ⟨hc1, hf1⟩ := bcell hb1; have hz1' := hb1.size; simp only [World.size_alloc] at hz1')
    | (gi_at_call 68; refine (hW (chunk_in _ _ _ _)).mono ?_; rintro e w2 ⟨rfl, rfl⟩))
  -- what lies where the loop begins
  obtain ⟨wp, hwp⟩ : ∃ wp, wp = w.alloc (.cells #[.int .i64 k, .int .i64 r, .int .i64 c, .int .i64 q] 23) := ⟨_, rfl⟩
  obtain ⟨w4, hw4⟩ : ∃ w4, w4 = wp.alloc (.cells #[.slice none 0 0] 43) := ⟨_, rfl⟩
  obtain ⟨w5, hw5⟩ : ∃ w5, w5 = w4.alloc (.cells #[.int .i64 0] 25) := ⟨_, rfl⟩
  obtain ⟨w7, hw7⟩ : ∃ w7, w7 = w1.alloc (.cells #[.slice none 0 0] 43) := ⟨_, rfl⟩
  obtain ⟨w8, hw8⟩ : ∃ w8, w8 = w7.alloc (.cells #[.slice (some ⟨g, off, none⟩) 8 cap] 29) := ⟨_, rfl⟩
  obtain ⟨w9, hw9⟩ : ∃ w9, w9 = w8.alloc (.cells #[.int .i64 2] 3) := ⟨_, rfl⟩
  have sp : wp.heap.size = w.heap.size + 1 := by rw [hwp]; simp
  have s4 : w4.heap.size = w.heap.size + 2 := by rw [hw4]; simp [sp]
  have s5 : w5.heap.size = w.heap.size + 3 := by rw [hw5]; simp [s4]
  have s7 : w7.heap.size = w1.heap.size + 1 := by rw [hw7]; simp
  have s8 : w8.heap.size = w1.heap.size + 2 := by rw [hw8]; simp [s7]
  have s9 : w9.heap.size = w1.heap.size + 3 := by rw [hw9]; simp [s8]
  have b4 : Boxed w4 (w.heap.size + 1) 43 (.slice none 0 0) := by have := Boxed.new wp 43 (.slice none 0 0); rw [sp, ← hw4] at this; exact this
  have b5 : Boxed w5 (w.heap.size + 2) 25 (.int .i64 0) := by have := Boxed.new w4 25 (.int .i64 0); rw [s4, ← hw5] at this; exact this
  have b7 : Boxed w7 w1.heap.size 43 (.slice none 0 0) := by have := Boxed.new w1 43 (.slice none 0 0); rw [← hw7] at this; exact this
  have b8 : Boxed w8 (w1.heap.size + 1) 29 (.slice (some ⟨g, off, none⟩) 8 cap) := by have := Boxed.new w7 29 (.slice (some ⟨g, off, none⟩) 8 cap); rw [s7, ← hw8] at this; exact this
  have b9 : Boxed w9 (w1.heap.size + 2) 3 (.int .i64 2) := by have := Boxed.new w8 3 (.int .i64 2); rw [s8, ← hw9] at this; exact this
  have bp : wp.heap[w.heap.size]? = some (.cells #[.int .i64 k, .int .i64 r, .int .i64 c, .int .i64 q] 23 (0, 0)) := by rw [hwp]; exact World.alloc_heap_new w _
  rw [← hwp, ← hw4, ← hw5] at hb1
  rw [← hw7, ← hw8, ← hw9]
  clear hc1 hf1
  rw [s5] at hb1
  have hzw : w.heap.size + 3 ≤ w1.heap.size := by rw [← s5]; exact hb1.size
  have low9 : ∀ b, b < w1.heap.size → w9.heap[b]? = w1.heap[b]? := fun b hb => by
    rw [hw9, Below.heap_alloc _ _ _ (by omega), hw8, Below.heap_alloc _ _ _ (by omega), hw7, Below.heap_alloc _ _ _ hb]
  have up9 : ∀ b, b < w.heap.size + 3 → w9.heap[b]? = w5.heap[b]? := fun b hb => (low9 b (by omega)).trans (hb1.block b hb)
  have low5 : ∀ b, b < w.heap.size → w5.heap[b]? = w.heap[b]? := fun b hb => by
    rw [hw5, Below.heap_alloc _ _ _ (by omega), hw4, Below.heap_alloc _ _ _ (by omega), hwp, Below.heap_alloc _ _ _ hb]
  have c4 : Boxed w9 (w.heap.size + 1) 43 (.slice none 0 0) := by
    show w9.heap[w.heap.size + 1]? = _
    rw [up9 _ (by omega), hw5, Below.heap_alloc _ _ _ (by omega)]; exact b4
  have c5 : Boxed w9 (w.heap.size + 2) 25 (.int .i64 0) := by
    show w9.heap[w.heap.size + 2]? = _
    rw [up9 _ (by omega)]; exact b5
  have c7 : Boxed w9 w1.heap.size 43 (.slice none 0 0) := by
    show w9.heap[w1.heap.size]? = _
    rw [hw9, Below.heap_alloc _ _ _ (by omega), hw8, Below.heap_alloc _ _ _ (by omega)]; exact b7
  have c8 : Boxed w9 (w1.heap.size + 1) 29 (.slice (some ⟨g, off, none⟩) 8 cap) := by
    show w9.heap[w1.heap.size + 1]? = _
    rw [hw9, Below.heap_alloc _ _ _ (by omega)]; exact b8
  have cp : w9.heap[w.heap.size]? = some (.cells #[.int .i64 k, .int .i64 r, .int .i64 c, .int .i64 q] 23 (0, 0)) := by
    rw [up9 _ (by omega), hw5, Below.heap_alloc _ _ _ (by omega), hw4, Below.heap_alloc _ _ _ (by omega)]; exact bp
  have hB9 : Below w.heap.size w w9 := by
    refine ⟨?_, ?_, ?_, by omega, fun b hb => (up9 b (by omega)).trans (low5 b hb)⟩
    · rw [hw9, hw8, hw7]; show w1.os = _; rw [hb1.os, hw5, hw4, hwp]; rfl
    · rw [hw9, hw8, hw7]; show w1.tape = _; rw [hb1.tape, hw5, hw4, hwp]; rfl
    · rw [hw9, hw8, hw7]; show w1.output = _; rw [hb1.output, hw5, hw4, hwp]; rfl
  have hmeas : ∀ W, Below (w.heap.size + 1) w9 W → ∀ j, (W.cell? ⟨w.heap.size, j, none⟩) = w9.cell? ⟨w.heap.size, j, none⟩ := fun W h j => cellK (h.block _ (by omega))
  have hp3 : w9.cell? ⟨w.heap.size, 3, none⟩ = some (.int .i64 q) := by simp [World.cell?, cp]
  have hst : SeqStopsK F 3 Try.prog 100 #[.pointer (some ⟨w1.heap.size + 1, 0, none⟩), .pointer (some ⟨w1.heap.size + 2, 0, none⟩)] (fun x : Fin 4 => #[Value.slice (some ⟨g, off + 2 * x.1, none⟩) 2 2]) (KP (w1.heap.size + 1) (w1.heap.size + 2)) (fun ys => ys = upto 4) (fun pre => ∃ k, k ≤ 4 ∧ pre = upto k) 4 w9 := by rw [hF.out]; exact chunk_stops (w1.heap.size + 1) (w1.heap.size + 2) g off cap hcap w9 c8.cell b9.cell (by omega) (by omega)
  have s9a : w9.heap.size ≤ w1.heap.size + 3 := by omega
  have s9b : w1.heap.size + 3 ≤ w9.heap.size := by omega
  clear hwp hw4 hw5 hw7 hw8 hw9 sp s4 s5 s7 s8 s9 b4 b5 b7 b8 b9 bp
  refine wpIn_rangeFunc_ownG (N := 4) hro (by omega) (gf := 100) (lb := #[.pointer (some ⟨w1.heap.size + 1, 0, none⟩), .pointer (some ⟨w1.heap.size + 2, 0, none⟩)]) rfl (hfn _) (enters_of Try.func100 (by kernel_rfl) rfl)
    hst KP.trans (fun W l o o' hl' _ _ _ => ⟨World.putObj_heap_other (by omega), World.putObj_heap_other (by omega)⟩) (Below.refl _ _) (fun _ => rfl)
    (fun pre W => (∃ v, Boxed W w1.heap.size 43 v ∧ W.ownsRow w9.heap.size 3 1 v pre.length (pre.map fun j => Value.int .i64 (decN bs j : Nat)) ∧ ∀ j ∈ pre, ((decN bs j : Nat) : Int) < q) ∧ ((Boxed W (w.heap.size + 1) 43 (.slice none 0 0) ∧ Boxed W (w.heap.size + 2) 25 (.int .i64 0)) ∧ Below (w.heap.size + 1) w9 W))
    (fun c pre W => (c = .ret ∧ rowsOk q (decI bs) = false) ∧ ((Boxed W (w.heap.size + 1) 43 (.slice none 0 0) ∧ Boxed W (w.heap.size + 2) 25 (.int .i64 220)) ∧ Below (w.heap.size + 1) w9 W))
    (OwnFrom.and (Own.from (holdsRow_own w9.heap.size w1.heap.size 43 3 1 (fun pre : List (Fin 4) => pre.length) (fun pre => pre.map fun j => Value.int .i64 (decN bs j : Nat)) (fun pre v => ∀ j ∈ pre, ((decN bs j : Nat) : Int) < q)) _) (OwnFrom.and (Own.from (boxed_own _ _ (fun _ => Value.slice none 0 0)) _ |>.and (Own.from (boxed_own _ _ (fun _ => Value.int .i64 0)) _)) (ownFrom_below (by omega) (by omega))))
    (fun c => OwnFrom.and (ownFrom_pure _ (fun _ => c = .ret ∧ rowsOk q (decI bs) = false)) (OwnFrom.and (Own.from (boxed_own _ _ (fun _ => Value.slice none 0 0)) _ |>.and (Own.from (boxed_own _ _ (fun _ => Value.int .i64 220)) _)) (ownFrom_below (by omega) (by omega))))
    ⟨⟨_, c7, World.ownsRow_nil _ _ _ _, fun j hj => by simp at hj⟩, ⟨c4, c5⟩, Below.refl _ _⟩
    (fun x => { tmps := #[.agg #[.int .i64 k, .int .i64 r, .int .i64 c, .int .i64 q], .slice (some ⟨g, off, none⟩) 8 cap, .pointer (some ⟨w.heap.size, 0, none⟩), undef, .pointer (some ⟨w.heap.size + 1, 0, none⟩), .pointer (some ⟨w.heap.size + 1 + 1, 0, none⟩), .int .i64 0, .pointer (some ⟨w1.heap.size, 0, none⟩), .slice (some ⟨g, off + 2 * x.1, none⟩) 2 2, undef,
        .agg #[.int .i64 k, .int .i64 r, .int .i64 c, .int .i64 q], .int .i64 0, .int .i64 0, .bool false, undef, .slice (some ⟨g, off, none⟩) 8 cap, .int .i64 8, .bool false, .slice (some ⟨g, off, none⟩) 8 cap,
        .func (.func 100) #[] #[.pointer (some ⟨w1.heap.size + 1, 0, none⟩), .pointer (some ⟨w1.heap.size + 1 + 1, 0, none⟩)], .slice (some ⟨g, off + 2 * x.1, none⟩) 2 2, undef, undef, undef, undef, undef, undef, undef, undef, undef, undef, undef, undef, undef, undef, undef, undef, undef, undef, undef], defers := [] }) ?assign ?body ?done ?stop
  case assign =>
    intro l x W K hK
    gi_wp2
    exact hK
  case body =>
    rintro l pre x W ⟨⟨v, hv, hrow, hok⟩, ⟨h4, h5⟩, hB⟩ hlt
    have hc := hv.cell
    have hq3 : W.cell? ⟨w.heap.size, 3, none⟩ = some (.int .i64 q) := (hmeas W hB 3).trans hp3
    have hgc : ∀ j, j < 8 → W.cell? ⟨g, off + j, none⟩ = some (.int .u8 (bs.getD j 0).toNat) := fun j hj => (cellK (hB.block g (by omega))).trans ((cellK ((up9 g (by omega)).trans (low5 g hg))).trans (hcs j hj))
    have hx := x.2
    have hg0 := hgc (2 * x.1) (by omega)
    have hg1 := hgc (2 * x.1 + 1) (by omega)
    rw [← Nat.add_assoc] at hg1
    obtain ⟨y1, hy1⟩ : ∃ y1, bs.getD (2 * x.1) 0 = y1 := ⟨_, rfl⟩
    obtain ⟨y2, hy2⟩ : ∃ y2, bs.getD (2 * x.1 + 1) 0 = y2 := ⟨_, rfl⟩
    have hdx : decN bs x = y1.toNat * 256 + y2.toNat := by rw [decN, hy1, hy2]
    rw [hy1] at hg0
    rw [hy2] at hg1
    have ly1 := y1.toNat_lt
    have ly2 := y2.toNat_lt
    have v1 : IntKind.i64.wrap (y1.toNat : Int) = (y1.toNat : Int) := wrap_nat (by omega)
    have v2 : IntKind.i64.wrap (y2.toNat : Int) = (y2.toNat : Int) := wrap_nat (by omega)
    have v3 : IntKind.i64.wrap ((y1.toNat : Int) * 256) = (y1.toNat : Int) * 256 := by
      have : ((y1.toNat : Int) * 256) = ((y1.toNat * 256 : Nat) : Int) := by omega
      rw [this]; exact wrap_nat (by omega)
    clear hgc hy1 hy2
    gi_wp2
    refine wpIn_round_quiet_lit hF.out (by kernel_rfl) (by kernel_rfl) (by kernel_rfl) ?_
    repeat (quiet_step (fail))
    refine wpQuiet_nil ?_
    intro _ hw'
    obtain ⟨nq, hw''⟩ := hw'
    subst hw''
    have hbits : bits .or .i64 ((y1.toNat : Int) * 256) (y2.toNat : Int) = ((decN bs x : Nat) : Int) := by
      have : ((y1.toNat : Int) * 256) = ((y1.toNat * 256 : Nat) : Int) := by omega
      rw [this, hdx]
      have h := borI_i64 (a := y1.toNat * 256) (b := y2.toNat) (by omega) (by omega)
      rw [or_add ly2] at h
      exact h
    simp only [hbits]
    have hv : Boxed (W.drewN nq) w1.heap.size 43 v := hv
    have hrow : (W.drewN nq).ownsRow w9.heap.size 3 1 v pre.length (pre.map fun j => Value.int .i64 (decN bs j : Nat)) := hrow
    have h4 : Boxed (W.drewN nq) (w.heap.size + 1) 43 (.slice none 0 0) := h4
    have h5 : Boxed (W.drewN nq) (w.heap.size + 2) 25 (.int .i64 0) := h5
    have hc : (W.drewN nq).cell? ⟨w1.heap.size, 0, none⟩ = some v := hc
    have hq3 : (W.drewN nq).cell? ⟨w.heap.size, 3, none⟩ = some (.int .i64 q) := hq3
    have hBq : Below (w.heap.size + 1) w9 (W.drewN nq) := below_drewN hB nq
    have hkq : KeepsFrom w9.heap.size W (W.drewN nq) := ⟨Nat.le_refl _, fun k o _ h _ => h⟩
    have hkp : KP (w1.heap.size + 1) (w1.heap.size + 2) W (W.drewN nq) := ⟨rfl, rfl⟩
    have hsz : w9.heap.size ≤ (W.drewN nq).heap.size := hBq.size
    generalize hD : decN bs x = d at hdx hbits
    have hdl : d < 65536 := by omega
    clear hg0 hg1 v1 v2 v3 hbits hB hmeas hdx
    replace hD := Tw.Hid.mk hD
    generalize W.drewN nq = Wq at *
    by_cases hlq : (d : Int) < q
    · have hlq' : decide (q ≤ (d : Int)) = false := by simp; omega
      gi_wp2_with (gi_at_builtin; refine wpListIn_append_own _ rfl _ _ 43 rfl w9.heap.size 3 i0 (.int .i64 0) 1 8 Try.underlying43 hi hz0 hz1 hz2 rfl (by decide) _ _ _ rfl (hrow.alloc _) ⟨Wq.heap.size, 0, none⟩ 1 1 [.int .i64 d] rfl rfl (cell_one_new _ _ _) (by simp [Value.oneCell']) (by unfold maxLen; omega) (by omega) (by simp; omega) ?_; intro v' wa hown' hgrow _; obtain ⟨g', cap', rfl⟩ := ownsRow_succ hown'; obtain ⟨e1, e2, e3, e4, e5, e6, e7⟩ := appended2 (n₀ := w.heap.size + 1) (Bs := w1.heap.size + 1) (Bn := w1.heap.size + 2) hv (by decide) hrow hsz (by omega) (by omega) (by omega) (by omega) (by omega) (by omega) hown' hgrow; have hc1 := e1.cell; have hf1 := e1.frozen)
      refine ⟨hkq.trans (e4.from _), hkp.trans e6, ⟨⟨_, e2, ?_, fun j hj => ?_⟩, ⟨e7 _ _ _ h4 (by omega) (by decide), e7 _ _ _ h5 (by omega) (by decide)⟩, hBq.trans e5⟩⟩
      · rw [List.length_append, List.map_append]
        simp only [List.length_cons, List.length_nil, List.map_cons, List.map_nil, hD.out]
        exact e3
      · rcases List.mem_append.1 hj with hj | hj
        · exact hok j hj
        · rw [List.mem_singleton.1 hj, hD.out]; exact hlq
    · have hlq' : q ≤ (d : Int) := by omega
      have hlq2 : decide (q ≤ (d : Int)) = true := by simpa using hlq'
      have hc4 := h4.cell
      have hf4 := h4.frozen
      have h5' := h5.other (B' := w.heap.size + 1) (by omega) (Value.slice none 0 0)
      have hc5 := h5'.cell
      have hf5 := h5'.frozen
      have hbad : rowsOk q (decI bs) = false := by
        refine rows_bad (i := x.1) (n := ((decN bs x : Nat) : Int)) ?_ (by rw [hD.out]; omega)
        rw [decN_all hl, List.getElem?_map]
        have : ∀ x : Fin 4, (upto 4)[x.1]? = some x := by decide
        rw [this x]; rfl
      replace hbad := Tw.Hid.mk hbad
      gi_wp2
      exact ⟨hkq.trans (((KeepsOthers.setCell _ _ _).trans (KeepsOthers.setCell _ _ _)).from _), ⟨rfl, hbad.out⟩, ⟨(h4.set _).other (by omega) _, h5'.set _⟩, (hBq.setCell (p := ⟨w.heap.size + 1, 0, none⟩) (by simp) _).setCell (p := ⟨w.heap.size + 1 + 1, 0, none⟩) (by simp) _⟩
  case done =>
    rintro D ys W hD rfl ⟨⟨v, hv, hrow, hok⟩, ⟨h4, h5⟩, hB⟩ hK
    have hrow : W.ownsRow w9.heap.size 3 1 v (3 + 1) ((upto 4).map fun j => Value.int .i64 (decN bs j : Nat)) := hrow
    obtain ⟨g', cap', rfl⟩ := ownsRow_succ hrow
    have hc := hv.cell
    have hc4 := h4.cell
    have hf4 := h4.frozen
    have h5' := h5.other (B' := w.heap.size + 1) (by omega) (.slice (some ⟨g', 0, none⟩) (3 + 1) cap')
    have hc5 := h5'.cell
    have hf5 := h5'.frozen
    have hgood : rowsOk q (decI bs) = true := rowsOk_of.2 fun i n hin => by
      rw [decN_all hl, List.getElem?_map] at hin
      obtain ⟨j, hj, rfl⟩ := Option.map_eq_some_iff.1 hin
      exact ⟨by omega, hok j (List.mem_of_getElem? hj)⟩
    replace hgood := Tw.Hid.mk hgood
    gi_wp2
    have hK' : ((W.setCell ⟨w.heap.size + 1, 0, none⟩ (.slice (some ⟨g', 0, none⟩) (3 + 1) cap')).setCell ⟨w.heap.size + 1 + 1, 0, none⟩ (.int .i64 0)).heap[D]? = some (.deferred (some [])) := ((KeepsOthers.setCell _ _ _).trans (KeepsOthers.setCell _ _ _)).same D _ hK rfl
    refine ⟨by simp, .inl ⟨_, _, rfl, run_takeDeferred hK', ?_⟩⟩
    have g4 := ((h4.set (.slice (some ⟨g', 0, none⟩) (3 + 1) cap')).other (B' := w.heap.size + 1 + 1) (by omega) (.int .i64 0)).cell
    have g5 := (h5'.set (.int .i64 0)).cell
    have hd4 := cell_kept g4 (grownBy_putObj' _ D (.deferred none)) (fun r e => by cases e; exact ⟨_, hK', rfl⟩)
    have hd5 := cell_kept g5 (grownBy_putObj' _ D (.deferred none)) (fun r e => by cases e; exact ⟨_, hK', rfl⟩)
    have hr1 := hrow.kept (grownBy_setCell' W (w.heap.size + 1) (.slice (some ⟨g', 0, none⟩) (3 + 1) cap')) (.inr (fun e => by have := (hrow.lt g' rfl).1; simp [Value.ownBlock] at e; omega))
    have hr2 := hr1.kept (grownBy_setCell' _ (w.heap.size + 1 + 1) (.int .i64 0)) (.inr (fun e => by have := (hrow.lt g' rfl).1; simp [Value.ownBlock] at e; omega))
    have hr3 := ownsRow_putObj hr2 (.deferred none) hK' rfl
    have hr4 : ((((W.setCell ⟨w.heap.size + 1, 0, none⟩ (.slice (some ⟨g', 0, none⟩) (3 + 1) cap')).setCell ⟨w.heap.size + 1 + 1, 0, none⟩ (.int .i64 0))).putObj D (.deferred none)).ownsRow w.heap.size 3 1 (.slice (some ⟨g', 0, none⟩) 4 cap') 4 ((decI bs).map (Value.int .i64)) := by
      refine ⟨by rw [decN_all hl]; rfl, .inr ?_⟩
      rcases hr3.2 with ⟨h, _⟩ | ⟨g2, cap2, cur, h, q1, q2, q3, q4, q5, q6⟩
      · cases h
      · refine ⟨g2, cap2, cur, h, by omega, q2, q3, q4, q5, ?_⟩
        rw [q6, decN_all hl, List.map_map]; rfl
    refine ⟨.tuple #[.slice (some ⟨g', 0, none⟩) 4 cap', .int .i64 0], ?_, (hB9.trans (((hB.setCell (p := ⟨w.heap.size + 1, 0, none⟩) (by simp) _).setCell (p := ⟨w.heap.size + 1 + 1, 0, none⟩) (by simp) _).mono (by omega))).trans (belowK_b (w := w9) (by omega) _ D _ _ (by omega) hK' rfl rfl), .inl ⟨hgood.out, _, rfl, hr4⟩⟩
    simp [results, Try.f23, go_sem, hd4, hd5]
  case stop =>
    rintro D c' pre W hD hpre ⟨⟨rfl, hbad⟩, ⟨h4, h5⟩, hB⟩ hK
    have hc4 := h4.cell
    have hc5 := h5.cell
    replace hbad := Tw.Hid.mk hbad
    gi_wp2
    refine ⟨by simp, .inl ⟨_, _, rfl, run_takeDeferred hK, ?_⟩⟩
    have hd4 := cell_kept hc4 (grownBy_putObj' _ D (.deferred none)) (fun r e => by cases e; exact ⟨_, hK, rfl⟩)
    have hd5 := cell_kept hc5 (grownBy_putObj' _ D (.deferred none)) (fun r e => by cases e; exact ⟨_, hK, rfl⟩)
    refine ⟨.tuple #[.slice none 0 0, .int .i64 220], ?_, (hB9.trans (hB.mono (by omega))).trans (belowK_b (w := w9) (by omega) W D _ _ (by omega) hK rfl rfl), .inr ⟨hbad.out, rfl⟩⟩
    simp [results, Try.f23, go_sem, hd4, hd5]
end Go.Proofs.Ytenmbfplceeolaa

set_option linter.unusedVariables false
set_option linter.unusedSimpArgs false
set_option maxRecDepth 10000
namespace Go.Proofs.Ytenmbfplceeolaa
open Go Go.Tw Go.Proofs

def bktRes (k r c w : Int) (bs : List UInt8) : Res := if bktE k r c w bs = 0 then ⟨.tup [.tree 4 4 (intsA (decI bs)) false, intV 0], []⟩ else intsRes 0 [] (bktE k r c w bs)
theorem dir_Buckets (k r c w : Int) (v : AV) (bs : List UInt8) (x : List AV) (hv : RdSl v bs.length (bytesA bs ++ x)) (hn : bs.length ≤ 1000000000000) : FSpec Try.prog 23 [parV k r c w, v] (bktRes k r c w bs) := by
  have hp := hv.plain
  unfold bktRes
  cases h : mayB k r c w with
  | false =>
    have he : bktE k r c w bs = 2 := by simp [bktE, h]
    rw [if_neg (by rw [he]; decide), he]
    refine fspec_of_body follows Try.func23 (by unfold Try.f23; rfl) (by unfold Try.f23; simp) onceA (by unfold Try.f23; simp) (by kernel_rfl) ?_; unfold Try.f23
    have me : Mem.empty.next = 0 := rfl
    simp only [↓pre, post, ↓reduceIte, Nat.reduceEqDiff, Nat.reduceAdd, Nat.reduceMul, Nat.reduceSub, Nat.reduceLeDiff, Nat.reduceMod, Nat.reduceDiv, reduceCtorEq, Nat.reduceLT, Nat.reduceGT, Nat.reduceBEq, Option.isSome_some, ne_eq, Int.reduceEq, not_false_eq_true, bin_quo, bin_rem, List.length_cons, List.length_nil, List.map_cons, List.map_nil, List.append_nil, List.cons_append, List.nil_append, List.take_succ_cons, List.take_zero, List.drop_succ_cons, List.drop_zero, Nat.zero_add, Nat.add_zero, Nat.zero_le, Nat.le_refl, decide_true, decide_false, Bool.not_true, Bool.not_false, stepW, opE, intV, parV, boxE, loadE, partE, faddrE, fieldE, checkE, extractE, resultsE, resEs, resE, buildE, fillE, splice, if_true, if_false, Bool.false_eq_true, true_and, and_true, AV.cells, okA, oneA, fzs, fz, opTmp, Option.bind_some, Option.map_some, List.getElem?_cons_zero, List.getElem?_cons_succ, and_self, canonR, canon, canons, shift, shifts, pushAll, tys23, onceA, postU, h, me, Bool.false_eq_true, allocE, storeE, Nat.zero_ne_one]; repeat' ((first | refine guard_dec (fun _ => ?_) (fun _ => ?_) | refine cond_dec (fun _ => ?_) (fun _ => ?_) | refine guard_ndec (fun _ => ?_) (fun _ => ?_) | refine cond_ndec (fun _ => ?_) (fun _ => ?_) | refine guard_split (fun _ => ?_) (fun _ => ?_) | refine cond_split (fun _ => ?_) (fun _ => ?_) | refine call_plain (layout_check _ _ _ _) (by first | rfl | simp only [plains, plain, Bool.and_true, Bool.and_self, *]) ?_) <;> simp only [↓pre, post, ↓reduceIte, Nat.reduceEqDiff, Nat.reduceAdd, Nat.reduceMul, Nat.reduceSub, Nat.reduceLeDiff, Nat.reduceMod, Nat.reduceDiv, reduceCtorEq, Nat.reduceLT, Nat.reduceGT, Nat.reduceBEq, Option.isSome_some, ne_eq, Int.reduceEq, not_false_eq_true, bin_quo, bin_rem, List.length_cons, List.length_nil, List.map_cons, List.map_nil, List.append_nil, List.cons_append, List.nil_append, List.take_succ_cons, List.take_zero, List.drop_succ_cons, List.drop_zero, Nat.zero_add, Nat.add_zero, Nat.zero_le, Nat.le_refl, decide_true, decide_false, Bool.not_true, Bool.not_false, stepW, opE, intV, parV, boxE, loadE, partE, faddrE, fieldE, checkE, extractE, resultsE, resEs, resE, buildE, fillE, splice, if_true, if_false, Bool.false_eq_true, true_and, and_true, AV.cells, okA, oneA, fzs, fz, opTmp, Option.bind_some, Option.map_some, List.getElem?_cons_zero, List.getElem?_cons_succ, and_self, canonR, canon, canons, shift, shifts, pushAll, tys23, onceA, postU, h, me, Bool.false_eq_true, allocE, storeE, Nat.zero_ne_one, *])
    rfl
  | true =>
    by_cases hl : bs.length = 8
    · have he : bktE k r c w bs = if rowsOk w (decI bs) = true then 0 else 220 := by simp [bktE, h, hl]
      refine ⟨by kernel_rfl, fun W I vs hI hsz hvs => ?_⟩
      rcases hv.form with ⟨_, h0⟩ | ⟨_, _, _, h0⟩ | ⟨cc, f, rfl, hcc⟩
      · omega
      · omega
      simp only [VRs, VR] at hvs
      obtain ⟨⟨v1, h1, ps, rfl, hps, _, ⟨p0, hp0, rfl⟩, ⟨p1, hp1, rfl⟩, ⟨p2, hp2, rfl⟩, ⟨p3, hp3, rfl⟩, _⟩, ⟨v2, h2, g, o, cap, rfl, hIg, ⟨hc1, hc2⟩, _, _, hcells⟩, _⟩ := hvs
      have hps' : ps = #[.int .i64 k, .int .i64 r, .int .i64 c, .int .i64 w] := by
        match ps, hps, hp0, hp1, hp2, hp3 with
        | ⟨[a, b, d, e]⟩, _, hp0, hp1, hp2, hp3 => simp at hp0 hp1 hp2 hp3; simp [hp0, hp1, hp2, hp3]
      subst hps'
      rw [hl] at h2 hc1
      have hvs' : vs = #[.agg #[.int .i64 k, .int .i64 r, .int .i64 c, .int .i64 w], .slice (some ⟨g, o, none⟩) 8 cap] := by
        match vs, hsz, h1, h2 with
        | ⟨[a, b]⟩, _, h1, h2 => simp at h1 h2; simp [h1, h2]
      subst hvs'
      have hcs : ∀ j, j < 8 → W.cell? ⟨g, o + j, none⟩ = some (.int .u8 (bs.getD j 0).toNat) := fun j hj => by
        have hj2 := byte_at (bs := bs) (x := x) (i := j) (a := bs.getD j 0) (by rw [List.getD_eq_getElem?_getD, List.getElem?_eq_getElem (by omega)]; rfl)
        obtain ⟨u, q1, q2⟩ := VRs_at hcells hj2
        simp only [VR] at q2
        rw [q2] at q1
        exact q1
      refine (callsIn_wide.1 (buckets_in Fence.wide ⟨rfl⟩ h g o cap (by omega) bs hl W (hI g hIg) hcs)).mono fun e W' hq => ?_
      obtain ⟨hB, hq⟩ := hq
      have hnoWr : ∀ g, ¬ Wr noneR Mem.empty g := by rintro g ⟨b, kk, o, q1, _⟩; simp [Mem.empty] at q1
      have hS : ∀ I' : Nat → Prop, (∀ g, I' g → g < W'.heap.size) → SR Try.prog W' I' noneR (pushAll Mem.empty []) := fun I' hI' => ⟨fun b k g o h => by simp [pushAll, Mem.empty] at h, fun b b' k k' g o o' h => by simp [pushAll, Mem.empty] at h, hI'⟩
      have hSt : ∀ I' : Nat → Prop, (∀ g, I g → I' g) → (∀ g, I' g → I g ∨ W.heap.size ≤ g) → Step W I noneR Mem.empty W' I' noneR (pushAll Mem.empty []) := fun I' q1 q2 => ⟨hB.os, hB.tape, hB.output, hB.size, fun g hg _ => hB.block g hg, fun g y hy => by rw [shape_same (hB.block g (shape_lt hy))]; exact hy, q1, fun g hg => (q2 g hg).imp id .inr, fun _ _ h => h, fun b h1 h2 => absurd h1 h2, fun g hg => by obtain ⟨b, kk, o, q1, _⟩ := hg; simp [pushAll, Mem.empty] at q1, Nat.le_refl _⟩
      rcases hq with ⟨hr, v, rfl, hown⟩ | ⟨hr, rfl⟩
      · rw [if_pos (by rw [he, if_pos hr])]
        rcases hown.2 with ⟨rfl, h0⟩ | ⟨g2, cap2, cur, rfl, q1, q2, q3, q4, q5, q6⟩
        · omega
        refine ⟨_, (fun y => I y ∨ y = g2), noneR, rfl, ?_, hS _ ?_, hSt _ (fun y hy => .inl hy) ?_⟩
        · simp only [VR, VRs]
          refine ⟨_, rfl, rfl, ⟨_, rfl, g2, 0, cap2, rfl, .inr rfl, ⟨Nat.le_refl _, q3⟩, (fun h => by cases h), ?_, ?_⟩, ⟨_, rfl, rfl⟩, trivial⟩
          · intro a ha
            obtain ⟨z, _, rfl⟩ := List.mem_map.1 ha
            rfl
          · refine VRs_iff.2 fun j a hj => ?_
            unfold intsA at hj
            rw [List.getElem?_map] at hj
            obtain ⟨z, hz, rfl⟩ := Option.map_eq_some_iff.1 hj
            refine ⟨.int .i64 z, ?_, by simp only [intV, VR]⟩
            have hjl := (List.getElem?_eq_some_iff.1 hz).1
            have hdl := decI_len bs
            have h6 := congrArg (fun l : List Value => l[j]?) q6
            simp only [List.getElem?_map, hz, Option.map_some, Nat.mul_one] at h6
            rw [List.getElem?_take_of_lt (by omega), Array.getElem?_toList] at h6
            rw [Nat.zero_add, cell_of_row _ _ _ _ _ _ q2]
            exact h6
        · rintro y (hy | rfl)
          · exact Nat.lt_of_lt_of_le (hI y hy) hB.size
          · exact heap_lt q2
        · rintro y (hy | rfl)
          · exact .inl hy
          · exact .inr q1
      · have he' : bktE k r c w bs = 220 := by rw [he, hr]; rfl
        rw [if_neg (by rw [he']; decide), he']
        refine ⟨_, I, noneR, rfl, ?_, hS _ (fun y hy => Nat.lt_of_lt_of_le (hI y hy) hB.size), hSt _ (fun _ h => h) (fun _ h => .inl h)⟩
        simp only [intsRes, ownR, if_true, VR, VRs, nilS, intV]
        exact ⟨_, rfl, rfl, ⟨_, rfl, rfl⟩, ⟨_, rfl, rfl⟩, trivial⟩
    · have hl' : ¬ ((bs.length : Nat) : Int) = 8 := by omega
      have he : bktE k r c w bs = 220 := by simp [bktE, h, hl]
      replace hl := Hid.mk hl
      rw [if_neg (by rw [he]; decide), he]
      refine fspec_of_body follows Try.func23 (by unfold Try.f23; rfl) (by unfold Try.f23; simp) onceA (by unfold Try.f23; simp) (by kernel_rfl) ?_; unfold Try.f23
      have me : Mem.empty.next = 0 := rfl
      simp only [↓pre, post, ↓reduceIte, Nat.reduceEqDiff, Nat.reduceAdd, Nat.reduceMul, Nat.reduceSub, Nat.reduceLeDiff, Nat.reduceMod, Nat.reduceDiv, reduceCtorEq, Nat.reduceLT, Nat.reduceGT, Nat.reduceBEq, Option.isSome_some, ne_eq, Int.reduceEq, not_false_eq_true, bin_quo, bin_rem, List.length_cons, List.length_nil, List.map_cons, List.map_nil, List.append_nil, List.cons_append, List.nil_append, List.take_succ_cons, List.take_zero, List.drop_succ_cons, List.drop_zero, Nat.zero_add, Nat.add_zero, Nat.zero_le, Nat.le_refl, decide_true, decide_false, Bool.not_true, Bool.not_false, stepW, opE, intV, parV, boxE, loadE, partE, faddrE, fieldE, checkE, extractE, resultsE, resEs, resE, buildE, fillE, splice, if_true, if_false, Bool.false_eq_true, true_and, and_true, AV.cells, okA, oneA, fzs, fz, opTmp, Option.bind_some, Option.map_some, List.getElem?_cons_zero, List.getElem?_cons_succ, and_self, canonR, canon, canons, shift, shifts, pushAll, tys23, onceA, postU, h, me, hv.len', hl', allocE, storeE, Nat.zero_ne_one]; repeat' ((first | refine guard_dec (fun _ => ?_) (fun _ => ?_) | refine cond_dec (fun _ => ?_) (fun _ => ?_) | refine guard_ndec (fun _ => ?_) (fun _ => ?_) | refine cond_ndec (fun _ => ?_) (fun _ => ?_) | refine guard_split (fun _ => ?_) (fun _ => ?_) | refine cond_split (fun _ => ?_) (fun _ => ?_) | refine call_plain (layout_check _ _ _ _) (by first | rfl | simp only [plains, plain, Bool.and_true, Bool.and_self, *]) ?_) <;> simp only [↓pre, post, ↓reduceIte, Nat.reduceEqDiff, Nat.reduceAdd, Nat.reduceMul, Nat.reduceSub, Nat.reduceLeDiff, Nat.reduceMod, Nat.reduceDiv, reduceCtorEq, Nat.reduceLT, Nat.reduceGT, Nat.reduceBEq, Option.isSome_some, ne_eq, Int.reduceEq, not_false_eq_true, bin_quo, bin_rem, List.length_cons, List.length_nil, List.map_cons, List.map_nil, List.append_nil, List.cons_append, List.nil_append, List.take_succ_cons, List.take_zero, List.drop_succ_cons, List.drop_zero, Nat.zero_add, Nat.add_zero, Nat.zero_le, Nat.le_refl, decide_true, decide_false, Bool.not_true, Bool.not_false, stepW, opE, intV, parV, boxE, loadE, partE, faddrE, fieldE, checkE, extractE, resultsE, resEs, resE, buildE, fillE, splice, if_true, if_false, Bool.false_eq_true, true_and, and_true, AV.cells, okA, oneA, fzs, fz, opTmp, Option.bind_some, Option.map_some, List.getElem?_cons_zero, List.getElem?_cons_succ, and_self, canonR, canon, canons, shift, shifts, pushAll, tys23, onceA, postU, h, me, hv.len', hl', allocE, storeE, Nat.zero_ne_one, *])
      rfl
end Go.Proofs.Ytenmbfplceeolaa

set_option linter.unusedVariables false
set_option linter.unusedSimpArgs false
set_option maxRecDepth 10000
namespace Go.Proofs.Ytenmbfplceeolaa
open Go Go.Tw Go.Proofs

/-! the contracts with frozen answers -/
def bytesT (bs : List UInt8) (e : Int) : AV := .tup [treeR bs.length (bytesA bs), intV e]
def entsT (l : List Ent) (e : Int) : AV := .tup [treeR l.length (entCells l), intV e]
def intsT (l : List Int) (e : Int) : AV := .tup [treeR l.length (intsA l), intV e]
def remT (l : List Ent) (e : Int) : AV := .tup [.tree l.length l.length (entCells l) false, intV e]
theorem rd_bytes (bs : List UInt8) : RdSl (treeR bs.length (bytesA bs)) bs.length (bytesA bs ++ []) := by rw [List.append_nil]; exact treeR_rd _ _
theorem rd_ents (l : List Ent) : RdSl (treeR l.length (entCells l)) l.length (entCells l ++ []) := by rw [List.append_nil]; exact treeR_rd _ _
theorem rd_ints (l : List Int) : RdSl (treeR l.length (intsA l)) l.length (intsA l ++ []) := by rw [List.append_nil]; exact treeR_rd _ _
theorem rd_rem (l : List Ent) : RdSl (.tree l.length l.length (entCells l) false) l.length (entCells l ++ []) := by rw [List.append_nil]; exact ⟨.inr (.inr ⟨_, _, rfl, Nat.le_refl _⟩)⟩
theorem fz_bytes (n : Nat) (bs : List UInt8) (e : Int) (h : n = bs.length) : fzV (bytesRes n bs e).rows (bytesRes n bs e).v = bytesT bs e ∧ fzOk (bytesRes n bs e).v = true := by
  subst h
  have h1 := fz_ownR 5 bs.length (bytesA bs)
  have h2 := fz_ownR_ok 5 bs.length (bytesA bs)
  exact ⟨by simp only [bytesRes, fzV, fzVs, intV, bytesT]; rw [h1], by simp [bytesRes, fzOk, fzOks, intV, h2]⟩
theorem fz_ents (l : List Ent) (e : Int) : fzV (entsRes l e).rows (entsRes l e).v = entsT l e ∧ fzOk (entsRes l e).v = true := by
  have h1 := fz_ownR 37 l.length (entCells l)
  have h2 := fz_ownR_ok 37 l.length (entCells l)
  exact ⟨by simp only [entsRes, fzV, fzVs, intV, entsT]; rw [h1], by simp [entsRes, fzOk, fzOks, intV, h2]⟩
theorem fz_ints (n : Nat) (l : List Int) (e : Int) (h : n = l.length) : fzV (intsRes n l e).rows (intsRes n l e).v = intsT l e ∧ fzOk (intsRes n l e).v = true := by
  subst h
  have h1 := fz_ownR 3 l.length (intsA l)
  have h2 := fz_ownR_ok 3 l.length (intsA l)
  exact ⟨by simp only [intsRes, fzV, fzVs, intV, intsT]; rw [h1], by simp [intsRes, fzOk, fzOks, intV, h2]⟩
theorem fspec_of {f : FuncId} {args : List AV} {r : Res} {v : AV} (h : FSpec Try.prog f args r) (hv : fzV r.rows r.v = v ∧ fzOk r.v = true) : FSpec Try.prog f args ⟨v, []⟩ := by
  have := fspec_frozen h hv.2
  rw [hv.1] at this
  exact this
section
variable (k r c w : Int) (v : AV) (l : List Ent) (bs : List UInt8) (ns : List Int) (x : List AV)
def bytesE : AV := bytesT (if chk k r c w l = 0 then enc l else []) (chk k r c w l)
theorem bytes_fz {f : FuncId} {args : List AV} (h : FSpec Try.prog f args (if chk k r c w l = 0 then bytesRes (longN l) (enc l) 0 else bytesRes 0 [] (chk k r c w l))) : FSpec Try.prog f args ⟨bytesE k r c w l, []⟩ := by
  refine fspec_of h ?_
  unfold bytesE
  split
  · rename_i hc; rw [hc]; exact fz_bytes _ _ _ (enc_len l).symm
  · exact fz_bytes _ _ _ rfl
def prsT : AV := entsT (if prsE k r c w bs = 0 then prsL bs else []) (prsE k r c w bs)
theorem parse_fz {f : FuncId} {args : List AV} (h : FSpec Try.prog f args (if prsE k r c w bs = 0 then entsRes (prsL bs) 0 else entsRes [] (prsE k r c w bs))) : FSpec Try.prog f args ⟨prsT k r c w bs, []⟩ := by
  refine fspec_of h ?_
  unfold prsT
  split
  · rename_i hc; rw [hc]; exact fz_ents _ _
  · exact fz_ents _ _
def rootT : AV := bytesT (if rootE k r c w ns = 0 then encI ns else []) (rootE k r c w ns)
theorem encI_len : (encI ns).length = 2 * ns.length := by
  induction ns with
  | nil => rfl
  | cons a l ih =>
    have : encI (a :: l) = [UInt8.ofNat (a.toNat / 256), UInt8.ofNat a.toNat] ++ encI l := by simp [encI]
    rw [this, List.length_append, ih]
    simp
    omega
theorem root_fz {f : FuncId} {args : List AV} (h : FSpec Try.prog f args (if rootE k r c w ns = 0 then bytesRes 8 (encI ns) 0 else bytesRes 0 [] (rootE k r c w ns))) : FSpec Try.prog f args ⟨rootT k r c w ns, []⟩ := by
  refine fspec_of h ?_
  unfold rootT
  split
  · rename_i hc
    rw [hc]
    refine fz_bytes _ _ _ ?_
    have : ns.length = 4 := by
      unfold rootE at hc
      split at hc
      · split at hc
        · assumption
        · omega
      · omega
    rw [encI_len, this]
  · exact fz_bytes _ _ _ rfl
def bktT : AV := intsT (if bktE k r c w bs = 0 then decI bs else []) (bktE k r c w bs)
theorem bkt_len (hc : bktE k r c w bs = 0) : (decI bs).length = 4 := by
  unfold bktE at hc
  split at hc
  · split at hc
    · rename_i h; rw [decI_len, h]
    · omega
  · omega
theorem bkt_fz {f : FuncId} {args : List AV} (h : FSpec Try.prog f args (if bktE k r c w bs = 0 then intsRes 4 (decI bs) 0 else intsRes 0 [] (bktE k r c w bs))) : FSpec Try.prog f args ⟨bktT k r c w bs, []⟩ := by
  refine fspec_of h ?_
  unfold bktT
  split
  · rename_i hc; rw [hc]; exact fz_ints _ _ _ (bkt_len k r c w bs hc).symm
  · exact fz_ints _ _ _ rfl
theorem bkt_fz2 {f : FuncId} {args : List AV} (h : FSpec Try.prog f args (bktRes k r c w bs)) : FSpec Try.prog f args ⟨bktT k r c w bs, []⟩ := by
  refine fspec_of h ?_
  unfold bktT bktRes
  split
  · rename_i hc
    have h4 := bkt_len k r c w bs hc
    rw [hc]
    simp [fzV, fzVs, fzOk, fzOks, intV, intsT, treeR, h4]
  · exact fz_ints _ _ _ rfl
end
section
variable (k r c w : Int) (l : List Ent) (s : ByteArray) (z : Int)
def addT : AV := entsT (if addE k r c w l (s, z) = 0 then insL l (posL l s) (s, z) else []) (addE k r c w l (s, z))
theorem add_fz {f : FuncId} {args : List AV} (h : FSpec Try.prog f args (if addE k r c w l (s, z) = 0 then entsRes (insL l (posL l s) (s, z)) 0 else entsRes [] (addE k r c w l (s, z)))) : FSpec Try.prog f args ⟨addT k r c w l s z, []⟩ := by
  refine fspec_of h ?_
  unfold addT
  split
  · rename_i hc; rw [hc]; exact fz_ents _ _
  · exact fz_ents _ _
theorem add_fz2 {f : FuncId} {args : List AV} (h : FSpec Try.prog f args (if addE k r c w l (s, z) = 0 then entsOwn (insL l (posL l s) (s, z)) 0 else entsRes [] (addE k r c w l (s, z)))) : FSpec Try.prog f args ⟨addT k r c w l s z, []⟩ := by
  refine fspec_of h ?_
  unfold addT
  split
  · rename_i hc
    rw [hc]
    have : (insL l (posL l s) (s, z)).length ≠ 0 := by rw [ins_len]; omega
    simp [fzV, fzVs, fzOk, fzOks, intV, entsT, entsOwn, treeR, this]
  · exact fz_ents _ _
/-- what Remove answers: a row of its own, or nil -/
def remA (own : Bool) : AV := if remE k r c w l s = 0 then (if own then remT (remL l (posL l s)) 0 else entsT (remL l (posL l s)) 0) else entsT [] (remE k r c w l s)
theorem rem_fz {f : FuncId} {args : List AV} (h : FSpec Try.prog f args (if remE k r c w l s = 0 then entsRes (remL l (posL l s)) 0 else entsRes [] (remE k r c w l s))) : FSpec Try.prog f args ⟨remA k r c w l s false, []⟩ := by
  refine fspec_of h ?_
  unfold remA
  split
  · exact fz_ents _ _
  · exact fz_ents _ _
theorem rem_fz2 {f : FuncId} {args : List AV} (h : FSpec Try.prog f args (if remE k r c w l s = 0 then entsOwn (remL l (posL l s)) 0 else entsRes [] (remE k r c w l s))) : FSpec Try.prog f args ⟨remA k r c w l s true, []⟩ := by
  refine fspec_of h ?_
  unfold remA
  split
  · simp [fzV, fzVs, fzOk, fzOks, intV, remT, entsOwn]
  · exact fz_ents _ _
end
end Go.Proofs.Ytenmbfplceeolaa

set_option linter.unusedVariables false
set_option linter.unusedSimpArgs false
set_option maxRecDepth 10000
namespace Go.Proofs.Ytenmbfplceeolaa
open Go Go.Tw Go.Proofs

theorem zeros_u8 (n : Nat) : zerosE Try.prog 5 n = some (List.replicate n (.val (.int .u8 0))) := by
  have h1 : szE Try.prog 5 = some 1 := by kernel_rfl
  have h2 : zeroE Try.prog 5 = some [.int .u8 0] := by kernel_rfl
  by_cases h : n = 0
  · subst h; simp [zerosE, h1]
  · simp only [zerosE, h1, Option.bind_some, Nat.mul_one, h2, if_neg h]
    rw [if_pos (show [Value.int .u8 0].length = 1 from rfl)]
    congr 1
    apply List.ext_getElem
    · simp
    · intro i h1 h2
      simp [Nat.mod_one]
def ent3 (i : Nat) : Ent := (⟨#[UInt8.ofNat (i / 256), UInt8.ofNat (i % 256), 120]⟩, ((i % 8 : Nat) : Int))
def manyL (n : Nat) : List Ent := (List.range n).map ent3
theorem many_succ (n : Nat) : manyL (n + 1) = manyL n ++ [ent3 n] := by simp [manyL, List.range_succ]
theorem law22_many (n : Nat) (hn : n ≤ 1000) : FSpec Try.prog 16 [intV (n : Nat)] ⟨treeR n (entCells (manyL n)), []⟩ := by
  have h : FSpec Try.prog 16 [intV (n : Nat)] (ownR EL n (entCells (manyL n))) := by
    refine fspec_of_body follows Try.func16 (by unfold Try.f16; rfl) (by unfold Try.f16; simp) onceA (by unfold Try.f16; simp) (by kernel_rfl) ?_; unfold Try.f16
    simp only [↓pre, post, ↓reduceIte, Nat.reduceEqDiff, Nat.reduceAdd, Nat.reduceMul, Nat.reduceSub, Nat.reduceLeDiff, Nat.reduceMod, Nat.reduceDiv, reduceCtorEq, Nat.reduceLT, Nat.reduceGT, Nat.reduceBEq, Option.isSome_some, ne_eq, Int.reduceEq, not_false_eq_true, bin_quo, bin_rem, List.length_cons, List.length_nil, List.map_cons, List.map_nil, List.append_nil, List.cons_append, List.nil_append, List.take_succ_cons, List.take_zero, List.drop_succ_cons, List.drop_zero, Nat.zero_add, Nat.add_zero, Nat.zero_le, Nat.le_refl, decide_true, decide_false, Bool.not_true, Bool.not_false, stepW, opE, intV, parV, boxE, loadE, partE, faddrE, fieldE, checkE, extractE, resultsE, resEs, resE, buildE, fillE, splice, if_true, if_false, Bool.false_eq_true, true_and, and_true, AV.cells, okA, oneA, fzs, fz, opTmp, Option.bind_some, Option.map_some, List.getElem?_cons_zero, List.getElem?_cons_succ, and_self, canonR, canon, canons, shift, shifts, pushAll, tys16, onceA, postU]
    rw [codeW_loop]
    refine loop_intro (fun q e m => ∃ i, q + i = n ∧ e 0 = intV (n : Nat) ∧ e 4 = intV (i : Nat) ∧ Tw.Own m EL 2 (e 3) i (entCells (manyL i))) n ⟨0, by omega, ?_⟩ ?_
    · simp [Env.set, entryE, intV, manyL, entCells]
      exact own_nil
    · rintro q e m ⟨i, hi, e0, e4, ho⟩
      by_cases hlt : i < n
      · have hlt' : (i : Int) < (n : Nat) := by omega
        have w1 := wrap_succ (n := i) (by omega)
        have z1 : (i : Int).tdiv 256 = ((i / 256 : Nat) : Int) := by rw [Int.tdiv_eq_ediv_of_nonneg (by omega)]; omega
        have z2 : (i : Int).tmod 256 = ((i % 256 : Nat) : Int) := by rw [Int.tmod_eq_emod_of_nonneg (by omega)]; omega
        have z3 : (i : Int).tmod 8 = ((i % 8 : Nat) : Int) := by rw [Int.tmod_eq_emod_of_nonneg (by omega)]; omega
        have z5 : IntKind.i64.wrap ((i / 256 : Nat) : Int) = ((i / 256 : Nat) : Int) := wrap_nat (by omega)
        have z6 : IntKind.u8.wrap ((i / 256 : Nat) : Int) = ((UInt8.ofNat (i / 256)).toNat : Int) := u8_wrap _
        have z7 : IntKind.u8.wrap ((i % 256 : Nat) : Int) = ((UInt8.ofNat (i % 256)).toNat : Int) := u8_wrap _
        have hb := fun (m : Mem) (a b : Int) => buildT_of (P := Try.prog) (m := m) (t := 29) (n := 3) (sz := 1) (el := 5) (parts := [(0, .val (.int .u8 a)), (1, .val (.int .u8 b)), (2, .val (.int .u8 120))]) (cells := [.val (.int .u8 a), .val (.int .u8 b), .val (.int .u8 120)]) (by kernel_rfl) (by kernel_rfl) (zeros_u8 3) rfl rfl (by decide)
        have hcv : ∀ m : Mem, convE Try.prog m 29 9 (.tree 3 3 [.val (.int .u8 (UInt8.ofNat (i / 256)).toNat), .val (.int .u8 (UInt8.ofNat (i % 256)).toNat), .val (.int .u8 120)] true) = some ⟨.val (.string (ent3 i).1), m, none⟩ := fun m => by
          have hr : RdSl (.tree 3 3 ((ent3 i).1.data.toList.map byteV ++ []) true) (ent3 i).1.data.toList.length ((ent3 i).1.data.toList.map byteV ++ []) := ⟨.inr (.inr ⟨3, true, rfl, Nat.le_refl _⟩)⟩
          exact hr.str (P := Try.prog) (m := m) (el := 5) (src := 29) (dst := 9) (by kernel_rfl) (by kernel_rfl) (by kernel_rfl) (by kernel_rfl)
        have hbT := fun (m : Mem) (s : ByteArray) (z : Int) => buildT1a (P := Try.prog) (m := m) (t := 30) (a := .string s) (b := .int .i64 z) rfl rfl (by kernel_rfl) (by kernel_rfl)
        replace ho := Tw.Hid.mk ho
        simp only [↓pre, post, ↓reduceIte, Nat.reduceEqDiff, Nat.reduceAdd, Nat.reduceMul, Nat.reduceSub, Nat.reduceLeDiff, Nat.reduceMod, Nat.reduceDiv, reduceCtorEq, Nat.reduceLT, Nat.reduceGT, Nat.reduceBEq, Option.isSome_some, ne_eq, Int.reduceEq, not_false_eq_true, bin_quo, bin_rem, List.length_cons, List.length_nil, List.map_cons, List.map_nil, List.append_nil, List.cons_append, List.nil_append, List.take_succ_cons, List.take_zero, List.drop_succ_cons, List.drop_zero, Nat.zero_add, Nat.add_zero, Nat.zero_le, Nat.le_refl, decide_true, decide_false, Bool.not_true, Bool.not_false, stepW, opE, intV, parV, boxE, loadE, partE, faddrE, fieldE, checkE, extractE, resultsE, resEs, resE, buildE, fillE, splice, if_true, if_false, Bool.false_eq_true, true_and, and_true, AV.cells, okA, oneA, fzs, fz, opTmp, Option.bind_some, Option.map_some, List.getElem?_cons_zero, List.getElem?_cons_succ, and_self, canonR, canon, canons, shift, shifts, pushAll, tys16, onceA, postU, postV, e0, e4, hlt', w1, z1, z2, z3, z5, z6, z7, hb, hcv, hbT]; repeat' ((first | refine guard_dec (fun _ => ?_) (fun _ => ?_) | refine cond_dec (fun _ => ?_) (fun _ => ?_) | refine guard_ndec (fun _ => ?_) (fun _ => ?_) | refine cond_ndec (fun _ => ?_) (fun _ => ?_) | refine guard_split (fun _ => ?_) (fun _ => ?_) | refine cond_split (fun _ => ?_) (fun _ => ?_)) <;> simp only [↓pre, post, ↓reduceIte, Nat.reduceEqDiff, Nat.reduceAdd, Nat.reduceMul, Nat.reduceSub, Nat.reduceLeDiff, Nat.reduceMod, Nat.reduceDiv, reduceCtorEq, Nat.reduceLT, Nat.reduceGT, Nat.reduceBEq, Option.isSome_some, ne_eq, Int.reduceEq, not_false_eq_true, bin_quo, bin_rem, List.length_cons, List.length_nil, List.map_cons, List.map_nil, List.append_nil, List.cons_append, List.nil_append, List.take_succ_cons, List.take_zero, List.drop_succ_cons, List.drop_zero, Nat.zero_add, Nat.add_zero, Nat.zero_le, Nat.le_refl, decide_true, decide_false, Bool.not_true, Bool.not_false, stepW, opE, intV, parV, boxE, loadE, partE, faddrE, fieldE, checkE, extractE, resultsE, resEs, resE, buildE, fillE, splice, if_true, if_false, Bool.false_eq_true, true_and, and_true, AV.cells, okA, oneA, fzs, fz, opTmp, Option.bind_some, Option.map_some, List.getElem?_cons_zero, List.getElem?_cons_succ, and_self, canonR, canon, canons, shift, shifts, pushAll, tys16, onceA, postU, postV, e0, e4, hlt', w1, z1, z2, z3, z5, z6, z7, hb, hcv, hbT, *])
        refine app_ents ho.out srcT1a rfl (by omega) (fun v3 m3 ho3 hn3 => ?_)
        simp only [↓pre, post, ↓reduceIte, Nat.reduceEqDiff, Nat.reduceAdd, Nat.reduceMul, Nat.reduceSub, Nat.reduceLeDiff, Nat.reduceMod, Nat.reduceDiv, reduceCtorEq, Nat.reduceLT, Nat.reduceGT, Nat.reduceBEq, Option.isSome_some, ne_eq, Int.reduceEq, not_false_eq_true, bin_quo, bin_rem, List.length_cons, List.length_nil, List.map_cons, List.map_nil, List.append_nil, List.cons_append, List.nil_append, List.take_succ_cons, List.take_zero, List.drop_succ_cons, List.drop_zero, Nat.zero_add, Nat.add_zero, Nat.zero_le, Nat.le_refl, decide_true, decide_false, Bool.not_true, Bool.not_false, stepW, opE, intV, parV, boxE, loadE, partE, faddrE, fieldE, checkE, extractE, resultsE, resEs, resE, buildE, fillE, splice, if_true, if_false, Bool.false_eq_true, true_and, and_true, AV.cells, okA, oneA, fzs, fz, opTmp, Option.bind_some, Option.map_some, List.getElem?_cons_zero, List.getElem?_cons_succ, and_self, canonR, canon, canons, shift, shifts, pushAll, tys16, onceA, postU, postV, e0, e4, w1]
        refine ⟨q - 1, by omega, i + 1, by omega, rfl, ?_⟩
        rw [many_succ, entCells_app]
        exact ho3
      · have hlt' : ¬ (i : Int) < (n : Nat) := by omega
        have hin : i = n := by omega
        subst hin
        simp only [↓pre, post, ↓reduceIte, Nat.reduceEqDiff, Nat.reduceAdd, Nat.reduceMul, Nat.reduceSub, Nat.reduceLeDiff, Nat.reduceMod, Nat.reduceDiv, reduceCtorEq, Nat.reduceLT, Nat.reduceGT, Nat.reduceBEq, Option.isSome_some, ne_eq, Int.reduceEq, not_false_eq_true, bin_quo, bin_rem, List.length_cons, List.length_nil, List.map_cons, List.map_nil, List.append_nil, List.cons_append, List.nil_append, List.take_succ_cons, List.take_zero, List.drop_succ_cons, List.drop_zero, Nat.zero_add, Nat.add_zero, Nat.zero_le, Nat.le_refl, decide_true, decide_false, Bool.not_true, Bool.not_false, stepW, opE, intV, parV, boxE, loadE, partE, faddrE, fieldE, checkE, extractE, resultsE, resEs, resE, buildE, fillE, splice, if_true, if_false, Bool.false_eq_true, true_and, and_true, AV.cells, okA, oneA, fzs, fz, opTmp, Option.bind_some, Option.map_some, List.getElem?_cons_zero, List.getElem?_cons_succ, and_self, canonR, canon, canons, shift, shifts, pushAll, tys16, onceA, postU, e0, e4, hlt', decide_false, cond_f]
        rw [own_canon ho]
        rfl
  have := fspec_frozen h (fz_ownR_ok _ _ _)
  rw [fz_ownR] at this
  exact this
end Go.Proofs.Ytenmbfplceeolaa

set_option linter.unusedVariables false
set_option linter.unusedSimpArgs false
set_option maxRecDepth 10000
namespace Go.Proofs.Ytenmbfplceeolaa
open Go Go.Tw Go.Proofs

theorem zeros_ents (n : Nat) : zerosE Try.prog EL n = some ((List.replicate n [.val (.string .empty), .val (.int .i64 0)]).flatten) := by
  by_cases h : n = 0
  · subst h; simp [zerosE, szE_ent]
  · simp only [zerosE, szE_ent, Option.bind_some, zeroE_ent]
    rw [if_neg (by omega), if_pos (show [Value.string .empty, Value.int .i64 0].length = 2 from rfl)]
    congr 1
    clear h
    induction n with
    | zero => rfl
    | succ n ih =>
      rw [show (n + 1) * 2 = n * 2 + 2 by omega, List.range_add, List.map_append, ih, List.replicate_succ', List.flatten_append]
      congr 1
      simp [List.range_succ]
theorem zeros_int (n : Nat) : zerosE Try.prog 3 n = some (List.replicate n (.val (.int .i64 0))) := by
  have h1 : szE Try.prog 3 = some 1 := by kernel_rfl
  have h2 : zeroE Try.prog 3 = some [.int .i64 0] := by kernel_rfl
  by_cases h : n = 0
  · subst h; simp [zerosE, h1]
  · simp only [zerosE, h1, Option.bind_some, Nat.mul_one, h2, if_neg h]
    rw [if_pos (show [Value.int .i64 0].length = 1 from rfl)]
    congr 1
    apply List.ext_getElem
    · simp
    · intro i h1 h2
      simp [Nat.mod_one]
/-- a literal of entries -/
theorem lit_ents {l : List Ent} {m : Mem} (n : Nat) (hn : l.length = n) {parts : List (Nat × AV)} (h : fillE (fun i => some (i * 2, 2)) ((List.replicate l.length [.val (.string .empty), .val (.int .i64 0)]).flatten) parts = some (entCells l)) (h2 : hasRefs (entCells l) = false) (h3 : l.length * 2 ≤ 16777216) : buildTreeE Try.prog m 30 n parts = some ⟨.tree n n (entCells l) true, m, none⟩ := by
  subst hn
  exact buildT_of elE_ents szE_ent (zeros_ents _) h h2 h3
theorem lit_bytes {l : List UInt8} {m : Mem} (n : Nat) (hn : l.length = n) {parts : List (Nat × AV)} (h : fillE (fun i => some (i * 1, 1)) (List.replicate l.length (.val (.int .u8 0))) parts = some (bytesA l)) (h2 : hasRefs (bytesA l) = false) (h3 : l.length * 1 ≤ 16777216) : buildTreeE Try.prog m 29 n parts = some ⟨.tree n n (bytesA l) true, m, none⟩ := by
  subst hn
  exact buildT_of (by kernel_rfl) (by kernel_rfl) (zeros_u8 _) h h2 h3
theorem lit_ints {l : List Int} {m : Mem} (n : Nat) (hn : l.length = n) {parts : List (Nat × AV)} (h : fillE (fun i => some (i * 1, 1)) (List.replicate l.length (.val (.int .i64 0))) parts = some (intsA l)) (h2 : hasRefs (intsA l) = false) (h3 : l.length * 1 ≤ 16777216) : buildTreeE Try.prog m 43 n parts = some ⟨.tree n n (intsA l) true, m, none⟩ := by
  subst hn
  exact buildT_of (by kernel_rfl) (by kernel_rfl) (zeros_int _) h h2 h3
theorem rd_tree (n : Nat) (cs : List AV) (f : Bool) : RdSl (.tree n n cs f) n (cs ++ []) := by rw [List.append_nil]; exact ⟨.inr (.inr ⟨n, f, rfl, Nat.le_refl _⟩)⟩
/-- bytes read as a string -/
theorem conv_bytes {v : AV} {bs : List UInt8} {x : List AV} (hv : RdSl v bs.length (bytesA bs ++ x)) (m : Mem) : convE Try.prog m 29 9 v = some ⟨.val (.string ⟨bs.toArray⟩), m, none⟩ :=
  RdSl.str (P := Try.prog) (m := m) (el := 5) (src := 29) (dst := 9) hv (by kernel_rfl) (by kernel_rfl) (by kernel_rfl) (by kernel_rfl)
def la : List Ent := [(⟨#[97]⟩, 5), (⟨#[97, 98]⟩, 31)]
def lb : List Ent := [(⟨#[97]⟩, 5)]
def lc : List Ent := [(⟨#[98]⟩, 1)]
def ld : List Ent := [(⟨#[97]⟩, 2), (⟨#[98]⟩, 1)]
theorem alive1 : bytesE 4 2 16 32 la = bytesT [1, 97, 0, 5, 2, 97, 98, 0, 31] 0 := by kernel_rfl
theorem alive2 : prsT 4 2 16 32 [1, 97, 0, 5] = entsT lb 0 := by
  have h : parseL [1, 97, 0, 5] = some lb := enc_parse lb (by decide)
  have h2 : prsE 4 2 16 32 [1, 97, 0, 5] = 0 := by simp only [prsE, h]; kernel_rfl
  rw [prsT, h2, if_pos rfl, prsL, h]; rfl
theorem alive3 : prsT 4 2 16 32 [1, 97, 0] = entsT [] 220 := by
  have h : parseL [1, 97, 0] = none := parse_bad (by decide)
  have h2 : prsE 4 2 16 32 [1, 97, 0] = 220 := by simp only [prsE, h]; kernel_rfl
  rw [prsT, h2, if_neg (by decide)]
theorem alive4 : findT 4 2 16 32 lb ⟨#[97]⟩ = .tup [intV 5, boolV true, intV 0] := by kernel_rfl
theorem alive5 : addT 4 2 16 32 lc ⟨#[97]⟩ 2 = entsT ld 0 := by kernel_rfl
theorem alive6 : addT 4 2 16 32 lb ⟨#[97]⟩ 2 = entsT [] 7 := by kernel_rfl
theorem alive7 : remA 4 2 16 32 lb ⟨#[98]⟩ true = entsT [] 8 := by kernel_rfl
theorem alive8 : rootT 4 2 16 32 [1, 2, 3, 31] = bytesT [0, 1, 0, 2, 0, 3, 0, 31] 0 := by kernel_rfl
theorem alive9 : bktT 4 2 16 32 [0, 1, 0, 2, 0, 3, 0, 31] = intsT [1, 2, 3, 31] 0 := by kernel_rfl
theorem law22_alive : FSpec Try.prog 15 [] ⟨boolV true, []⟩ := by
  have c1 := bytes_fz _ _ _ _ _ (dir_Bytes 4 2 16 32 _ la [] (rd_tree 2 (entCells la) true) (by decide) (by decide))
  have c2 := parse_fz _ _ _ _ _ (dir_Parse 4 2 16 32 _ [1, 97, 0, 5] [] (rd_tree 4 (bytesA [1, 97, 0, 5]) true) (by decide))
  have c3 := parse_fz _ _ _ _ _ (dir_Parse 4 2 16 32 _ [1, 97, 0] [] (rd_tree 3 (bytesA [1, 97, 0]) true) (by decide))
  have c4 := dir_Find 4 2 16 32 _ lb [] ⟨#[97]⟩ (rd_ents lb) (by decide) (by decide) (by decide)
  have c5 := add_fz2 _ _ _ _ _ _ _ (dir_Add 4 2 16 32 _ lc [] ⟨#[97]⟩ 2 (rd_tree 1 (entCells lc) true) (by decide) (by decide) (by decide))
  have c6 := add_fz2 _ _ _ _ _ _ _ (dir_Add 4 2 16 32 _ lb [] ⟨#[97]⟩ 2 (rd_ents lb) (by decide) (by decide) (by decide))
  have c7 := rem_fz2 _ _ _ _ _ _ (dir_Remove 4 2 16 32 _ lb [] ⟨#[98]⟩ (rd_ents lb) (by decide) (by decide) (by decide))
  have c8 := root_fz _ _ _ _ _ (dir_Root 4 2 16 32 _ [1, 2, 3, 31] [] (rd_tree 4 (intsA [1, 2, 3, 31]) true) (by decide))
  have c9 := bkt_fz2 _ _ _ _ _ (dir_Buckets 4 2 16 32 _ [0, 1, 0, 2, 0, 3, 0, 31] [] (rd_bytes _) (by decide))
  have ca := ref07_Same _ _ [1, 2, 3, 31] [1, 2, 3, 31] [] [] (rd_ints [1, 2, 3, 31]) (rd_tree 4 (intsA [1, 2, 3, 31]) true) (by decide) (by decide)
  rw [alive1] at c1
  rw [alive2] at c2
  rw [alive3] at c3
  rw [alive4] at c4
  rw [alive5] at c5
  rw [alive6] at c6
  rw [alive7] at c7
  rw [alive8] at c8
  rw [alive9] at c9
  refine fspec_of_body follows Try.func15 (by unfold Try.f15; rfl) (by unfold Try.f15; simp) onceA (by unfold Try.f15; simp) (by kernel_rfl) ?_; unfold Try.f15
  have b1 := fun m : Mem => lit_ents (l := la) (m := m) 2 rfl (parts := [(0, .agg [.val (.string ⟨#[97]⟩), .val (.int .i64 5)]), (1, .agg [.val (.string ⟨#[97, 98]⟩), .val (.int .i64 31)])]) rfl rfl (by decide)
  have b2 := fun m : Mem => lit_bytes (l := [1, 97, 0, 5]) (m := m) 4 rfl (parts := [(0, .val (.int .u8 1)), (1, .val (.int .u8 97)), (2, .val (.int .u8 0)), (3, .val (.int .u8 5))]) rfl rfl (by decide)
  have b3 := fun m : Mem => lit_bytes (l := [1, 97, 0]) (m := m) 3 rfl (parts := [(0, .val (.int .u8 1)), (1, .val (.int .u8 97)), (2, .val (.int .u8 0))]) rfl rfl (by decide)
  have b4 := fun m : Mem => lit_ents (l := lc) (m := m) 1 rfl (parts := [(0, .agg [.val (.string ⟨#[98]⟩), .val (.int .i64 1)])]) rfl rfl (by decide)
  have b5 := fun m : Mem => lit_ints (l := [1, 2, 3, 31]) (m := m) 4 rfl (parts := [(0, .val (.int .i64 1)), (1, .val (.int .i64 2)), (2, .val (.int .i64 3)), (3, .val (.int .i64 31))]) rfl rfl (by decide)
  have hsm : sameI [1, 2, 3, 31] [1, 2, 3, 31] = true := by decide
  have n1 : ((lb.length : Nat) : Int) = 1 := rfl
  have n2 : ((ld.length : Nat) : Int) = 2 := rfl
  have v1 : ∀ m : Mem, convE Try.prog m 29 9 (treeR 9 (bytesA [1, 97, 0, 5, 2, 97, 98, 0, 31])) = some ⟨.val (.string ⟨#[1, 97, 0, 5, 2, 97, 98, 0, 31]⟩), m, none⟩ := conv_bytes (rd_bytes [1, 97, 0, 5, 2, 97, 98, 0, 31])
  have v2 : ∀ m : Mem, convE Try.prog m 29 9 (treeR 8 (bytesA [0, 1, 0, 2, 0, 3, 0, 31])) = some ⟨.val (.string ⟨#[0, 1, 0, 2, 0, 3, 0, 31]⟩), m, none⟩ := conv_bytes (rd_bytes [0, 1, 0, 2, 0, 3, 0, 31])
  have k0 : 0 < ld.length := by decide
  have k1 : 1 < ld.length := by decide
  have g0 : (entCells ld)[0]? = some (.val (.string ⟨#[97]⟩)) := rfl
  have g1 : (entCells ld)[3]? = some (.val (.int .i64 1)) := rfl
  simp only [↓pre, post, ↓reduceIte, Nat.reduceEqDiff, Nat.reduceAdd, Nat.reduceMul, Nat.reduceSub, Nat.reduceLeDiff, Nat.reduceMod, Nat.reduceDiv, reduceCtorEq, Nat.reduceLT, Nat.reduceGT, Nat.reduceBEq, Option.isSome_some, ne_eq, Int.reduceEq, not_false_eq_true, bin_quo, bin_rem, List.length_cons, List.length_nil, List.map_cons, List.map_nil, List.append_nil, List.cons_append, List.nil_append, List.take_succ_cons, List.take_zero, List.drop_succ_cons, List.drop_zero, Nat.zero_add, Nat.add_zero, Nat.zero_le, Nat.le_refl, decide_true, decide_false, Bool.not_true, Bool.not_false, stepW, opE, intV, parV, boxE, loadE, partE, faddrE, fieldE, checkE, extractE, resultsE, resEs, resE, buildE, fillE, splice, if_true, if_false, Bool.false_eq_true, true_and, and_true, AV.cells, okA, oneA, fzs, fz, opTmp, Option.bind_some, Option.map_some, List.getElem?_cons_zero, List.getElem?_cons_succ, and_self, canonR, canon, canons, shift, shifts, pushAll, tys15, onceA, postU, postV, allocE, storeE, postFz, eq_self, boolV, hsm, bytesT, entsT, intsT, n1, n2, v1, v2, k0, k1, g0, g1, b1, b2, b3, b4, b5]
  refine call_plain (law22_sample) (by first | rfl | simp only [plains, plain, plain_treeR, Bool.and_true, Bool.and_self, *]) ?_
  simp only [↓pre, post, ↓reduceIte, Nat.reduceEqDiff, Nat.reduceAdd, Nat.reduceMul, Nat.reduceSub, Nat.reduceLeDiff, Nat.reduceMod, Nat.reduceDiv, reduceCtorEq, Nat.reduceLT, Nat.reduceGT, Nat.reduceBEq, Option.isSome_some, ne_eq, Int.reduceEq, not_false_eq_true, bin_quo, bin_rem, List.length_cons, List.length_nil, List.map_cons, List.map_nil, List.append_nil, List.cons_append, List.nil_append, List.take_succ_cons, List.take_zero, List.drop_succ_cons, List.drop_zero, Nat.zero_add, Nat.add_zero, Nat.zero_le, Nat.le_refl, decide_true, decide_false, Bool.not_true, Bool.not_false, stepW, opE, intV, parV, boxE, loadE, partE, faddrE, fieldE, checkE, extractE, resultsE, resEs, resE, buildE, fillE, splice, if_true, if_false, Bool.false_eq_true, true_and, and_true, AV.cells, okA, oneA, fzs, fz, opTmp, Option.bind_some, Option.map_some, List.getElem?_cons_zero, List.getElem?_cons_succ, and_self, canonR, canon, canons, shift, shifts, pushAll, tys15, onceA, postU, postV, allocE, storeE, postFz, eq_self, boolV, hsm, bytesT, entsT, intsT, n1, n2, v1, v2, k0, k1, g0, g1, b1, b2, b3, b4, b5]
  refine call_plain (c1) (by first | rfl | simp only [plains, plain, plain_treeR, Bool.and_true, Bool.and_self, *]) ?_
  simp only [↓pre, post, ↓reduceIte, Nat.reduceEqDiff, Nat.reduceAdd, Nat.reduceMul, Nat.reduceSub, Nat.reduceLeDiff, Nat.reduceMod, Nat.reduceDiv, reduceCtorEq, Nat.reduceLT, Nat.reduceGT, Nat.reduceBEq, Option.isSome_some, ne_eq, Int.reduceEq, not_false_eq_true, bin_quo, bin_rem, List.length_cons, List.length_nil, List.map_cons, List.map_nil, List.append_nil, List.cons_append, List.nil_append, List.take_succ_cons, List.take_zero, List.drop_succ_cons, List.drop_zero, Nat.zero_add, Nat.add_zero, Nat.zero_le, Nat.le_refl, decide_true, decide_false, Bool.not_true, Bool.not_false, stepW, opE, intV, parV, boxE, loadE, partE, faddrE, fieldE, checkE, extractE, resultsE, resEs, resE, buildE, fillE, splice, if_true, if_false, Bool.false_eq_true, true_and, and_true, AV.cells, okA, oneA, fzs, fz, opTmp, Option.bind_some, Option.map_some, List.getElem?_cons_zero, List.getElem?_cons_succ, and_self, canonR, canon, canons, shift, shifts, pushAll, tys15, onceA, postU, postV, allocE, storeE, postFz, eq_self, boolV, hsm, bytesT, entsT, intsT, n1, n2, v1, v2, k0, k1, g0, g1, b1, b2, b3, b4, b5]
  refine call_plain (c2) (by first | rfl | simp only [plains, plain, plain_treeR, Bool.and_true, Bool.and_self, *]) ?_
  simp only [↓pre, post, ↓reduceIte, Nat.reduceEqDiff, Nat.reduceAdd, Nat.reduceMul, Nat.reduceSub, Nat.reduceLeDiff, Nat.reduceMod, Nat.reduceDiv, reduceCtorEq, Nat.reduceLT, Nat.reduceGT, Nat.reduceBEq, Option.isSome_some, ne_eq, Int.reduceEq, not_false_eq_true, bin_quo, bin_rem, List.length_cons, List.length_nil, List.map_cons, List.map_nil, List.append_nil, List.cons_append, List.nil_append, List.take_succ_cons, List.take_zero, List.drop_succ_cons, List.drop_zero, Nat.zero_add, Nat.add_zero, Nat.zero_le, Nat.le_refl, decide_true, decide_false, Bool.not_true, Bool.not_false, stepW, opE, intV, parV, boxE, loadE, partE, faddrE, fieldE, checkE, extractE, resultsE, resEs, resE, buildE, fillE, splice, if_true, if_false, Bool.false_eq_true, true_and, and_true, AV.cells, okA, oneA, fzs, fz, opTmp, Option.bind_some, Option.map_some, List.getElem?_cons_zero, List.getElem?_cons_succ, and_self, canonR, canon, canons, shift, shifts, pushAll, tys15, onceA, postU, postV, allocE, storeE, postFz, eq_self, boolV, hsm, bytesT, entsT, intsT, n1, n2, v1, v2, k0, k1, g0, g1, b1, b2, b3, b4, b5]
  refine call_plain (c3) (by first | rfl | simp only [plains, plain, plain_treeR, Bool.and_true, Bool.and_self, *]) ?_
  simp only [↓pre, post, ↓reduceIte, Nat.reduceEqDiff, Nat.reduceAdd, Nat.reduceMul, Nat.reduceSub, Nat.reduceLeDiff, Nat.reduceMod, Nat.reduceDiv, reduceCtorEq, Nat.reduceLT, Nat.reduceGT, Nat.reduceBEq, Option.isSome_some, ne_eq, Int.reduceEq, not_false_eq_true, bin_quo, bin_rem, List.length_cons, List.length_nil, List.map_cons, List.map_nil, List.append_nil, List.cons_append, List.nil_append, List.take_succ_cons, List.take_zero, List.drop_succ_cons, List.drop_zero, Nat.zero_add, Nat.add_zero, Nat.zero_le, Nat.le_refl, decide_true, decide_false, Bool.not_true, Bool.not_false, stepW, opE, intV, parV, boxE, loadE, partE, faddrE, fieldE, checkE, extractE, resultsE, resEs, resE, buildE, fillE, splice, if_true, if_false, Bool.false_eq_true, true_and, and_true, AV.cells, okA, oneA, fzs, fz, opTmp, Option.bind_some, Option.map_some, List.getElem?_cons_zero, List.getElem?_cons_succ, and_self, canonR, canon, canons, shift, shifts, pushAll, tys15, onceA, postU, postV, allocE, storeE, postFz, eq_self, boolV, hsm, bytesT, entsT, intsT, n1, n2, v1, v2, k0, k1, g0, g1, b1, b2, b3, b4, b5]
  refine call_plain (c4) (by first | rfl | simp only [plains, plain, plain_treeR, Bool.and_true, Bool.and_self, *]) ?_
  simp only [↓pre, post, ↓reduceIte, Nat.reduceEqDiff, Nat.reduceAdd, Nat.reduceMul, Nat.reduceSub, Nat.reduceLeDiff, Nat.reduceMod, Nat.reduceDiv, reduceCtorEq, Nat.reduceLT, Nat.reduceGT, Nat.reduceBEq, Option.isSome_some, ne_eq, Int.reduceEq, not_false_eq_true, bin_quo, bin_rem, List.length_cons, List.length_nil, List.map_cons, List.map_nil, List.append_nil, List.cons_append, List.nil_append, List.take_succ_cons, List.take_zero, List.drop_succ_cons, List.drop_zero, Nat.zero_add, Nat.add_zero, Nat.zero_le, Nat.le_refl, decide_true, decide_false, Bool.not_true, Bool.not_false, stepW, opE, intV, parV, boxE, loadE, partE, faddrE, fieldE, checkE, extractE, resultsE, resEs, resE, buildE, fillE, splice, if_true, if_false, Bool.false_eq_true, true_and, and_true, AV.cells, okA, oneA, fzs, fz, opTmp, Option.bind_some, Option.map_some, List.getElem?_cons_zero, List.getElem?_cons_succ, and_self, canonR, canon, canons, shift, shifts, pushAll, tys15, onceA, postU, postV, allocE, storeE, postFz, eq_self, boolV, hsm, bytesT, entsT, intsT, n1, n2, v1, v2, k0, k1, g0, g1, b1, b2, b3, b4, b5]
  refine call_plain (c5) (by first | rfl | simp only [plains, plain, plain_treeR, Bool.and_true, Bool.and_self, *]) ?_
  simp only [↓pre, post, ↓reduceIte, Nat.reduceEqDiff, Nat.reduceAdd, Nat.reduceMul, Nat.reduceSub, Nat.reduceLeDiff, Nat.reduceMod, Nat.reduceDiv, reduceCtorEq, Nat.reduceLT, Nat.reduceGT, Nat.reduceBEq, Option.isSome_some, ne_eq, Int.reduceEq, not_false_eq_true, bin_quo, bin_rem, List.length_cons, List.length_nil, List.map_cons, List.map_nil, List.append_nil, List.cons_append, List.nil_append, List.take_succ_cons, List.take_zero, List.drop_succ_cons, List.drop_zero, Nat.zero_add, Nat.add_zero, Nat.zero_le, Nat.le_refl, decide_true, decide_false, Bool.not_true, Bool.not_false, stepW, opE, intV, parV, boxE, loadE, partE, faddrE, fieldE, checkE, extractE, resultsE, resEs, resE, buildE, fillE, splice, if_true, if_false, Bool.false_eq_true, true_and, and_true, AV.cells, okA, oneA, fzs, fz, opTmp, Option.bind_some, Option.map_some, List.getElem?_cons_zero, List.getElem?_cons_succ, and_self, canonR, canon, canons, shift, shifts, pushAll, tys15, onceA, postU, postV, allocE, storeE, postFz, eq_self, boolV, hsm, bytesT, entsT, intsT, n1, n2, v1, v2, k0, k1, g0, g1, b1, b2, b3, b4, b5]
  refine call_plain (c6) (by first | rfl | simp only [plains, plain, plain_treeR, Bool.and_true, Bool.and_self, *]) ?_
  simp only [↓pre, post, ↓reduceIte, Nat.reduceEqDiff, Nat.reduceAdd, Nat.reduceMul, Nat.reduceSub, Nat.reduceLeDiff, Nat.reduceMod, Nat.reduceDiv, reduceCtorEq, Nat.reduceLT, Nat.reduceGT, Nat.reduceBEq, Option.isSome_some, ne_eq, Int.reduceEq, not_false_eq_true, bin_quo, bin_rem, List.length_cons, List.length_nil, List.map_cons, List.map_nil, List.append_nil, List.cons_append, List.nil_append, List.take_succ_cons, List.take_zero, List.drop_succ_cons, List.drop_zero, Nat.zero_add, Nat.add_zero, Nat.zero_le, Nat.le_refl, decide_true, decide_false, Bool.not_true, Bool.not_false, stepW, opE, intV, parV, boxE, loadE, partE, faddrE, fieldE, checkE, extractE, resultsE, resEs, resE, buildE, fillE, splice, if_true, if_false, Bool.false_eq_true, true_and, and_true, AV.cells, okA, oneA, fzs, fz, opTmp, Option.bind_some, Option.map_some, List.getElem?_cons_zero, List.getElem?_cons_succ, and_self, canonR, canon, canons, shift, shifts, pushAll, tys15, onceA, postU, postV, allocE, storeE, postFz, eq_self, boolV, hsm, bytesT, entsT, intsT, n1, n2, v1, v2, k0, k1, g0, g1, b1, b2, b3, b4, b5]
  refine call_plain (c7) (by first | rfl | simp only [plains, plain, plain_treeR, Bool.and_true, Bool.and_self, *]) ?_
  simp only [↓pre, post, ↓reduceIte, Nat.reduceEqDiff, Nat.reduceAdd, Nat.reduceMul, Nat.reduceSub, Nat.reduceLeDiff, Nat.reduceMod, Nat.reduceDiv, reduceCtorEq, Nat.reduceLT, Nat.reduceGT, Nat.reduceBEq, Option.isSome_some, ne_eq, Int.reduceEq, not_false_eq_true, bin_quo, bin_rem, List.length_cons, List.length_nil, List.map_cons, List.map_nil, List.append_nil, List.cons_append, List.nil_append, List.take_succ_cons, List.take_zero, List.drop_succ_cons, List.drop_zero, Nat.zero_add, Nat.add_zero, Nat.zero_le, Nat.le_refl, decide_true, decide_false, Bool.not_true, Bool.not_false, stepW, opE, intV, parV, boxE, loadE, partE, faddrE, fieldE, checkE, extractE, resultsE, resEs, resE, buildE, fillE, splice, if_true, if_false, Bool.false_eq_true, true_and, and_true, AV.cells, okA, oneA, fzs, fz, opTmp, Option.bind_some, Option.map_some, List.getElem?_cons_zero, List.getElem?_cons_succ, and_self, canonR, canon, canons, shift, shifts, pushAll, tys15, onceA, postU, postV, allocE, storeE, postFz, eq_self, boolV, hsm, bytesT, entsT, intsT, n1, n2, v1, v2, k0, k1, g0, g1, b1, b2, b3, b4, b5]
  refine call_plain (c8) (by first | rfl | simp only [plains, plain, plain_treeR, Bool.and_true, Bool.and_self, *]) ?_
  simp only [↓pre, post, ↓reduceIte, Nat.reduceEqDiff, Nat.reduceAdd, Nat.reduceMul, Nat.reduceSub, Nat.reduceLeDiff, Nat.reduceMod, Nat.reduceDiv, reduceCtorEq, Nat.reduceLT, Nat.reduceGT, Nat.reduceBEq, Option.isSome_some, ne_eq, Int.reduceEq, not_false_eq_true, bin_quo, bin_rem, List.length_cons, List.length_nil, List.map_cons, List.map_nil, List.append_nil, List.cons_append, List.nil_append, List.take_succ_cons, List.take_zero, List.drop_succ_cons, List.drop_zero, Nat.zero_add, Nat.add_zero, Nat.zero_le, Nat.le_refl, decide_true, decide_false, Bool.not_true, Bool.not_false, stepW, opE, intV, parV, boxE, loadE, partE, faddrE, fieldE, checkE, extractE, resultsE, resEs, resE, buildE, fillE, splice, if_true, if_false, Bool.false_eq_true, true_and, and_true, AV.cells, okA, oneA, fzs, fz, opTmp, Option.bind_some, Option.map_some, List.getElem?_cons_zero, List.getElem?_cons_succ, and_self, canonR, canon, canons, shift, shifts, pushAll, tys15, onceA, postU, postV, allocE, storeE, postFz, eq_self, boolV, hsm, bytesT, entsT, intsT, n1, n2, v1, v2, k0, k1, g0, g1, b1, b2, b3, b4, b5]
  refine call_plain (c9) (by first | rfl | simp only [plains, plain, plain_treeR, Bool.and_true, Bool.and_self, *]) ?_
  simp only [↓pre, post, ↓reduceIte, Nat.reduceEqDiff, Nat.reduceAdd, Nat.reduceMul, Nat.reduceSub, Nat.reduceLeDiff, Nat.reduceMod, Nat.reduceDiv, reduceCtorEq, Nat.reduceLT, Nat.reduceGT, Nat.reduceBEq, Option.isSome_some, ne_eq, Int.reduceEq, not_false_eq_true, bin_quo, bin_rem, List.length_cons, List.length_nil, List.map_cons, List.map_nil, List.append_nil, List.cons_append, List.nil_append, List.take_succ_cons, List.take_zero, List.drop_succ_cons, List.drop_zero, Nat.zero_add, Nat.add_zero, Nat.zero_le, Nat.le_refl, decide_true, decide_false, Bool.not_true, Bool.not_false, stepW, opE, intV, parV, boxE, loadE, partE, faddrE, fieldE, checkE, extractE, resultsE, resEs, resE, buildE, fillE, splice, if_true, if_false, Bool.false_eq_true, true_and, and_true, AV.cells, okA, oneA, fzs, fz, opTmp, Option.bind_some, Option.map_some, List.getElem?_cons_zero, List.getElem?_cons_succ, and_self, canonR, canon, canons, shift, shifts, pushAll, tys15, onceA, postU, postV, allocE, storeE, postFz, eq_self, boolV, hsm, bytesT, entsT, intsT, n1, n2, v1, v2, k0, k1, g0, g1, b1, b2, b3, b4, b5]
  refine call_plain (ca) (by first | rfl | simp only [plains, plain, plain_treeR, Bool.and_true, Bool.and_self, *]) ?_
  simp only [↓pre, post, ↓reduceIte, Nat.reduceEqDiff, Nat.reduceAdd, Nat.reduceMul, Nat.reduceSub, Nat.reduceLeDiff, Nat.reduceMod, Nat.reduceDiv, reduceCtorEq, Nat.reduceLT, Nat.reduceGT, Nat.reduceBEq, Option.isSome_some, ne_eq, Int.reduceEq, not_false_eq_true, bin_quo, bin_rem, List.length_cons, List.length_nil, List.map_cons, List.map_nil, List.append_nil, List.cons_append, List.nil_append, List.take_succ_cons, List.take_zero, List.drop_succ_cons, List.drop_zero, Nat.zero_add, Nat.add_zero, Nat.zero_le, Nat.le_refl, decide_true, decide_false, Bool.not_true, Bool.not_false, stepW, opE, intV, parV, boxE, loadE, partE, faddrE, fieldE, checkE, extractE, resultsE, resEs, resE, buildE, fillE, splice, if_true, if_false, Bool.false_eq_true, true_and, and_true, AV.cells, okA, oneA, fzs, fz, opTmp, Option.bind_some, Option.map_some, List.getElem?_cons_zero, List.getElem?_cons_succ, and_self, canonR, canon, canons, shift, shifts, pushAll, tys15, onceA, postU, postV, allocE, storeE, postFz, eq_self, boolV, hsm, bytesT, entsT, intsT, n1, n2, v1, v2, k0, k1, g0, g1, b1, b2, b3, b4, b5]
end Go.Proofs.Ytenmbfplceeolaa

set_option linter.unusedVariables false
set_option linter.unusedSimpArgs false
set_option maxRecDepth 10000
namespace Go.Proofs.Ytenmbfplceeolaa
open Go Go.Tw Go.Proofs

theorem app_one {m : Mem} {x : AV} {K : Out → Prop} {cnt : Nat} {new : List AV} (h5 : srcE Try.prog 3 1 m x = some (new, cnt)) (h6 : new.length = cnt) (h7 : cnt ≤ 1000000000000)
    (hK : ∀ v' m', Tw.Own m' 3 1 v' cnt new → K ⟨v', m', none⟩) : outW (appE Try.prog 3 m nilS x) K :=
  app_ints own_nil h5 h6 (by omega) fun v' m' ho _ => hK v' m' (by simpa using ho)
theorem convT (m : Mem) (bs : List UInt8) : convX Try.prog true m 9 29 (.val (.string ⟨bs.toArray⟩)) = some ⟨.tree bs.length bs.length (bytesA bs) false, m, none⟩ := by
  rw [convX_t (by kernel_rfl) (by kernel_rfl) (by kernel_rfl) (by kernel_rfl)]
  simp [ByteArray.size, bytesV, bytesA]
theorem law22_DirBytes (k r c w : Int) (v vr : AV) (bs : List UInt8) (ns : List Int) (x xr : List AV) (hv : RdSl v bs.length (bytesA bs ++ x)) (hr : RdSl vr ns.length (intsA ns ++ xr)) : FSpec Try.prog 6 [parV k r c w, v, vr] ⟨boolV true, []⟩ := by
  refine fspec_of_body follows Try.func6 (by unfold Try.f6; rfl) (by unfold Try.f6; simp) onceA (by unfold Try.f6; simp) (by kernel_rfl) ?_; unfold Try.f6
  have hp := hv.plain
  have hpr := hr.plain
  simp only [↓pre, post, ↓reduceIte, Nat.reduceEqDiff, Nat.reduceAdd, Nat.reduceMul, Nat.reduceSub, Nat.reduceLeDiff, Nat.reduceMod, Nat.reduceDiv, reduceCtorEq, Nat.reduceLT, Nat.reduceGT, Nat.reduceBEq, Option.isSome_some, ne_eq, Int.reduceEq, not_false_eq_true, bin_quo, bin_rem, List.length_cons, List.length_nil, List.map_cons, List.map_nil, List.append_nil, List.cons_append, List.nil_append, List.take_succ_cons, List.take_zero, List.drop_succ_cons, List.drop_zero, Nat.zero_add, Nat.add_zero, Nat.zero_le, Nat.le_refl, decide_true, decide_false, Bool.not_true, Bool.not_false, stepW, opE, intV, parV, boxE, loadE, partE, faddrE, fieldE, checkE, extractE, resultsE, resEs, resE, buildE, fillE, splice, if_true, if_false, Bool.false_eq_true, true_and, and_true, AV.cells, okA, oneA, fzs, fz, opTmp, Option.bind_some, Option.map_some, List.getElem?_cons_zero, List.getElem?_cons_succ, and_self, canonR, canon, canons, shift, shifts, pushAll, tys6, onceA, postU, postV, allocE, storeE, postFz, eq_self, boolV]
  by_cases h1 : (40000 : Int) < (bs.length : Nat)
  · refine call_plain (law22_alive) (by first | rfl | simp only [plains, plain, plain_treeR, Bool.and_true, Bool.and_self, *]) ?_; simp only [↓pre, post, ↓reduceIte, Nat.reduceEqDiff, Nat.reduceAdd, Nat.reduceMul, Nat.reduceSub, Nat.reduceLeDiff, Nat.reduceMod, Nat.reduceDiv, reduceCtorEq, Nat.reduceLT, Nat.reduceGT, Nat.reduceBEq, Option.isSome_some, ne_eq, Int.reduceEq, not_false_eq_true, bin_quo, bin_rem, List.length_cons, List.length_nil, List.map_cons, List.map_nil, List.append_nil, List.cons_append, List.nil_append, List.take_succ_cons, List.take_zero, List.drop_succ_cons, List.drop_zero, Nat.zero_add, Nat.add_zero, Nat.zero_le, Nat.le_refl, decide_true, decide_false, Bool.not_true, Bool.not_false, stepW, opE, intV, parV, boxE, loadE, partE, faddrE, fieldE, checkE, extractE, resultsE, resEs, resE, buildE, fillE, splice, if_true, if_false, Bool.false_eq_true, true_and, and_true, AV.cells, okA, oneA, fzs, fz, opTmp, Option.bind_some, Option.map_some, List.getElem?_cons_zero, List.getElem?_cons_succ, and_self, canonR, canon, canons, shift, shifts, pushAll, tys6, onceA, postU, postV, allocE, storeE, postFz, eq_self, boolV, hv.len', hr.len', h1]
  by_cases h2 : (2000 : Int) < (ns.length : Nat)
  · refine call_plain (law22_alive) (by first | rfl | simp only [plains, plain, plain_treeR, Bool.and_true, Bool.and_self, *]) ?_; simp only [↓pre, post, ↓reduceIte, Nat.reduceEqDiff, Nat.reduceAdd, Nat.reduceMul, Nat.reduceSub, Nat.reduceLeDiff, Nat.reduceMod, Nat.reduceDiv, reduceCtorEq, Nat.reduceLT, Nat.reduceGT, Nat.reduceBEq, Option.isSome_some, ne_eq, Int.reduceEq, not_false_eq_true, bin_quo, bin_rem, List.length_cons, List.length_nil, List.map_cons, List.map_nil, List.append_nil, List.cons_append, List.nil_append, List.take_succ_cons, List.take_zero, List.drop_succ_cons, List.drop_zero, Nat.zero_add, Nat.add_zero, Nat.zero_le, Nat.le_refl, decide_true, decide_false, Bool.not_true, Bool.not_false, stepW, opE, intV, parV, boxE, loadE, partE, faddrE, fieldE, checkE, extractE, resultsE, resEs, resE, buildE, fillE, splice, if_true, if_false, Bool.false_eq_true, true_and, and_true, AV.cells, okA, oneA, fzs, fz, opTmp, Option.bind_some, Option.map_some, List.getElem?_cons_zero, List.getElem?_cons_succ, and_self, canonR, canon, canons, shift, shifts, pushAll, tys6, onceA, postU, postV, allocE, storeE, postFz, eq_self, boolV, hv.len', hr.len', h1, h2]
  have hcv := fun m => conv_bytes hv m
  have hsrc : ∀ m, srcE Try.prog 3 1 m vr = some (intsA ns, ns.length) := fun m => by
    have := hr.src (P := Try.prog) (m := m) (el := 3) (sz := 1) (by simp [intsA])
    rw [this]
    simp [intsA]
  refine call_plain (law22_alive) (by first | rfl | simp only [plains, plain, plain_treeR, Bool.and_true, Bool.and_self, *]) ?_; simp only [↓pre, post, ↓reduceIte, Nat.reduceEqDiff, Nat.reduceAdd, Nat.reduceMul, Nat.reduceSub, Nat.reduceLeDiff, Nat.reduceMod, Nat.reduceDiv, reduceCtorEq, Nat.reduceLT, Nat.reduceGT, Nat.reduceBEq, Option.isSome_some, ne_eq, Int.reduceEq, not_false_eq_true, bin_quo, bin_rem, List.length_cons, List.length_nil, List.map_cons, List.map_nil, List.append_nil, List.cons_append, List.nil_append, List.take_succ_cons, List.take_zero, List.drop_succ_cons, List.drop_zero, Nat.zero_add, Nat.add_zero, Nat.zero_le, Nat.le_refl, decide_true, decide_false, Bool.not_true, Bool.not_false, stepW, opE, intV, parV, boxE, loadE, partE, faddrE, fieldE, checkE, extractE, resultsE, resEs, resE, buildE, fillE, splice, if_true, if_false, Bool.false_eq_true, true_and, and_true, AV.cells, okA, oneA, fzs, fz, opTmp, Option.bind_some, Option.map_some, List.getElem?_cons_zero, List.getElem?_cons_succ, and_self, canonR, canon, canons, shift, shifts, pushAll, tys6, onceA, postU, postV, allocE, storeE, postFz, eq_self, boolV, hv.len', hr.len', h1, h2, hcv, convT]
  refine app_one (hsrc _) (by simp [intsA]) (by omega) (fun v3 m3 ho3 => ?_)
  have hx := rd_tree bs.length (bytesA bs) false
  obtain ⟨L, hL⟩ : ∃ L, L = if prsE k r c w bs = 0 then prsL bs else [] := ⟨_, rfl⟩
  obtain ⟨N, hN⟩ : ∃ N, N = if bktE k r c w bs = 0 then decI bs else [] := ⟨_, rfl⟩
  obtain ⟨B, hB⟩ : ∃ B, B = if rootE k r c w ns = 0 then encI ns else [] := ⟨_, rfl⟩
  have lL : L.length ≤ 40000 := by
    rw [hL]; split
    · unfold prsL
      cases hq : parseL bs with
      | none => simp
      | some l => have := parse_num hq; simp only [Option.getD_some]; omega
    · simp
  have lN : N.length ≤ 40000 := by
    rw [hN]; split
    · rw [decI_len]; omega
    · simp
  have c1 := parse_fz _ _ _ _ _ (dir_Parse k r c w _ bs _ hx (by omega))
  have c2 := bkt_fz2 _ _ _ _ _ (dir_Buckets k r c w _ bs _ hx (by omega))
  have d1 := parse_fz _ _ _ _ _ (ref22_Parse k r c w _ bs _ hv (by omega))
  have d2 := bkt_fz _ _ _ _ _ (ref22_Buckets k r c w _ bs _ hv (by omega))
  have d3 := root_fz _ _ _ _ _ (ref22_Root k r c w _ ns _ hr (by omega))
  rw [prsT, ← hL, entsT] at c1 d1
  rw [bktT, ← hN, intsT] at c2 d2
  rw [rootT, ← hB, bytesT] at d3
  have hS := ref22_Same _ _ L L [] [] (rd_ents L) (rd_ents L) (by omega) (by omega)
  have hJ := ref07_Same _ _ N N [] [] (rd_ints N) (rd_ints N) (by omega) (by omega)
  have hsL : sameL L L = true := by simp [sameL]
  have hsN : sameI N N = true := by simp [sameI]
  have hsR : sameI ns ns = true := by simp [sameI]
  obtain ⟨av, m4, hf, hav, hnx, hfr⟩ := fz2 (a := parV k r c w) rfl rfl (has_own ho3)
  have hh4 := (has_own ho3).to hfr
  have c3 := root_fz _ _ _ _ _ (dir_Root k r c w _ ns [] (by rw [List.append_nil]; exact hav) (by omega))
  rw [rootT, ← hB, bytesT] at c3
  have hcB := fun m => conv_bytes (rd_bytes B) m
  have hcx := fun m => conv_bytes hx m
  obtain ⟨av5, av6, hl5, ha5, ha6⟩ := lend22 hh4 (has_rd hr)
  simp only [↓pre, post, ↓reduceIte, Nat.reduceEqDiff, Nat.reduceAdd, Nat.reduceMul, Nat.reduceSub, Nat.reduceLeDiff, Nat.reduceMod, Nat.reduceDiv, reduceCtorEq, Nat.reduceLT, Nat.reduceGT, Nat.reduceBEq, Option.isSome_some, ne_eq, Int.reduceEq, not_false_eq_true, bin_quo, bin_rem, List.length_cons, List.length_nil, List.map_cons, List.map_nil, List.append_nil, List.cons_append, List.nil_append, List.take_succ_cons, List.take_zero, List.drop_succ_cons, List.drop_zero, Nat.zero_add, Nat.add_zero, Nat.zero_le, Nat.le_refl, decide_true, decide_false, Bool.not_true, Bool.not_false, stepW, opE, intV, parV, boxE, loadE, partE, faddrE, fieldE, checkE, extractE, resultsE, resEs, resE, buildE, fillE, splice, if_true, if_false, Bool.false_eq_true, true_and, and_true, AV.cells, okA, oneA, fzs, fz, opTmp, Option.bind_some, Option.map_some, List.getElem?_cons_zero, List.getElem?_cons_succ, and_self, canonR, canon, canons, shift, shifts, pushAll, tys6, onceA, postU, postV, allocE, storeE, postFz, eq_self, boolV, hv.len', hr.len', h1, h2, hcv, convT]
  refine call_plain (c1) (by first | rfl | simp only [plains, plain, plain_treeR, Bool.and_true, Bool.and_self, *]) ?_; simp only [↓pre, post, ↓reduceIte, Nat.reduceEqDiff, Nat.reduceAdd, Nat.reduceMul, Nat.reduceSub, Nat.reduceLeDiff, Nat.reduceMod, Nat.reduceDiv, reduceCtorEq, Nat.reduceLT, Nat.reduceGT, Nat.reduceBEq, Option.isSome_some, ne_eq, Int.reduceEq, not_false_eq_true, bin_quo, bin_rem, List.length_cons, List.length_nil, List.map_cons, List.map_nil, List.append_nil, List.cons_append, List.nil_append, List.take_succ_cons, List.take_zero, List.drop_succ_cons, List.drop_zero, Nat.zero_add, Nat.add_zero, Nat.zero_le, Nat.le_refl, decide_true, decide_false, Bool.not_true, Bool.not_false, stepW, opE, intV, parV, boxE, loadE, partE, faddrE, fieldE, checkE, extractE, resultsE, resEs, resE, buildE, fillE, splice, if_true, if_false, Bool.false_eq_true, true_and, and_true, AV.cells, okA, oneA, fzs, fz, opTmp, Option.bind_some, Option.map_some, List.getElem?_cons_zero, List.getElem?_cons_succ, and_self, canonR, canon, canons, shift, shifts, pushAll, tys6, onceA, postU, postV, allocE, storeE, postFz, eq_self, boolV, hv.len', hr.len', h1, h2, hcv, convT, hcB, hcx]; refine call_plain (c2) (by first | rfl | simp only [plains, plain, plain_treeR, Bool.and_true, Bool.and_self, *]) ?_; simp only [↓pre, post, ↓reduceIte, Nat.reduceEqDiff, Nat.reduceAdd, Nat.reduceMul, Nat.reduceSub, Nat.reduceLeDiff, Nat.reduceMod, Nat.reduceDiv, reduceCtorEq, Nat.reduceLT, Nat.reduceGT, Nat.reduceBEq, Option.isSome_some, ne_eq, Int.reduceEq, not_false_eq_true, bin_quo, bin_rem, List.length_cons, List.length_nil, List.map_cons, List.map_nil, List.append_nil, List.cons_append, List.nil_append, List.take_succ_cons, List.take_zero, List.drop_succ_cons, List.drop_zero, Nat.zero_add, Nat.add_zero, Nat.zero_le, Nat.le_refl, decide_true, decide_false, Bool.not_true, Bool.not_false, stepW, opE, intV, parV, boxE, loadE, partE, faddrE, fieldE, checkE, extractE, resultsE, resEs, resE, buildE, fillE, splice, if_true, if_false, Bool.false_eq_true, true_and, and_true, AV.cells, okA, oneA, fzs, fz, opTmp, Option.bind_some, Option.map_some, List.getElem?_cons_zero, List.getElem?_cons_succ, and_self, canonR, canon, canons, shift, shifts, pushAll, tys6, onceA, postU, postV, allocE, storeE, postFz, eq_self, boolV, hv.len', hr.len', h1, h2, hcv, convT, hcB, hcx]
  refine call_frozen c3 hf ?_
  simp only [↓pre, post, ↓reduceIte, Nat.reduceEqDiff, Nat.reduceAdd, Nat.reduceMul, Nat.reduceSub, Nat.reduceLeDiff, Nat.reduceMod, Nat.reduceDiv, reduceCtorEq, Nat.reduceLT, Nat.reduceGT, Nat.reduceBEq, Option.isSome_some, ne_eq, Int.reduceEq, not_false_eq_true, bin_quo, bin_rem, List.length_cons, List.length_nil, List.map_cons, List.map_nil, List.append_nil, List.cons_append, List.nil_append, List.take_succ_cons, List.take_zero, List.drop_succ_cons, List.drop_zero, Nat.zero_add, Nat.add_zero, Nat.zero_le, Nat.le_refl, decide_true, decide_false, Bool.not_true, Bool.not_false, stepW, opE, intV, parV, boxE, loadE, partE, faddrE, fieldE, checkE, extractE, resultsE, resEs, resE, buildE, fillE, splice, if_true, if_false, Bool.false_eq_true, true_and, and_true, AV.cells, okA, oneA, fzs, fz, opTmp, Option.bind_some, Option.map_some, List.getElem?_cons_zero, List.getElem?_cons_succ, and_self, canonR, canon, canons, shift, shifts, pushAll, tys6, onceA, postU, postV, allocE, storeE, postFz, eq_self, boolV, hv.len', hr.len', h1, h2, hcv, convT]
  refine call_plain (d1) (by first | rfl | simp only [plains, plain, plain_treeR, Bool.and_true, Bool.and_self, *]) ?_; simp only [↓pre, post, ↓reduceIte, Nat.reduceEqDiff, Nat.reduceAdd, Nat.reduceMul, Nat.reduceSub, Nat.reduceLeDiff, Nat.reduceMod, Nat.reduceDiv, reduceCtorEq, Nat.reduceLT, Nat.reduceGT, Nat.reduceBEq, Option.isSome_some, ne_eq, Int.reduceEq, not_false_eq_true, bin_quo, bin_rem, List.length_cons, List.length_nil, List.map_cons, List.map_nil, List.append_nil, List.cons_append, List.nil_append, List.take_succ_cons, List.take_zero, List.drop_succ_cons, List.drop_zero, Nat.zero_add, Nat.add_zero, Nat.zero_le, Nat.le_refl, decide_true, decide_false, Bool.not_true, Bool.not_false, stepW, opE, intV, parV, boxE, loadE, partE, faddrE, fieldE, checkE, extractE, resultsE, resEs, resE, buildE, fillE, splice, if_true, if_false, Bool.false_eq_true, true_and, and_true, AV.cells, okA, oneA, fzs, fz, opTmp, Option.bind_some, Option.map_some, List.getElem?_cons_zero, List.getElem?_cons_succ, and_self, canonR, canon, canons, shift, shifts, pushAll, tys6, onceA, postU, postV, allocE, storeE, postFz, eq_self, boolV, hv.len', hr.len', h1, h2, hcv, convT, hcB, hcx, hsL, hsN]; refine call_plain (d2) (by first | rfl | simp only [plains, plain, plain_treeR, Bool.and_true, Bool.and_self, *]) ?_; simp only [↓pre, post, ↓reduceIte, Nat.reduceEqDiff, Nat.reduceAdd, Nat.reduceMul, Nat.reduceSub, Nat.reduceLeDiff, Nat.reduceMod, Nat.reduceDiv, reduceCtorEq, Nat.reduceLT, Nat.reduceGT, Nat.reduceBEq, Option.isSome_some, ne_eq, Int.reduceEq, not_false_eq_true, bin_quo, bin_rem, List.length_cons, List.length_nil, List.map_cons, List.map_nil, List.append_nil, List.cons_append, List.nil_append, List.take_succ_cons, List.take_zero, List.drop_succ_cons, List.drop_zero, Nat.zero_add, Nat.add_zero, Nat.zero_le, Nat.le_refl, decide_true, decide_false, Bool.not_true, Bool.not_false, stepW, opE, intV, parV, boxE, loadE, partE, faddrE, fieldE, checkE, extractE, resultsE, resEs, resE, buildE, fillE, splice, if_true, if_false, Bool.false_eq_true, true_and, and_true, AV.cells, okA, oneA, fzs, fz, opTmp, Option.bind_some, Option.map_some, List.getElem?_cons_zero, List.getElem?_cons_succ, and_self, canonR, canon, canons, shift, shifts, pushAll, tys6, onceA, postU, postV, allocE, storeE, postFz, eq_self, boolV, hv.len', hr.len', h1, h2, hcv, convT, hcB, hcx, hsL, hsN]; refine call_plain (d3) (by first | rfl | simp only [plains, plain, plain_treeR, Bool.and_true, Bool.and_self, *]) ?_; simp only [↓pre, post, ↓reduceIte, Nat.reduceEqDiff, Nat.reduceAdd, Nat.reduceMul, Nat.reduceSub, Nat.reduceLeDiff, Nat.reduceMod, Nat.reduceDiv, reduceCtorEq, Nat.reduceLT, Nat.reduceGT, Nat.reduceBEq, Option.isSome_some, ne_eq, Int.reduceEq, not_false_eq_true, bin_quo, bin_rem, List.length_cons, List.length_nil, List.map_cons, List.map_nil, List.append_nil, List.cons_append, List.nil_append, List.take_succ_cons, List.take_zero, List.drop_succ_cons, List.drop_zero, Nat.zero_add, Nat.add_zero, Nat.zero_le, Nat.le_refl, decide_true, decide_false, Bool.not_true, Bool.not_false, stepW, opE, intV, parV, boxE, loadE, partE, faddrE, fieldE, checkE, extractE, resultsE, resEs, resE, buildE, fillE, splice, if_true, if_false, Bool.false_eq_true, true_and, and_true, AV.cells, okA, oneA, fzs, fz, opTmp, Option.bind_some, Option.map_some, List.getElem?_cons_zero, List.getElem?_cons_succ, and_self, canonR, canon, canons, shift, shifts, pushAll, tys6, onceA, postU, postV, allocE, storeE, postFz, eq_self, boolV, hv.len', hr.len', h1, h2, hcv, convT, hcB, hcx, hsL, hsN]; refine call_plain (hS) (by first | rfl | simp only [plains, plain, plain_treeR, Bool.and_true, Bool.and_self, *]) ?_; simp only [↓pre, post, ↓reduceIte, Nat.reduceEqDiff, Nat.reduceAdd, Nat.reduceMul, Nat.reduceSub, Nat.reduceLeDiff, Nat.reduceMod, Nat.reduceDiv, reduceCtorEq, Nat.reduceLT, Nat.reduceGT, Nat.reduceBEq, Option.isSome_some, ne_eq, Int.reduceEq, not_false_eq_true, bin_quo, bin_rem, List.length_cons, List.length_nil, List.map_cons, List.map_nil, List.append_nil, List.cons_append, List.nil_append, List.take_succ_cons, List.take_zero, List.drop_succ_cons, List.drop_zero, Nat.zero_add, Nat.add_zero, Nat.zero_le, Nat.le_refl, decide_true, decide_false, Bool.not_true, Bool.not_false, stepW, opE, intV, parV, boxE, loadE, partE, faddrE, fieldE, checkE, extractE, resultsE, resEs, resE, buildE, fillE, splice, if_true, if_false, Bool.false_eq_true, true_and, and_true, AV.cells, okA, oneA, fzs, fz, opTmp, Option.bind_some, Option.map_some, List.getElem?_cons_zero, List.getElem?_cons_succ, and_self, canonR, canon, canons, shift, shifts, pushAll, tys6, onceA, postU, postV, allocE, storeE, postFz, eq_self, boolV, hv.len', hr.len', h1, h2, hcv, convT, hcB, hcx, hsL, hsN]; refine call_plain (hJ) (by first | rfl | simp only [plains, plain, plain_treeR, Bool.and_true, Bool.and_self, *]) ?_; simp only [↓pre, post, ↓reduceIte, Nat.reduceEqDiff, Nat.reduceAdd, Nat.reduceMul, Nat.reduceSub, Nat.reduceLeDiff, Nat.reduceMod, Nat.reduceDiv, reduceCtorEq, Nat.reduceLT, Nat.reduceGT, Nat.reduceBEq, Option.isSome_some, ne_eq, Int.reduceEq, not_false_eq_true, bin_quo, bin_rem, List.length_cons, List.length_nil, List.map_cons, List.map_nil, List.append_nil, List.cons_append, List.nil_append, List.take_succ_cons, List.take_zero, List.drop_succ_cons, List.drop_zero, Nat.zero_add, Nat.add_zero, Nat.zero_le, Nat.le_refl, decide_true, decide_false, Bool.not_true, Bool.not_false, stepW, opE, intV, parV, boxE, loadE, partE, faddrE, fieldE, checkE, extractE, resultsE, resEs, resE, buildE, fillE, splice, if_true, if_false, Bool.false_eq_true, true_and, and_true, AV.cells, okA, oneA, fzs, fz, opTmp, Option.bind_some, Option.map_some, List.getElem?_cons_zero, List.getElem?_cons_succ, and_self, canonR, canon, canons, shift, shifts, pushAll, tys6, onceA, postU, postV, allocE, storeE, postFz, eq_self, boolV, hv.len', hr.len', h1, h2, hcv, convT, hcB, hcx, hsL, hsN]
  refine call_lent (ref07_Same _ _ ns ns [] _ (by rw [List.append_nil]; exact ha5) ha6 (by omega) (by omega)) hl5 rfl rfl ?_
  simp only [↓pre, post, ↓reduceIte, Nat.reduceEqDiff, Nat.reduceAdd, Nat.reduceMul, Nat.reduceSub, Nat.reduceLeDiff, Nat.reduceMod, Nat.reduceDiv, reduceCtorEq, Nat.reduceLT, Nat.reduceGT, Nat.reduceBEq, Option.isSome_some, ne_eq, Int.reduceEq, not_false_eq_true, bin_quo, bin_rem, List.length_cons, List.length_nil, List.map_cons, List.map_nil, List.append_nil, List.cons_append, List.nil_append, List.take_succ_cons, List.take_zero, List.drop_succ_cons, List.drop_zero, Nat.zero_add, Nat.add_zero, Nat.zero_le, Nat.le_refl, decide_true, decide_false, Bool.not_true, Bool.not_false, stepW, opE, intV, parV, boxE, loadE, partE, faddrE, fieldE, checkE, extractE, resultsE, resEs, resE, buildE, fillE, splice, if_true, if_false, Bool.false_eq_true, true_and, and_true, AV.cells, okA, oneA, fzs, fz, opTmp, Option.bind_some, Option.map_some, List.getElem?_cons_zero, List.getElem?_cons_succ, and_self, canonR, canon, canons, shift, shifts, pushAll, tys6, onceA, postU, postV, allocE, storeE, postFz, eq_self, boolV, hv.len', hr.len', h1, h2, hcv, convT, hcB, hcx, hsL, hsN, hsR]
end Go.Proofs.Ytenmbfplceeolaa
