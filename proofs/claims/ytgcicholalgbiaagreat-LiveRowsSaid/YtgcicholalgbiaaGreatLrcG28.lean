import Derived.RangeFuncBox
import Derived.RangeFuncLeaves
import Derived.RangeFuncNested
import Derived.Shelf.Abstract
import Derived.WalkKit
import Derived.OwnWalkIn
import Derived.TacticsInMore
import Derived.LoopNIn
import Derived.LoopIn
import Derived.Maps.AppendAt
import Derived.Deep.QuietTactic
import Derived.BigQuiet
import Derived.WalkSmall
import Derived.Test.YtgcicholalgbiaaGreatLrcG27
import Derived.Test.YtgcicholalgbiaaGreatLrcG25
import Derived.Test.YtgcicholalgbiaaGreatLrcG24
import Derived.Test.YtgcicholalgbiaaGreatLrcG21
set_option linter.unusedVariables false
set_option linter.unusedSimpArgs false
namespace Go.Proofs.YtgcicholalgbiaaGreat
open Go Go.Tw Go.Proofs Go.RowKit Go.Shelf
attribute [local go_sem] Oper.semAt_some
def rowsOk (w:Int) (l:List Int):Bool:=l.all fun n=>decide (0≤n∧n < w)
theorem rowsOk_of {w:Int} {l:List Int}:rowsOk w l=true↔∀ (i:Nat) (n:Int),l[i]? = some n→0≤n∧n < w:=by
 unfold rowsOk
 rw [List.all_eq_true]
 constructor
 ·intro h i n hi
  simpa using h n (List.mem_of_getElem? hi)
 ·intro h n hn
  obtain ⟨i,hi,rfl⟩:=List.getElem_of_mem hn
  simpa using h i _ (List.getElem?_eq_getElem hi)
theorem rows_bad {w:Int} {l:List Int} {i:Nat} {n:Int} (h:l[i]? = some n) (hb:¬ (0≤n∧n < w)):rowsOk w l=false:=by
 cases hc:rowsOk w l with
 | false=>rfl
 | true=>exact absurd (rowsOk_of.1 hc i n h) hb
def decI:List UInt8→List Int
 | a::b::l=>((a.toNat*256+b.toNat:Nat):Int)::decI l
 | _=>[]
theorem decI_len:∀ (bs:List UInt8),(decI bs).length=bs.length / 2
 | []=>rfl
 | [_]=>by simp [decI]
 | _::_::l=>by
  simp only [decI,List.length_cons,decI_len l]
  omega
def bktE (k r c w:Int) (bs:List UInt8):Int:=if mayB k r c w=true then (if bs.length=8 then (if rowsOk w (decI bs)=true then 0 else 220) else 220) else 2
def upto (k:Nat):List (Fin 4):=(List.finRange 4).take k
theorem upto_succ (k:Nat) (h:k < 4):upto (k+1)=upto k++[⟨k,h⟩]:=by
 have:∀ j:Fin 4,upto (j.1+1)=upto j.1++[j]:=by decide
 exact this ⟨k,h⟩
theorem upto_length (k:Nat) (h:k≤4):(upto k).length=k:=by simp [upto,h]
abbrev FW:Fence:=Fence.wide
set_option maxRecDepth 100000 in
set_option maxHeartbeats 2000000 in
def KP (Bs Bn:Nat) (A B:World):Prop:=B.heap[Bs]? = A.heap[Bs]? ∧ B.heap[Bn]? = A.heap[Bn]?
theorem KP.trans {Bs Bn:Nat} {A B C:World} (h:KP Bs Bn A B) (h':KP Bs Bn B C):KP Bs Bn A C:=⟨h'.1.trans h.1,h'.2.trans h.2⟩
theorem cellK {A B:World} {g o:Nat} (h:B.heap[g]? = A.heap[g]?):B.cell? ⟨g,o,none⟩=A.cell? ⟨g,o,none⟩:=World.cell?_of_block (a:=⟨g,o,none⟩) h
theorem chunk1_in (l Bs Bn b off cap : Nat) (hcap : 8 ≤ cap) (J Jx : List (Fin 4) → World → Prop) (hJ : ∀ s W nq, J s W → J s (W.drewN nq))
   (hY : ∀ pre x W, J pre W → pre.length < 4 → YieldAt FW 2 Tryz.prog l #[.slice (some ⟨b, off + 2 * x.1, none⟩) 2 2] W fun e W' =>
     (e = .returned (.bool true) ∧ J (pre ++ [x]) W' ∧ KP Bs Bn W W') ∨ (e = .returned (.bool false) ∧ Jx (pre ++ [x]) W'))
   (W : World) (hBs : W.cell? ⟨Bs, 0, none⟩ = some (.slice (some ⟨b, off, none⟩) 8 cap)) (hBn : W.cell? ⟨Bn, 0, none⟩ = some (.int .i64 2)) (h0 : J [] W) :
   CallsIn FW 3 Tryz.prog 111 #[.func (.yield l) #[] #[], .pointer (some ⟨Bs, 0, none⟩), .pointer (some ⟨Bn, 0, none⟩)] W fun e W' => (∃ v, e = .returned v) ∧
     ((∃ ys, ys = upto 4 ∧ J ys W') ∨ (∃ pre, (∃ k, k ≤ 4 ∧ pre = upto k) ∧ Jx pre W')) := by
 refine callsIn_of_wp Tryz.func111 rfl trivial ?_ rfl
 simp only [Tryz.ntmps111, List.size_toArray, List.length_cons, List.length_nil, Nat.reduceAdd, Nat.reduceSub, Array.replicate_succ, Array.replicate_zero, List.push_toArray, List.append_toArray, List.nil_append, List.cons_append]
 gi_wp2
 gi_loopw [4] (fun i wr => ∃ k : Nat, k ≤ 4 ∧ i = .int .i64 (2 * k : Nat) ∧ J (upto k) wr ∧ KP Bs Bn W wr)
   (fun i _ => 8 - (intOf i).toNat)
 case atStart => exact ⟨0, Nat.zero_le _, rfl, h0, rfl, rfl⟩
 case round =>
   obtain ⟨k, hk, rfl, hJs, hnx⟩ := hrel
   have hcs : wr.cell? ⟨Bs, 0, none⟩ = some (.slice (some ⟨b, off, none⟩) 8 cap) := (cellK hnx.1).trans hBs
   have hcn : wr.cell? ⟨Bn, 0, none⟩ = some (.int .i64 2) := (cellK hnx.2).trans hBn
   by_cases hlt : k < 4
   · gi_wp2
     refine wpIn_wide.2 ?_
     go_quiet (fail)
     have hmin : min 2 ((8 - 2 * k : Nat) : Int) = 2 := by omega
     simp only [hmin]
     have hJ2 := hJ _ _ nq hJs
     have hcs2 : (wr.drewN nq).cell? ⟨Bs, 0, none⟩ = some (.slice (some ⟨b, off, none⟩) 8 cap) := hcs
     have hcn2 : (wr.drewN nq).cell? ⟨Bn, 0, none⟩ = some (.int .i64 2) := hcn
     have hnx2 : KP Bs Bn W (wr.drewN nq) := hnx
     clear hcs hcn hnx hJs
     generalize wr.drewN nq = wq at hJ2 hcs2 hcn2 hnx2 ⊢
     obtain ⟨fn, tmps, assign, body, hy, hR⟩ := hY _ ⟨k, hlt⟩ wq hJ2 (by rw [upto_length k hk]; exact hlt)
     gi_wp2
     refine hR.mono ?_
     rintro e W3 (⟨rfl, hJ3, hk3⟩ | ⟨rfl, hJx3⟩)
     · have hcn3 : W3.cell? ⟨Bn, 0, none⟩ = some (.int .i64 2) := (cellK hk3.2).trans hcn2
       gi_wp2
       go_roundw
       case rel => exact ⟨k + 1, by omega, by simp; omega, by rw [upto_succ k hlt]; exact hJ3, hnx2.trans hk3⟩
       case measure => simp [intOf]; omega
     · gi_wp2
       refine bodyPost_ret (results_none rfl _ _ _) rfl ?_
       exact ⟨⟨_, rfl⟩, .inr ⟨_, ⟨k + 1, by omega, (upto_succ _ hlt).symm⟩, hJx3⟩⟩
   · obtain rfl : k = 4 := by omega
     gi_wp2
     go_end0
     exact ⟨⟨_, rfl⟩, .inl ⟨_, rfl, hJs⟩⟩
theorem chunk_stops (Bs Bn b off cap : Nat) (hcap : 8 ≤ cap) (w : World) (hBs : w.cell? ⟨Bs, 0, none⟩ = some (.slice (some ⟨b, off, none⟩) 8 cap)) (hBn : w.cell? ⟨Bn, 0, none⟩ = some (.int .i64 2)) (hs : Bs < w.heap.size) (hn : Bn < w.heap.size) :
   SeqStopsK FW 3 Tryz.prog 111 #[.pointer (some ⟨Bs, 0, none⟩), .pointer (some ⟨Bn, 0, none⟩)] (fun x : Fin 4 => #[Value.slice (some ⟨b, off + 2 * x.1, none⟩) 2 2]) (KP Bs Bn) (fun ys => ys = upto 4) (fun pre => ∃ k, k ≤ 4 ∧ pre = upto k) 4 w := fun l J Jx W hW hJ _ hY h0 => by
 refine chunk1_in l Bs Bn b off cap hcap J Jx (fun s A nq hs => hJ s A _ none hs ⟨rfl, rfl, rfl, Nat.le_refl _, fun _ _ _ => rfl⟩ (fun r e => by cases e)) hY W ((hW.cell (p := ⟨Bs, 0, none⟩) hs).trans hBs) ((hW.cell (p := ⟨Bn, 0, none⟩) hn).trans hBn) h0
set_option maxHeartbeats 1000000 in
theorem chunk_in (a : Option Addr) (len cap : Nat) (w : World) :
   Calls Tryz.prog 75 #[.slice a len cap, .int .i64 2] w fun e w' => e = .returned (.func (.func 111) #[] #[.pointer (some ⟨w.heap.size, 0, none⟩), .pointer (some ⟨w.heap.size + 1, 0, none⟩)]) ∧ w' = (w.alloc (.cells #[.slice a len cap] 54)).alloc (.cells #[.int .i64 2] 3) := by
 go_enter Tryz.func75, Tryz.ntmps75
 go_wp2
 go_ret
 exact ⟨by simp, rfl⟩
theorem fspec_calls {P : Program} {f : FuncId} {args : List AV} {u : Value} {W : World} {vs : Array Value} (h : FSpec P f args ⟨.val u, []⟩) (hsz : vs.size = args.length) (hv : VRs P W (allI W) noneR args (fun j => vs[j]?)) :
   Calls P f vs W fun e w' => e = .returned u ∧ Below W.heap.size W w' := by
 refine (h.2 W (allI W) vs (fun g hg => hg) hsz hv).mono fun e w' hq => ?_
 obtain ⟨v, I', ρ', he, h1, h2, h3⟩ := hq
 have hvt : v = u := by simpa only [VR] using h1
 subst hvt
 refine ⟨he, h3.os, h3.tape, h3.output, h3.size, fun k hk => h3.same k hk ?_⟩
 rintro (⟨b, kk, o, q1, q2, q3⟩ | q1)
 · simp [Mem.empty] at q1
 · exact absurd q1 empty_has
theorem check_calls {k r c w:Int} (h:mayB k r c w=true) (W:World):Calls Tryz.prog 74 #[.agg #[.int .i64 k,.int .i64 r,.int .i64 c,.int .i64 w]] W fun e w'=>e = .returned (.int .i64 0)∧Below W.heap.size W w':=by
 have:=layout_check k r c w
 rw [h] at this
 refine fspec_calls (u := .int .i64 0) this rfl ?_
 simp only [VRs,VR]
 exact ⟨⟨_,rfl,#[.int .i64 k,.int .i64 r,.int .i64 c,.int .i64 w],rfl,rfl,fun c hc=>by simp at hc;rcases hc with rfl | rfl | rfl | rfl <;> rfl,⟨_,rfl,rfl⟩,⟨_,rfl,rfl⟩,⟨_,rfl,rfl⟩,⟨_,rfl,rfl⟩,trivial⟩,trivial⟩
theorem bcell {w w1:World} {n:Nat} (hb:Below n w w1):(∀ b o,b < n→w1.cell? ⟨b,o,none⟩=w.cell? ⟨b,o,none⟩)∧(∀ b o,b < n→w1.frozen? ⟨b,o,none⟩=w.frozen? ⟨b,o,none⟩) :=
 ⟨fun b o h=>hb.cell (p:=⟨b,o,none⟩) h,fun b o h=>hb.frozen (p:=⟨b,o,none⟩) h⟩
theorem buckets_info:(Tryz.prog.info? 3).map (fun i=>(i.zero,i.size,i.bytes))=some (some (.int .i64 0),1,8):=by kernel_rfl
def decN (bs:List UInt8) (j:Fin 4):Nat:=(bs.getD (2*j.1) 0).toNat*256+(bs.getD (2*j.1+1) 0).toNat
theorem decN_all {bs:List UInt8} (h:bs.length=8):decI bs=(upto 4).map fun j=>((decN bs j:Nat):Int):=by
 match bs,h with
 | [_,_,_,_,_,_,_,_],_=>rfl
theorem appended2 {W w1 : World} {n₀ n₁ B Bs Bn : Nat} {t e : TypeId} {size : Nat} {v v' : Value} {k m : Nat} {xs ys : List Value} {tmp : Obj}
   (hv : Boxed W B t v) (hte : t ≠ e) (hrow : W.ownsRow n₁ e size v k xs) (hn₁ : n₁ ≤ W.heap.size) (hn : n₀ ≤ n₁) (hB : n₀ ≤ B) (hs : Bs < n₁) (hsB : Bs ≠ B) (hnn : Bn < n₁) (hnB : Bn ≠ B)
   (hown' : w1.ownsRow n₁ e size v' m ys) (hgrow : (W.alloc tmp).grownBy w1 v.ownBlock) :
   Boxed w1 B t v ∧ Boxed (w1.setCell ⟨B, 0, none⟩ v') B t v' ∧ (w1.setCell ⟨B, 0, none⟩ v').ownsRow n₁ e size v' m ys ∧ KeepsOthers W (w1.setCell ⟨B, 0, none⟩ v') ∧ Below n₀ W (w1.setCell ⟨B, 0, none⟩ v') ∧ KP Bs Bn W (w1.setCell ⟨B, 0, none⟩ v') ∧ (∀ B' t' u, Boxed W B' t' u → B' ≠ B → t' ≠ e → Boxed (w1.setCell ⟨B, 0, none⟩ v') B' t' u) := by
 have hv1 : Boxed w1 B t v := (hv.alloc tmp).kept hgrow (hv.not_row hte hrow)
 have hlow : ∀ b, b < n₁ → b ≠ B → (w1.setCell ⟨B, 0, none⟩ v').heap[b]? = W.heap[b]? := fun b hb hbB => by
   rw [Below.heap_setCell _ _ _ b (fun e => hbB e), hgrow.block b (by simp; omega) (fun e => by have := (hrow.lt b e.symm).1; omega)]
   exact Below.heap_alloc W _ b (by omega)
 refine ⟨hv1, hv1.set v', hown'.kept (grownBy_setCell' w1 B v') (.inr (hv1.not_row hte hown').symm), ?_, ?_, ⟨hlow Bs hs hsB, hlow Bn hnn hnB⟩, fun B' t' u hu hne hte' => ((hu.alloc tmp).kept hgrow (hu.not_row hte' hrow)).other hne v'⟩
 · refine ((KeepsOthers.alloc W tmp).trans (KeepsOthers.of_grownBy hgrow fun j o ej hj => ?_)).trans (KeepsOthers.setCell _ _ _)
   rcases (hrow.alloc tmp).2 with ⟨rfl, _⟩ | ⟨g, cap, cur, rfl, _, hgb, _⟩
   · simp [Value.ownBlock] at ej
   · obtain rfl : g = j := by simpa [Value.ownBlock] using ej
     rw [hgb] at hj; cases hj; rfl
 · refine (((Below.refl n₀ W).alloc (by omega) tmp).grown hgrow (by simp; omega) fun j ej => ?_).setCell (p := ⟨B, 0, none⟩) hB v'
   have := (hrow.lt j ej).1
   omega
set_option maxRecDepth 100000 in
set_option maxHeartbeats 4000000 in
theorem buckets_in (F : Fence) (hF : Tw.Hid (F = Fence.wide)) {k r c q : Int} (hm : mayB k r c q = true) (g off cap : Nat) (hcap : 8 ≤ cap) (bs : List UInt8) (hl : bs.length = 8) (w : World) (hg : g < w.heap.size) (hcs : ∀ j, j < 8 → w.cell? ⟨g, off + j, none⟩ = some (.int .u8 (bs.getD j 0).toNat)) :
   CallsIn F 4 Tryz.prog 46 #[.agg #[.int .i64 k, .int .i64 r, .int .i64 c, .int .i64 q], .slice (some ⟨g, off, none⟩) 8 cap] w fun e W' => Below w.heap.size w W' ∧
     ((rowsOk q (decI bs) = true ∧ ∃ v, e = .returned (.tuple #[v, .int .i64 0]) ∧ W'.ownsRow w.heap.size 3 1 v 4 ((decI bs).map (Value.int .i64))) ∨
      (rowsOk q (decI bs) = false ∧ e = .returned (.tuple #[.slice none 0 0, .int .i64 220]))) := by
 obtain ⟨i0, hi, hz0, hz1, hz2⟩ := info_parts buckets_info
 have hfn : ∀ f, F.fn f := fun f => by rw [hF.out]; trivial
 have hro : F.round = none := by rw [hF.out]; rfl
 have hW : ∀ {n : Nat} {f : FuncId} {args : Array Value} {w : World} {R : Ending → World → Prop}, Calls Tryz.prog f args w R → CallsIn F n Tryz.prog f args w R := fun h => by rw [hF.out]; exact callsIn_wide.2 h
 refine callsIn_of_wp_marks Tryz.func46 rfl (hfn _) ?_ hro
 simp only [Tryz.ntmps46, List.size_toArray, List.length_cons, List.length_nil, Nat.reduceAdd, Nat.reduceSub, Array.replicate_succ, Array.replicate_zero, List.push_toArray, List.append_toArray, List.nil_append, List.cons_append]
 gi_wp2_with (first
   | (gi_at_call 74; refine (hW (check_calls hm _)).mono ?_; rintro e w1 ⟨rfl, hb1⟩; obtain ⟨hc1, hf1⟩ := bcell hb1; have hz1' := hb1.size; simp only [World.size_alloc] at hz1')
   | (gi_at_call 75; refine (hW (chunk_in _ _ _ _)).mono ?_; rintro e w2 ⟨rfl, rfl⟩))
 -- what lies where the loop begins
 obtain ⟨wp, hwp⟩ : ∃ wp, wp = w.alloc (.cells #[.int .i64 k, .int .i64 r, .int .i64 c, .int .i64 q] 23) := ⟨_, rfl⟩
 obtain ⟨w4, hw4⟩ : ∃ w4, w4 = wp.alloc (.cells #[.slice none 0 0] 33) := ⟨_, rfl⟩
 obtain ⟨w5, hw5⟩ : ∃ w5, w5 = w4.alloc (.cells #[.int .i64 0] 30) := ⟨_, rfl⟩
 obtain ⟨w7, hw7⟩ : ∃ w7, w7 = w1.alloc (.cells #[.slice none 0 0] 33) := ⟨_, rfl⟩
 obtain ⟨w8, hw8⟩ : ∃ w8, w8 = w7.alloc (.cells #[.slice (some ⟨g, off, none⟩) 8 cap] 54) := ⟨_, rfl⟩
 obtain ⟨w9, hw9⟩ : ∃ w9, w9 = w8.alloc (.cells #[.int .i64 2] 3) := ⟨_, rfl⟩
 have sp : wp.heap.size = w.heap.size + 1 := by rw [hwp]; simp
 have s4 : w4.heap.size = w.heap.size + 2 := by rw [hw4]; simp [sp]
 have s5 : w5.heap.size = w.heap.size + 3 := by rw [hw5]; simp [s4]
 have s7 : w7.heap.size = w1.heap.size + 1 := by rw [hw7]; simp
 have s8 : w8.heap.size = w1.heap.size + 2 := by rw [hw8]; simp [s7]
 have s9 : w9.heap.size = w1.heap.size + 3 := by rw [hw9]; simp [s8]
 have b4 : Boxed w4 (w.heap.size + 1) 33 (.slice none 0 0) := by have := Boxed.new wp 33 (.slice none 0 0); rw [sp, ← hw4] at this; exact this
 have b5 : Boxed w5 (w.heap.size + 2) 30 (.int .i64 0) := by have := Boxed.new w4 30 (.int .i64 0); rw [s4, ← hw5] at this; exact this
 have b7 : Boxed w7 w1.heap.size 33 (.slice none 0 0) := by have := Boxed.new w1 33 (.slice none 0 0); rw [← hw7] at this; exact this
 have b8 : Boxed w8 (w1.heap.size + 1) 54 (.slice (some ⟨g, off, none⟩) 8 cap) := by have := Boxed.new w7 54 (.slice (some ⟨g, off, none⟩) 8 cap); rw [s7, ← hw8] at this; exact this
 have b9 : Boxed w9 (w1.heap.size + 2) 3 (.int .i64 2) := by have := Boxed.new w8 3 (.int .i64 2); rw [s8, ← hw9] at this; exact this
 have bp : wp.heap[w.heap.size]? = some (.cells #[.int .i64 k, .int .i64 r, .int .i64 c, .int .i64 q] 23 (0, 0)) := by rw [hwp]; exact World.alloc_heap_new w _
 rw [← hwp, ← hw4, ← hw5] at hb1
 rw [← hw7, ← hw8, ← hw9]
 clear hc1 hf1
 rw [s5] at hb1
 have hzw : w.heap.size + 3 ≤ w1.heap.size := by rw [← s5]; exact hb1.size
 have low9 : ∀ b, b < w1.heap.size → w9.heap[b]? = w1.heap[b]? := fun b hb => by
   rw [hw9, Below.heap_alloc _ _ _ (by omega), hw8, Below.heap_alloc _ _ _ (by omega), hw7, Below.heap_alloc _ _ _ hb]
 have up9 : ∀ b, b < w.heap.size + 3 → w9.heap[b]? = w5.heap[b]? := fun b hb => (low9 b (by omega)).trans (hb1.block b hb)
 have low5 : ∀ b, b < w.heap.size → w5.heap[b]? = w.heap[b]? := fun b hb => by
   rw [hw5, Below.heap_alloc _ _ _ (by omega), hw4, Below.heap_alloc _ _ _ (by omega), hwp, Below.heap_alloc _ _ _ hb]
 have c4 : Boxed w9 (w.heap.size + 1) 33 (.slice none 0 0) := by
   show w9.heap[w.heap.size + 1]? = _
   rw [up9 _ (by omega), hw5, Below.heap_alloc _ _ _ (by omega)]; exact b4
 have c5 : Boxed w9 (w.heap.size + 2) 30 (.int .i64 0) := by
   show w9.heap[w.heap.size + 2]? = _
   rw [up9 _ (by omega)]; exact b5
 have c7 : Boxed w9 w1.heap.size 33 (.slice none 0 0) := by
   show w9.heap[w1.heap.size]? = _
   rw [hw9, Below.heap_alloc _ _ _ (by omega), hw8, Below.heap_alloc _ _ _ (by omega)]; exact b7
 have c8 : Boxed w9 (w1.heap.size + 1) 54 (.slice (some ⟨g, off, none⟩) 8 cap) := by
   show w9.heap[w1.heap.size + 1]? = _
   rw [hw9, Below.heap_alloc _ _ _ (by omega)]; exact b8
 have cp : w9.heap[w.heap.size]? = some (.cells #[.int .i64 k, .int .i64 r, .int .i64 c, .int .i64 q] 23 (0, 0)) := by
   rw [up9 _ (by omega), hw5, Below.heap_alloc _ _ _ (by omega), hw4, Below.heap_alloc _ _ _ (by omega)]; exact bp
 have hB9 : Below w.heap.size w w9 := by
   refine ⟨?_, ?_, ?_, by omega, fun b hb => (up9 b (by omega)).trans (low5 b hb)⟩
   · rw [hw9, hw8, hw7]; show w1.os = _; rw [hb1.os, hw5, hw4, hwp]; rfl
   · rw [hw9, hw8, hw7]; show w1.tape = _; rw [hb1.tape, hw5, hw4, hwp]; rfl
   · rw [hw9, hw8, hw7]; show w1.output = _; rw [hb1.output, hw5, hw4, hwp]; rfl
 have hmeas : ∀ W, Below (w.heap.size + 1) w9 W → ∀ j, (W.cell? ⟨w.heap.size, j, none⟩) = w9.cell? ⟨w.heap.size, j, none⟩ := fun W h j => cellK (h.block _ (by omega))
 have hp3 : w9.cell? ⟨w.heap.size, 3, none⟩ = some (.int .i64 q) := by simp [World.cell?, cp]
 have hst : SeqStopsK F 3 Tryz.prog 111 #[.pointer (some ⟨w1.heap.size + 1, 0, none⟩), .pointer (some ⟨w1.heap.size + 2, 0, none⟩)] (fun x : Fin 4 => #[Value.slice (some ⟨g, off + 2 * x.1, none⟩) 2 2]) (KP (w1.heap.size + 1) (w1.heap.size + 2)) (fun ys => ys = upto 4) (fun pre => ∃ k, k ≤ 4 ∧ pre = upto k) 4 w9 := by rw [hF.out]; exact chunk_stops (w1.heap.size + 1) (w1.heap.size + 2) g off cap hcap w9 c8.cell b9.cell (by omega) (by omega)
 have s9a : w9.heap.size ≤ w1.heap.size + 3 := by omega
 have s9b : w1.heap.size + 3 ≤ w9.heap.size := by omega
 clear hwp hw4 hw5 hw7 hw8 hw9 sp s4 s5 s7 s8 s9 b4 b5 b7 b8 b9 bp
 refine wpIn_rangeFunc_ownG (N := 4) hro (by omega) (gf := 111) (lb := #[.pointer (some ⟨w1.heap.size + 1, 0, none⟩), .pointer (some ⟨w1.heap.size + 2, 0, none⟩)]) rfl (hfn _) (enters_of Tryz.func111 (by kernel_rfl) rfl)
   hst KP.trans (fun W l o o' hl' _ _ _ => ⟨World.putObj_heap_other (by omega), World.putObj_heap_other (by omega)⟩) (Below.refl _ _) (fun _ => rfl)
   (fun pre W => (∃ v, Boxed W w1.heap.size 33 v ∧ W.ownsRow w9.heap.size 3 1 v pre.length (pre.map fun j => Value.int .i64 (decN bs j : Nat)) ∧ ∀ j ∈ pre, ((decN bs j : Nat) : Int) < q) ∧ ((Boxed W (w.heap.size + 1) 33 (.slice none 0 0) ∧ Boxed W (w.heap.size + 2) 30 (.int .i64 0)) ∧ Below (w.heap.size + 1) w9 W))
   (fun c pre W => (c = .ret ∧ rowsOk q (decI bs) = false) ∧ ((Boxed W (w.heap.size + 1) 33 (.slice none 0 0) ∧ Boxed W (w.heap.size + 2) 30 (.int .i64 220)) ∧ Below (w.heap.size + 1) w9 W))
   (OwnFrom.and (Own.from (holdsRow_own w9.heap.size w1.heap.size 33 3 1 (fun pre : List (Fin 4) => pre.length) (fun pre => pre.map fun j => Value.int .i64 (decN bs j : Nat)) (fun pre v => ∀ j ∈ pre, ((decN bs j : Nat) : Int) < q)) _) (OwnFrom.and (Own.from (boxed_own _ _ (fun _ => Value.slice none 0 0)) _ |>.and (Own.from (boxed_own _ _ (fun _ => Value.int .i64 0)) _)) (ownFrom_below (by omega) (by omega))))
   (fun c => OwnFrom.and (ownFrom_pure _ (fun _ => c = .ret ∧ rowsOk q (decI bs) = false)) (OwnFrom.and (Own.from (boxed_own _ _ (fun _ => Value.slice none 0 0)) _ |>.and (Own.from (boxed_own _ _ (fun _ => Value.int .i64 220)) _)) (ownFrom_below (by omega) (by omega))))
   ⟨⟨_, c7, World.ownsRow_nil _ _ _ _, fun j hj => by simp at hj⟩, ⟨c4, c5⟩, Below.refl _ _⟩
   (fun x => { tmps := #[.agg #[.int .i64 k, .int .i64 r, .int .i64 c, .int .i64 q], .slice (some ⟨g, off, none⟩) 8 cap, .pointer (some ⟨w.heap.size, 0, none⟩), undef, .pointer (some ⟨w.heap.size + 1, 0, none⟩), .pointer (some ⟨w.heap.size + 1 + 1, 0, none⟩), .int .i64 0, .pointer (some ⟨w1.heap.size, 0, none⟩), .slice (some ⟨g, off + 2 * x.1, none⟩) 2 2, undef,
       .agg #[.int .i64 k, .int .i64 r, .int .i64 c, .int .i64 q], .int .i64 0, .int .i64 0, .bool false, undef, .slice (some ⟨g, off, none⟩) 8 cap, .int .i64 8, .bool false, .slice (some ⟨g, off, none⟩) 8 cap,
       .func (.func 111) #[] #[.pointer (some ⟨w1.heap.size + 1, 0, none⟩), .pointer (some ⟨w1.heap.size + 1 + 1, 0, none⟩)], .slice (some ⟨g, off + 2 * x.1, none⟩) 2 2, undef, undef, undef, undef, undef, undef, undef, undef, undef, undef, undef, undef, undef, undef, undef, undef, undef, undef, undef], defers := [] }) ?assign ?body ?done ?stop
 case assign =>
   intro l x W K hK
   gi_wp2
   exact hK
 case body =>
   rintro l pre x W ⟨⟨v, hv, hrow, hok⟩, ⟨h4, h5⟩, hB⟩ hlt
   have hc := hv.cell
   have hq3 : W.cell? ⟨w.heap.size, 3, none⟩ = some (.int .i64 q) := (hmeas W hB 3).trans hp3
   have hgc : ∀ j, j < 8 → W.cell? ⟨g, off + j, none⟩ = some (.int .u8 (bs.getD j 0).toNat) := fun j hj => (cellK (hB.block g (by omega))).trans ((cellK ((up9 g (by omega)).trans (low5 g hg))).trans (hcs j hj))
   have hx := x.2
   have hg0 := hgc (2 * x.1) (by omega)
   have hg1 := hgc (2 * x.1 + 1) (by omega)
   rw [← Nat.add_assoc] at hg1
   obtain ⟨y1, hy1⟩ : ∃ y1, bs.getD (2 * x.1) 0 = y1 := ⟨_, rfl⟩
   obtain ⟨y2, hy2⟩ : ∃ y2, bs.getD (2 * x.1 + 1) 0 = y2 := ⟨_, rfl⟩
   have hdx : decN bs x = y1.toNat * 256 + y2.toNat := by rw [decN, hy1, hy2]
   rw [hy1] at hg0
   rw [hy2] at hg1
   have ly1 := y1.toNat_lt
   have ly2 := y2.toNat_lt
   have v1 : IntKind.i64.wrap (y1.toNat : Int) = (y1.toNat : Int) := wrap_nat (by omega)
   have v2 : IntKind.i64.wrap (y2.toNat : Int) = (y2.toNat : Int) := wrap_nat (by omega)
   have v3 : IntKind.i64.wrap ((y1.toNat : Int) * 256) = (y1.toNat : Int) * 256 := by
     have : ((y1.toNat : Int) * 256) = ((y1.toNat * 256 : Nat) : Int) := by omega
     rw [this]; exact wrap_nat (by omega)
   clear hgc hy1 hy2
   gi_wp2
   refine wpIn_round_quiet_lit hF.out (by kernel_rfl) (by kernel_rfl) (by kernel_rfl) ?_
   repeat (quiet_step (fail))
   refine wpQuiet_nil ?_
   intro _ hw'
   obtain ⟨nq, hw''⟩ := hw'
   subst hw''
   have hbits : bits .or .i64 ((y1.toNat : Int) * 256) (y2.toNat : Int) = ((decN bs x : Nat) : Int) := by
     have : ((y1.toNat : Int) * 256) = ((y1.toNat * 256 : Nat) : Int) := by omega
     rw [this, hdx]
     have h := borI_i64 (a := y1.toNat * 256) (b := y2.toNat) (by omega) (by omega)
     rw [or_add ly2] at h
     exact h
   simp only [hbits]
   have hv : Boxed (W.drewN nq) w1.heap.size 33 v := hv
   have hrow : (W.drewN nq).ownsRow w9.heap.size 3 1 v pre.length (pre.map fun j => Value.int .i64 (decN bs j : Nat)) := hrow
   have h4 : Boxed (W.drewN nq) (w.heap.size + 1) 33 (.slice none 0 0) := h4
   have h5 : Boxed (W.drewN nq) (w.heap.size + 2) 30 (.int .i64 0) := h5
   have hc : (W.drewN nq).cell? ⟨w1.heap.size, 0, none⟩ = some v := hc
   have hq3 : (W.drewN nq).cell? ⟨w.heap.size, 3, none⟩ = some (.int .i64 q) := hq3
   have hBq : Below (w.heap.size + 1) w9 (W.drewN nq) := below_drewN hB nq
   have hkq : KeepsFrom w9.heap.size W (W.drewN nq) := ⟨Nat.le_refl _, fun k o _ h _ => h⟩
   have hkp : KP (w1.heap.size + 1) (w1.heap.size + 2) W (W.drewN nq) := ⟨rfl, rfl⟩
   have hsz : w9.heap.size ≤ (W.drewN nq).heap.size := hBq.size
   generalize hD : decN bs x = d at hdx hbits
   have hdl : d < 65536 := by omega
   clear hg0 hg1 v1 v2 v3 hbits hB hmeas hdx
   replace hD := Tw.Hid.mk hD
   generalize W.drewN nq = Wq at *
   by_cases hlq : (d : Int) < q
   · have hlq' : decide (q ≤ (d : Int)) = false := by simp; omega
     gi_wp2_with (gi_at_builtin; refine wpListIn_append_own _ rfl _ _ 33 rfl w9.heap.size 3 i0 (.int .i64 0) 1 8 Tryz.underlying33 hi hz0 hz1 hz2 rfl (by decide) _ _ _ rfl (hrow.alloc _) ⟨Wq.heap.size, 0, none⟩ 1 1 [.int .i64 d] rfl rfl (cell_one_new _ _ _) (by simp [Value.oneCell']) (by unfold maxLen; omega) (by omega) (by simp; omega) ?_; intro v' wa hown' hgrow _; obtain ⟨g', cap', rfl⟩ := ownsRow_succ hown'; obtain ⟨e1, e2, e3, e4, e5, e6, e7⟩ := appended2 (n₀ := w.heap.size + 1) (Bs := w1.heap.size + 1) (Bn := w1.heap.size + 2) hv (by decide) hrow hsz (by omega) (by omega) (by omega) (by omega) (by omega) (by omega) hown' hgrow; have hc1 := e1.cell; have hf1 := e1.frozen)
     refine ⟨hkq.trans (e4.from _), hkp.trans e6, ⟨⟨_, e2, ?_, fun j hj => ?_⟩, ⟨e7 _ _ _ h4 (by omega) (by decide), e7 _ _ _ h5 (by omega) (by decide)⟩, hBq.trans e5⟩⟩
     · rw [List.length_append, List.map_append]
       simp only [List.length_cons, List.length_nil, List.map_cons, List.map_nil, hD.out]
       exact e3
     · rcases List.mem_append.1 hj with hj | hj
       · exact hok j hj
       · rw [List.mem_singleton.1 hj, hD.out]; exact hlq
   · have hlq' : q ≤ (d : Int) := by omega
     have hlq2 : decide (q ≤ (d : Int)) = true := by simpa using hlq'
     have hc4 := h4.cell
     have hf4 := h4.frozen
     have h5' := h5.other (B' := w.heap.size + 1) (by omega) (Value.slice none 0 0)
     have hc5 := h5'.cell
     have hf5 := h5'.frozen
     have hbad : rowsOk q (decI bs) = false := by
       refine rows_bad (i := x.1) (n := ((decN bs x : Nat) : Int)) ?_ (by rw [hD.out]; omega)
       rw [decN_all hl, List.getElem?_map]
       have : ∀ x : Fin 4, (upto 4)[x.1]? = some x := by decide
       rw [this x]; rfl
     replace hbad := Tw.Hid.mk hbad
     gi_wp2
     exact ⟨hkq.trans (((KeepsOthers.setCell _ _ _).trans (KeepsOthers.setCell _ _ _)).from _), ⟨rfl, hbad.out⟩, ⟨(h4.set _).other (by omega) _, h5'.set _⟩, (hBq.setCell (p := ⟨w.heap.size + 1, 0, none⟩) (by simp) _).setCell (p := ⟨w.heap.size + 1 + 1, 0, none⟩) (by simp) _⟩
 case done =>
   rintro D ys W hD rfl ⟨⟨v, hv, hrow, hok⟩, ⟨h4, h5⟩, hB⟩ hK
   have hrow : W.ownsRow w9.heap.size 3 1 v (3 + 1) ((upto 4).map fun j => Value.int .i64 (decN bs j : Nat)) := hrow
   obtain ⟨g', cap', rfl⟩ := ownsRow_succ hrow
   have hc := hv.cell
   have hc4 := h4.cell
   have hf4 := h4.frozen
   have h5' := h5.other (B' := w.heap.size + 1) (by omega) (.slice (some ⟨g', 0, none⟩) (3 + 1) cap')
   have hc5 := h5'.cell
   have hf5 := h5'.frozen
   have hgood : rowsOk q (decI bs) = true := rowsOk_of.2 fun i n hin => by
     rw [decN_all hl, List.getElem?_map] at hin
     obtain ⟨j, hj, rfl⟩ := Option.map_eq_some_iff.1 hin
     exact ⟨by omega, hok j (List.mem_of_getElem? hj)⟩
   replace hgood := Tw.Hid.mk hgood
   gi_wp2
   have hK' : ((W.setCell ⟨w.heap.size + 1, 0, none⟩ (.slice (some ⟨g', 0, none⟩) (3 + 1) cap')).setCell ⟨w.heap.size + 1 + 1, 0, none⟩ (.int .i64 0)).heap[D]? = some (.deferred (some [])) := ((KeepsOthers.setCell _ _ _).trans (KeepsOthers.setCell _ _ _)).same D _ hK rfl
   refine ⟨by simp, .inl ⟨_, _, rfl, run_takeDeferred hK', ?_⟩⟩
   have g4 := ((h4.set (.slice (some ⟨g', 0, none⟩) (3 + 1) cap')).other (B' := w.heap.size + 1 + 1) (by omega) (.int .i64 0)).cell
   have g5 := (h5'.set (.int .i64 0)).cell
   have hd4 := cell_kept g4 (grownBy_putObj' _ D (.deferred none)) (fun r e => by cases e; exact ⟨_, hK', rfl⟩)
   have hd5 := cell_kept g5 (grownBy_putObj' _ D (.deferred none)) (fun r e => by cases e; exact ⟨_, hK', rfl⟩)
   have hr1 := hrow.kept (grownBy_setCell' W (w.heap.size + 1) (.slice (some ⟨g', 0, none⟩) (3 + 1) cap')) (.inr (fun e => by have := (hrow.lt g' rfl).1; simp [Value.ownBlock] at e; omega))
   have hr2 := hr1.kept (grownBy_setCell' _ (w.heap.size + 1 + 1) (.int .i64 0)) (.inr (fun e => by have := (hrow.lt g' rfl).1; simp [Value.ownBlock] at e; omega))
   have hr3 := ownsRow_putObj hr2 (.deferred none) hK' rfl
   have hr4 : ((((W.setCell ⟨w.heap.size + 1, 0, none⟩ (.slice (some ⟨g', 0, none⟩) (3 + 1) cap')).setCell ⟨w.heap.size + 1 + 1, 0, none⟩ (.int .i64 0))).putObj D (.deferred none)).ownsRow w.heap.size 3 1 (.slice (some ⟨g', 0, none⟩) 4 cap') 4 ((decI bs).map (Value.int .i64)) := by
     refine ⟨by rw [decN_all hl]; rfl, .inr ?_⟩
     rcases hr3.2 with ⟨h, _⟩ | ⟨g2, cap2, cur, h, q1, q2, q3, q4, q5, q6⟩
     · cases h
     · refine ⟨g2, cap2, cur, h, by omega, q2, q3, q4, q5, ?_⟩
       rw [q6, decN_all hl, List.map_map]; rfl
   refine ⟨.tuple #[.slice (some ⟨g', 0, none⟩) 4 cap', .int .i64 0], ?_, (hB9.trans (((hB.setCell (p := ⟨w.heap.size + 1, 0, none⟩) (by simp) _).setCell (p := ⟨w.heap.size + 1 + 1, 0, none⟩) (by simp) _).mono (by omega))).trans (belowK_b (w := w9) (by omega) _ D _ _ (by omega) hK' rfl rfl), .inl ⟨hgood.out, _, rfl, hr4⟩⟩
   simp [results, Tryz.f46, go_sem, hd4, hd5]
 case stop =>
   rintro D c' pre W hD hpre ⟨⟨rfl, hbad⟩, ⟨h4, h5⟩, hB⟩ hK
   have hc4 := h4.cell
   have hc5 := h5.cell
   replace hbad := Tw.Hid.mk hbad
   gi_wp2
   refine ⟨by simp, .inl ⟨_, _, rfl, run_takeDeferred hK, ?_⟩⟩
   have hd4 := cell_kept hc4 (grownBy_putObj' _ D (.deferred none)) (fun r e => by cases e; exact ⟨_, hK, rfl⟩)
   have hd5 := cell_kept hc5 (grownBy_putObj' _ D (.deferred none)) (fun r e => by cases e; exact ⟨_, hK, rfl⟩)
   refine ⟨.tuple #[.slice none 0 0, .int .i64 220], ?_, (hB9.trans (hB.mono (by omega))).trans (belowK_b (w := w9) (by omega) W D _ _ (by omega) hK rfl rfl), .inr ⟨hbad.out, rfl⟩⟩
   simp [results, Tryz.f46, go_sem, hd4, hd5]
end Go.Proofs.YtgcicholalgbiaaGreat
set_option maxRecDepth 10000
namespace Go.Proofs.YtgcicholalgbiaaGreat
open Go Go.Tw Go.Proofs Go.Gf
def intsRes (n:Nat) (l:List Int) (e:Int):Res:=⟨.tup [(ownR 3 n (intsA l)).v,intV e],(ownR 3 n (intsA l)).rows⟩
def bktRes (k r c w:Int) (bs:List UInt8):Res:=if bktE k r c w bs=0 then ⟨.tup [.tree 4 4 (intsA (decI bs)) false,intV 0],[]⟩ else intsRes 0 [] (bktE k r c w bs)
theorem dir_Buckets (k r c w:Int) (v:AV) (bs:List UInt8) (x:List AV) (hv:RdSl v bs.length (bytesA bs++x)) (hn:bs.length≤1000000000000):FSpec Tryz.prog 46 [parV k r c w,v] (bktRes k r c w bs):=by
 have hp:=hv.plain
 unfold bktRes
 cases h:mayB k r c w with
 | false =>
  have he:bktE k r c w bs=2:=by simp [bktE,h]
  rw [if_neg (by rw [he];decide),he]
  refine fspec_of_body follows Tryz.func46 (by unfold Tryz.f46;rfl) (by unfold Tryz.f46;simp) onceA (by unfold Tryz.f46;simp) (by kernel_rfl) ?_;unfold Tryz.f46
  have me:Mem.empty.next=0:=rfl
  simp only [↓pre,simprocAttr,parV,sx,tys46,onceA,postU,h,me,Bool.false_eq_true,allocE,storeE,Nat.zero_ne_one];repeat' ((first | refine guard_dec (fun _ => ?_) (fun _ => ?_) | refine cond_dec (fun _ => ?_) (fun _ => ?_) | refine guard_ndec (fun _ => ?_) (fun _ => ?_) | refine cond_ndec (fun _ => ?_) (fun _ => ?_) | refine guard_split (fun _ => ?_) (fun _ => ?_) | refine cond_split (fun _ => ?_) (fun _ => ?_) | refine call_plain (layout_check _ _ _ _) (by first | rfl | simp only [parV,plQ, *]) ?_ | refine call_pure (layout_check _ _ _ _) (by first | rfl | simp only [parV,plQ, *]) (by intro k;first | rfl | simp only [sq,sr, *]) ?_) <;> simp only [↓pre,simprocAttr,parV,sx,tys46,onceA,postU,h,me,Bool.false_eq_true,allocE,storeE,Nat.zero_ne_one, *])
  rfl
 | true =>
  by_cases hl:bs.length=8
  ·have he:bktE k r c w bs=if rowsOk w (decI bs)=true then 0 else 220:=by simp [bktE,h,hl]
   refine ⟨by kernel_rfl,fun W I vs hI hsz hvs => ?_⟩
   rcases hv.form with ⟨_,h0⟩ | ⟨_,_,_,h0⟩ | ⟨cc,f,rfl,hcc⟩
   ·omega
   ·omega
   simp only [VRs,VR] at hvs
   obtain ⟨⟨v1,h1,ps,rfl,hps,_,⟨p0,hp0,rfl⟩,⟨p1,hp1,rfl⟩,⟨p2,hp2,rfl⟩,⟨p3,hp3,rfl⟩,_⟩,⟨v2,h2,g,o,cap,rfl,hIg,⟨hc1,hc2⟩,_,_,hcells⟩,_⟩:=hvs
   have hps':ps = #[.int .i64 k,.int .i64 r,.int .i64 c,.int .i64 w]:=by
    match ps,hps,hp0,hp1,hp2,hp3 with
    | ⟨[a,b,d,e]⟩,_,hp0,hp1,hp2,hp3=>simp at hp0 hp1 hp2 hp3;simp [hp0,hp1,hp2,hp3]
   subst hps'
   rw [hl] at h2 hc1
   have hvs':vs = #[.agg #[.int .i64 k,.int .i64 r,.int .i64 c,.int .i64 w],.slice (some ⟨g,o,none⟩) 8 cap]:=by
    match vs,hsz,h1,h2 with
    | ⟨[a,b]⟩,_,h1,h2=>simp at h1 h2;simp [h1,h2]
   subst hvs'
   have hcs:∀ j,j < 8→W.cell? ⟨g,o+j,none⟩=some (.int .u8 (bs.getD j 0).toNat):=fun j hj=>by
    have hj2:=byte_at (bs:=bs) (x:=x) (i:=j) (a:=bs.getD j 0) (by rw [List.getD_eq_getElem?_getD,List.getElem?_eq_getElem (by omega)];rfl)
    obtain ⟨u,q1,q2⟩:=VRs_at hcells hj2
    simp only [VR] at q2
    rw [q2] at q1
    exact q1
   refine (callsIn_wide.1 (buckets_in Fence.wide ⟨rfl⟩ h g o cap (by omega) bs hl W (hI g hIg) hcs)).mono fun e W' hq => ?_
   obtain ⟨hB,hq⟩:=hq
   have hnoWr:∀ g,¬ Wr noneR Mem.empty g:=by
    rintro g (⟨b,kk,o,q1,_⟩ | q1)
    ·simp [Mem.empty] at q1
    ·exact empty_has q1
   have hS:∀ I':Nat→Prop,(∀ g,I' g→g < W'.heap.size)→SR Tryz.prog W' I' noneR (pushAll Tryz.prog Mem.empty []):=fun I' hI'=>⟨fun b k g o h=>by simp [pushAll,pushFrom,Mem.empty] at h,fun b b' k k' g o o' h=>by simp [pushAll,pushFrom,Mem.empty] at h,hI',MRs.none⟩
   have hSt:∀ I':Nat→Prop,(∀ g,I g→I' g)→(∀ g,I' g→I g∨W.heap.size≤g)→Step W I noneR Mem.empty W' I' noneR (pushAll Tryz.prog Mem.empty []):=fun I' q1 q2=>⟨hB.os,hB.tape,hB.output,hB.size,fun g hg _=>hB.block g hg,fun g y hy=>by rw [shape_same (hB.block g (shape_lt hy))];exact hy,q1,fun g hg=>(q2 g hg).imp id .inr,fun _ _ h=>h,fun b h1 h2=>absurd h1 h2,fun g hg=>by
    rcases hg with ⟨b,kk,o,q1,_⟩ | q1
    ·simp [pushAll,pushFrom,Mem.empty] at q1
    ·exact absurd q1 empty_has,Nat.le_refl _⟩
   rcases hq with ⟨hr,v,rfl,hown⟩ | ⟨hr,rfl⟩
   ·rw [if_pos (by rw [he,if_pos hr])]
    rcases hown.2 with ⟨rfl,h0⟩ | ⟨g2,cap2,cur,rfl,q1,q2,q3,q4,q5,q6⟩
    ·omega
    refine ⟨_,(fun y=>I y∨y=g2),noneR,rfl, ?_,hS _ ?_,hSt _ (fun y hy => .inl hy) ?_⟩
    ·simp only [VR,VRs]
     refine ⟨_,rfl,rfl,⟨_,rfl,g2,0,cap2,rfl,.inr rfl,⟨Nat.le_refl _,q3⟩,(fun h=>by cases h), ?_, ?_⟩,⟨_,rfl,rfl⟩,trivial⟩
     ·intro a ha
      obtain ⟨z,_,rfl⟩:=List.mem_map.1 ha
      rfl
     ·refine VRs_iff.2 fun j a hj => ?_
      unfold intsA at hj
      rw [List.getElem?_map] at hj
      obtain ⟨z,hz,rfl⟩:=Option.map_eq_some_iff.1 hj
      refine ⟨.int .i64 z, ?_,by simp only [intV,VR]⟩
      have hjl:=(List.getElem?_eq_some_iff.1 hz).1
      have hdl:=decI_len bs
      have h6:=congrArg (fun l:List Value=>l[j]?) q6
      simp only [List.getElem?_map,hz,Option.map_some,Nat.mul_one] at h6
      rw [List.getElem?_take_of_lt (by omega),Array.getElem?_toList] at h6
      rw [Nat.zero_add,cell_of_row _ _ _ _ _ _ q2]
      exact h6
    ·rintro y (hy | rfl)
     ·exact Nat.lt_of_lt_of_le (hI y hy) hB.size
     ·exact heap_lt q2
    ·rintro y (hy | rfl)
     ·exact .inl hy
     ·exact .inr q1
   ·have he':bktE k r c w bs=220:=by rw [he,hr];rfl
    rw [if_neg (by rw [he'];decide),he']
    refine ⟨_,I,noneR,rfl, ?_,hS _ (fun y hy=>Nat.lt_of_lt_of_le (hI y hy) hB.size),hSt _ (fun _ h=>h) (fun _ h => .inl h)⟩
    simp only [intsRes,ownR,if_true,VR,VRs,nilS,intV]
    exact ⟨_,rfl,rfl,⟨_,rfl,rfl⟩,⟨_,rfl,rfl⟩,trivial⟩
  ·have hl':¬ ((bs.length:Nat):Int)=8:=by omega
   have he:bktE k r c w bs=220:=by simp [bktE,h,hl]
   replace hl:=Hid.mk hl
   rw [if_neg (by rw [he];decide),he]
   refine fspec_of_body follows Tryz.func46 (by unfold Tryz.f46;rfl) (by unfold Tryz.f46;simp) onceA (by unfold Tryz.f46;simp) (by kernel_rfl) ?_;unfold Tryz.f46
   have me:Mem.empty.next=0:=rfl
   simp only [↓pre,simprocAttr,parV,sx,tys46,onceA,postU,h,me,hv.len',hl',allocE,storeE,Nat.zero_ne_one];repeat' ((first | refine guard_dec (fun _ => ?_) (fun _ => ?_) | refine cond_dec (fun _ => ?_) (fun _ => ?_) | refine guard_ndec (fun _ => ?_) (fun _ => ?_) | refine cond_ndec (fun _ => ?_) (fun _ => ?_) | refine guard_split (fun _ => ?_) (fun _ => ?_) | refine cond_split (fun _ => ?_) (fun _ => ?_) | refine call_plain (layout_check _ _ _ _) (by first | rfl | simp only [parV,plQ, *]) ?_ | refine call_pure (layout_check _ _ _ _) (by first | rfl | simp only [parV,plQ, *]) (by intro k;first | rfl | simp only [sq,sr, *]) ?_) <;> simp only [↓pre,simprocAttr,parV,sx,tys46,onceA,postU,h,me,hv.len',hl',allocE,storeE,Nat.zero_ne_one, *])
   rfl
def bktV (k r c w:Int) (bs:List UInt8):AV:=if bktE k r c w bs=0 then .tup [.tree 4 4 (intsA (decI bs)) false,intV 0] else .tup [nilS,intV (bktE k r c w bs)]
theorem dir_BucketsT (k r c w:Int) (v:AV) (bs:List UInt8) (x:List AV) (hv:RdSl v bs.length (bytesA bs++x)) (hn:bs.length≤1000000000000):FSpec Tryz.prog 46 [parV k r c w,v] ⟨bktV k r c w bs,[]⟩:=by
 have h:=dir_Buckets k r c w v bs x hv hn
 unfold bktRes at h
 unfold bktV
 split at h
 ·rename_i h1
  rw [if_pos h1]
  exact h
 ·rename_i h1
  rw [if_neg h1]
  exact h
theorem bkt_eight {k r c w:Int} {bs:List UInt8} (h:bktE k r c w bs=0):(decI bs).length=4:=by
 rw [decI_len]
 unfold bktE at h
 split at h
 ·split at h
  ·omega
  ·omega
 ·omega
theorem rd_four {k r c w:Int} {bs:List UInt8} (h:bktE k r c w bs=0):RdSl (.tree 4 4 (intsA (decI bs)) false) (decI bs).length (intsA (decI bs)):=by
 rw [bkt_eight h]
 exact ⟨.inr (.inr ⟨_,_,rfl,Nat.le_refl _⟩)⟩
theorem bktV_two (k r c w:Int) (bs:List UInt8):∃ a,bktV k r c w bs = .tup [a,intV (bktE k r c w bs)]∧(∀ j,shift j a=a)∧fzId a:=by
 unfold bktV
 split
 ·rename_i h
  have:=rd_four h
  rw [h]
  exact ⟨_,rfl,fun j=>rd_shift this j,fzId_rd this⟩
 ·exact ⟨_,rfl,fun j=>rfl,fzId_val _⟩
def obyE (k r c w:Int) (L:List (List UInt8)) (row:Int):Int:=if objE k r c w L row=0 then cutE k r c w L (objS k r c w L row) 0 (pLen (objD k r c w L row)).toNat else objE k r c w L row
def obyB (k r c w:Int) (L:List (List UInt8)) (row:Int):List UInt8:=if obyE k r c w L row=0 then cutB k r c w L (objS k r c w L row) 0 (pLen (objD k r c w L row)).toNat else []
theorem bytV_eq (k r c w:Int) (L:List (List UInt8)) (row:Int):bytV k r c w L row = .tup [takA (obyB k r c w L row),intV (obyE k r c w L row)]:=by
 have h0:takA []=nilS:=rfl
 unfold obyB
 unfold bytV cutV obyE
 by_cases h:objE k r c w L row=0
 ·rw [if_pos h,if_pos h]
  by_cases h2:cutE k r c w L (objS k r c w L row) 0 (pLen (objD k r c w L row)).toNat=0
  ·rw [if_pos h2,if_pos h2,h2]
  ·rw [if_neg h2,if_neg h2,h0]
 ·rw [if_neg h,if_neg h,if_neg h,h0]
theorem obyB_len (k r c w:Int) (L:List (List UInt8)) (row:Int):(obyB k r c w L row).length≤32768:=by
 unfold obyB
 split
 ·rename_i h
  unfold obyE at h
  split at h
  ·rename_i h2
   obtain ⟨_,_,_,_,_,hl0,hl1⟩:=obj_refs h2
   unfold cutB
   rw [tab_len]
   omega
  ·contradiction
 ·simp
theorem takA_rd2 (b:List UInt8):RdSl (takA b) b.length (bytesA b++[]):=taken_rd b
def bkE (k r c w:Int) (L:List (List UInt8)):Int:=if obyE k r c w L 0=0 then bktE k r c w (obyB k r c w L 0) else obyE k r c w L 0
def bkL (k r c w:Int) (L:List (List UInt8)):List Int:=decI (obyB k r c w L 0)
def bkV (k r c w:Int) (L:List (List UInt8)):AV:=if bkE k r c w L=0 then .tup [.tree 4 4 (intsA (bkL k r c w L)) false,intV 0] else .tup [nilS,intV (bkE k r c w L)]
theorem live_Buckets (k r c w:Int) (v:AV) (L:List (List UInt8)) (cells:List AV) (hv:RowsV v L cells):FSpec Tryz.prog 13 [imV k r c w v] ⟨bkV k r c w L,[]⟩:=by
 refine fspec_fzT ?_
 have hp:=hv.rd.plain
 have hf:=rd_fz hv.rd
 have ho:=rd_one hv.rd
 have hob:=object_Bytes k r c w 0 v L cells hv
 rw [bytV_eq] at hob
 have hTr:=takA_rd2 (obyB k r c w L 0)
 have hbl:=obyB_len k r c w L 0
 have hdb:=dir_BucketsT k r c w _ _ [] hTr (by omega)
 have p2:=hTr.plain
 have f2:=rd_fz hTr
 have o2:=rd_one hTr
 have s2:=rd_shift hTr
 unfold bkV bkE bkL
 unfold imV at hob ⊢
 simp only [intV] at hob
 generalize takA (obyB k r c w L 0)=TV at *
 replace hbl:=Hid.mk hbl
 replace hTr:=Hid.mk hTr
 by_cases hE:obyE k r c w L 0=0
 ·rw [if_pos hE]
  rw [hE] at hob
  obtain ⟨a,ha,hsh,hid⟩:=bktV_two k r c w (obyB k r c w L 0)
  have hz:=fun m=>fzId_two hid (fzId_val (.int .i64 (bktE k r c w (obyB k r c w L 0)))) 1 m
  rw [show (if bktE k r c w (obyB k r c w L 0)=0 then AV.tup [.tree 4 4 (intsA (decI (obyB k r c w L 0))) false,intV 0] else .tup [nilS,intV (bktE k r c w (obyB k r c w L 0))])=bktV k r c w (obyB k r c w L 0) from rfl,ha]
  rw [ha] at hdb
  simp only [intV] at hdb
  generalize bktE k r c w (obyB k r c w L 0)=BE at *
  replace hz:=Hid.mk hz
  replace ha:=Hid.mk ha
  replace hE:=Hid.mk hE
  refine ospec_of_body follows Tryz.func13 (by unfold Tryz.f13;rfl) (by unfold Tryz.f13;simp) onceA (by unfold Tryz.f13;simp) (by kernel_rfl) ?_;unfold Tryz.f13
  simp only [↓pre,simprocAttr,parV,sx,tys13,onceA,postU,hf,ho,f2,o2,s2,storeE,allocE,put_at,push_at,sr]
  (first | refine call_plain (hob) (by first | rfl | simp only [parV,plQ, *]) ?_ | refine call_pure (hob) (by first | rfl | simp only [parV,plQ, *]) (by intro k;first | rfl | simp only [sq,sr, *]) ?_);simp only [↓pre,simprocAttr,parV,sx,tys13,onceA,postU,hf,ho,f2,o2,s2,storeE,allocE,put_at,push_at,hsh,sr];(first | refine call_plain (hdb) (by first | rfl | simp only [parV,plQ, *]) ?_ | refine call_pure (hdb) (by first | rfl | simp only [parV,plQ, *]) (by intro k;first | rfl | simp only [sq,sr, *]) ?_);simp only [↓pre,simprocAttr,parV,sx,tys13,onceA,postU,hf,ho,f2,o2,s2,storeE,allocE,put_at,push_at,hsh,sr]
  exact ⟨1,hz.out _⟩
 ·rw [if_neg hE,if_neg hE]
  have hz:=fun m=>fzId_two (fzId_val (.slice none 0 0)) (fzId_val (.int .i64 (obyE k r c w L 0))) 1 m
  replace hz:=Hid.mk hz
  refine ospec_of_body follows Tryz.func13 (by unfold Tryz.f13;rfl) (by unfold Tryz.f13;simp) onceA (by unfold Tryz.f13;simp) (by kernel_rfl) ?_;unfold Tryz.f13
  simp only [↓pre,simprocAttr,parV,sx,tys13,onceA,postU,hf,ho,f2,o2,s2,storeE,allocE,put_at,push_at,sr]
  (first | refine call_plain (hob) (by first | rfl | simp only [parV,plQ, *]) ?_ | refine call_pure (hob) (by first | rfl | simp only [parV,plQ, *]) (by intro k;first | rfl | simp only [sq,sr, *]) ?_);simp only [↓pre,simprocAttr,parV,sx,tys13,onceA,postU,hf,ho,f2,o2,s2,storeE,allocE,put_at,push_at,hE,sr]
  exact ⟨1,hz.out _⟩
def enP (k r c w:Int) (L:List (List UInt8)) (b:Int):Int:=if imE k r c w L=0 then (if b < 0∨4≤b then 2 else if bkE k r c w L=0 then obyE k r c w L ((bkL k r c w L).getD b.toNat 0) else bkE k r c w L) else imE k r c w L
def enV (k r c w:Int) (L:List (List UInt8)) (b:Int):AV:=if enP k r c w L b=0 then prsT k r c w (obyB k r c w L ((bkL k r c w L).getD b.toNat 0)) else .tup [nilS,intV (enP k r c w L b)]
theorem prsT_two (k r c w:Int) (bs:List UInt8):∃ a,prsT k r c w bs = .tup [a,intV (prsE k r c w bs)]∧(∀ j,shift j a=a)∧fzId a:=⟨_,rfl,fun j=>shift_treeR,fzId_rd (treeR_rd _ _)⟩
theorem bk_len {k r c w:Int} {L:List (List UInt8)} (h:bkE k r c w L=0):(bkL k r c w L).length=4:=by
 unfold bkE at h
 split at h
 ·exact bkt_eight h
 ·contradiction
theorem live_Entries (k r c w b:Int) (v:AV) (L:List (List UInt8)) (cells:List AV) (hv:RowsV v L cells):FSpec Tryz.prog 14 [imV k r c w v,intV b] ⟨enV k r c w L b,[]⟩:=by
 refine fspec_fzT ?_
 have hp:=hv.rd.plain
 have hf:=rd_fz hv.rd
 have ho:=rd_one hv.rd
 have hck:=image_Check k r c w v L cells hv
 have hbk:=live_Buckets k r c w v L cells hv
 unfold enV enP
 unfold bkV at hbk
 unfold imV at hck hbk ⊢
 have hn2:=fun m (e:Int)=>fzId_two (fzId_val (.slice none 0 0)) (fzId_val (.int .i64 e)) 1 m
 replace hn2:=Hid.mk hn2
 by_cases hI:imE k r c w L=0
 ·rw [hI] at hck
  simp only [if_pos hI]
  replace hI:=Hid.mk hI
  by_cases h1:b < 0
  ·rw [if_pos (Or.inl h1),if_neg (by decide)]
   refine ospec_of_body follows Tryz.func14 (by unfold Tryz.f14;rfl) (by unfold Tryz.f14;simp) onceA (by unfold Tryz.f14;simp) (by kernel_rfl) ?_;unfold Tryz.f14
   simp only [↓pre,simprocAttr,parV,sx,tys14,onceA,postU,hf,ho,storeE,allocE,put_at,push_at,sr]
   (first | refine call_plain (hck) (by first | rfl | simp only [parV,plQ, *]) ?_ | refine call_pure (hck) (by first | rfl | simp only [parV,plQ, *]) (by intro k;first | rfl | simp only [sq,sr, *]) ?_);simp only [↓pre,simprocAttr,parV,sx,tys14,onceA,postU,hf,ho,storeE,allocE,put_at,push_at,h1,sr]
   exact ⟨1,hn2.out _ _⟩
  ·by_cases h2:4≤b
   ·rw [if_pos (Or.inr h2),if_neg (by decide)]
    refine ospec_of_body follows Tryz.func14 (by unfold Tryz.f14;rfl) (by unfold Tryz.f14;simp) onceA (by unfold Tryz.f14;simp) (by kernel_rfl) ?_;unfold Tryz.f14
    simp only [↓pre,simprocAttr,parV,sx,tys14,onceA,postU,hf,ho,storeE,allocE,put_at,push_at,sr]
    (first | refine call_plain (hck) (by first | rfl | simp only [parV,plQ, *]) ?_ | refine call_pure (hck) (by first | rfl | simp only [parV,plQ, *]) (by intro k;first | rfl | simp only [sq,sr, *]) ?_);simp only [↓pre,simprocAttr,parV,sx,tys14,onceA,postU,hf,ho,storeE,allocE,put_at,push_at,h1,h2,sr]
    exact ⟨1,hn2.out _ _⟩
   ·simp only [if_neg (show ¬ (b < 0∨4≤b) by omega)]
    by_cases hB:bkE k r c w L=0
    ·rw [if_pos hB] at hbk
     simp only [if_pos hB]
     obtain ⟨i,rfl⟩:∃ i:Nat,b=(i:Int):=⟨b.toNat,by omega⟩
     rw [Int.toNat_natCast]
     have hil:i < 4:=by omega
     have hbl:=bk_len hB
     obtain ⟨n,hn⟩:∃ n,(bkL k r c w L)[i]? = some n:=⟨_,List.getElem?_eq_getElem (by omega)⟩
     have hn1:(bkL k r c w L).getD i 0=n:=by rw [List.getD_eq_getElem?_getD,hn];rfl
     rw [hn1]
     have hR4:RdSl (.tree 4 4 (intsA (bkL k r c w L)) false) 4 (intsA (bkL k r c w L)):=⟨.inr (.inr ⟨_,_,rfl,Nat.le_refl _⟩)⟩
     have a1:=int_at (x:=[]) hn
     rw [List.append_nil] at a1
     have p4:=hR4.plain
     have f4:=rd_fz hR4
     have o4:=rd_one hR4
     have s4:=rd_shift hR4
     have l4:=fun P t=>hR4.len' (P:=P) (t:=t)
     have d4:=fun P t k=>hR4.addr' (P:=P) (t:=t) (k:=k)
     generalize AV.tree 4 4 (intsA (bkL k r c w L)) false=RV at *
     generalize intsA (bkL k r c w L)=RC at *
     have hob:=object_Bytes k r c w n v L cells hv
     rw [bytV_eq] at hob
     have hTr:=takA_rd2 (obyB k r c w L n)
     have hol:=obyB_len k r c w L n
     have hdp:=dir_ParseT k r c w _ _ [] hTr (by omega)
     have p2:=hTr.plain
     have f2:=rd_fz hTr
     have o2:=rd_one hTr
     have s2:=rd_shift hTr
     unfold imV at hob
     simp only [intV] at hob hbk
     generalize takA (obyB k r c w L n)=TV at *
     replace hbl:=Hid.mk hbl
     replace hn:=Hid.mk hn
     replace hn1:=Hid.mk hn1
     replace hB:=Hid.mk hB
     replace hR4:=Hid.mk hR4
     replace hol:=Hid.mk hol
     replace hTr:=Hid.mk hTr
     by_cases hE:obyE k r c w L n=0
     ·rw [if_pos hE]
      rw [hE] at hob
      obtain ⟨a,ha,hsh,hid⟩:=prsT_two k r c w (obyB k r c w L n)
      have hz:=fun m=>fzId_two hid (fzId_val (.int .i64 (prsE k r c w (obyB k r c w L n)))) 1 m
      rw [ha]
      rw [ha] at hdp
      simp only [intV] at hdp
      generalize prsE k r c w (obyB k r c w L n)=PE at *
      replace hz:=Hid.mk hz
      replace ha:=Hid.mk ha
      replace hE:=Hid.mk hE
      refine ospec_of_body follows Tryz.func14 (by unfold Tryz.f14;rfl) (by unfold Tryz.f14;simp) onceA (by unfold Tryz.f14;simp) (by kernel_rfl) ?_;unfold Tryz.f14
      simp only [↓pre,simprocAttr,parV,sx,tys14,onceA,postU,hf,ho,storeE,allocE,put_at,push_at,sr]
      (first | refine call_plain (hck) (by first | rfl | simp only [parV,plQ, *]) ?_ | refine call_pure (hck) (by first | rfl | simp only [parV,plQ, *]) (by intro k;first | rfl | simp only [sq,sr, *]) ?_);simp only [↓pre,simprocAttr,parV,sx,tys14,onceA,postU,hf,ho,storeE,allocE,put_at,push_at,h1,h2,hil,a1,f2,o2,s2,f4,o4,s4,l4,d4,hsh,sr];(first | refine call_plain (hbk) (by first | rfl | simp only [parV,plQ, *]) ?_ | refine call_pure (hbk) (by first | rfl | simp only [parV,plQ, *]) (by intro k;first | rfl | simp only [sq,sr, *]) ?_);simp only [↓pre,simprocAttr,parV,sx,tys14,onceA,postU,hf,ho,storeE,allocE,put_at,push_at,h1,h2,hil,a1,f2,o2,s2,f4,o4,s4,l4,d4,hsh,sr];(first | refine call_plain (hob) (by first | rfl | simp only [parV,plQ, *]) ?_ | refine call_pure (hob) (by first | rfl | simp only [parV,plQ, *]) (by intro k;first | rfl | simp only [sq,sr, *]) ?_);simp only [↓pre,simprocAttr,parV,sx,tys14,onceA,postU,hf,ho,storeE,allocE,put_at,push_at,h1,h2,hil,a1,f2,o2,s2,f4,o4,s4,l4,d4,hsh,sr];(first | refine call_plain (hdp) (by first | rfl | simp only [parV,plQ, *]) ?_ | refine call_pure (hdp) (by first | rfl | simp only [parV,plQ, *]) (by intro k;first | rfl | simp only [sq,sr, *]) ?_);simp only [↓pre,simprocAttr,parV,sx,tys14,onceA,postU,hf,ho,storeE,allocE,put_at,push_at,h1,h2,hil,a1,f2,o2,s2,f4,o4,s4,l4,d4,hsh,sr]
      exact ⟨1,hz.out _⟩
     ·rw [if_neg hE]
      refine ospec_of_body follows Tryz.func14 (by unfold Tryz.f14;rfl) (by unfold Tryz.f14;simp) onceA (by unfold Tryz.f14;simp) (by kernel_rfl) ?_;unfold Tryz.f14
      simp only [↓pre,simprocAttr,parV,sx,tys14,onceA,postU,hf,ho,storeE,allocE,put_at,push_at,sr]
      (first | refine call_plain (hck) (by first | rfl | simp only [parV,plQ, *]) ?_ | refine call_pure (hck) (by first | rfl | simp only [parV,plQ, *]) (by intro k;first | rfl | simp only [sq,sr, *]) ?_);simp only [↓pre,simprocAttr,parV,sx,tys14,onceA,postU,hf,ho,storeE,allocE,put_at,push_at,h1,h2,hil,a1,f2,o2,s2,f4,o4,s4,l4,d4,hE,sr];(first | refine call_plain (hbk) (by first | rfl | simp only [parV,plQ, *]) ?_ | refine call_pure (hbk) (by first | rfl | simp only [parV,plQ, *]) (by intro k;first | rfl | simp only [sq,sr, *]) ?_);simp only [↓pre,simprocAttr,parV,sx,tys14,onceA,postU,hf,ho,storeE,allocE,put_at,push_at,h1,h2,hil,a1,f2,o2,s2,f4,o4,s4,l4,d4,hE,sr];(first | refine call_plain (hob) (by first | rfl | simp only [parV,plQ, *]) ?_ | refine call_pure (hob) (by first | rfl | simp only [parV,plQ, *]) (by intro k;first | rfl | simp only [sq,sr, *]) ?_);simp only [↓pre,simprocAttr,parV,sx,tys14,onceA,postU,hf,ho,storeE,allocE,put_at,push_at,h1,h2,hil,a1,f2,o2,s2,f4,o4,s4,l4,d4,hE,sr]
      exact ⟨1,hn2.out _ _⟩
    ·rw [if_neg hB] at hbk
     simp only [if_neg hB]
     unfold nilS at hbk
     simp only [intV] at hbk
     refine ospec_of_body follows Tryz.func14 (by unfold Tryz.f14;rfl) (by unfold Tryz.f14;simp) onceA (by unfold Tryz.f14;simp) (by kernel_rfl) ?_;unfold Tryz.f14
     simp only [↓pre,simprocAttr,parV,sx,tys14,onceA,postU,hf,ho,storeE,allocE,put_at,push_at,sr]
     (first | refine call_plain (hck) (by first | rfl | simp only [parV,plQ, *]) ?_ | refine call_pure (hck) (by first | rfl | simp only [parV,plQ, *]) (by intro k;first | rfl | simp only [sq,sr, *]) ?_);simp only [↓pre,simprocAttr,parV,sx,tys14,onceA,postU,hf,ho,storeE,allocE,put_at,push_at,h1,h2,hB,sr];(first | refine call_plain (hbk) (by first | rfl | simp only [parV,plQ, *]) ?_ | refine call_pure (hbk) (by first | rfl | simp only [parV,plQ, *]) (by intro k;first | rfl | simp only [sq,sr, *]) ?_);simp only [↓pre,simprocAttr,parV,sx,tys14,onceA,postU,hf,ho,storeE,allocE,put_at,push_at,h1,h2,hB,sr]
     exact ⟨1,hn2.out _ _⟩
 ·simp only [if_neg hI]
  refine ospec_of_body follows Tryz.func14 (by unfold Tryz.f14;rfl) (by unfold Tryz.f14;simp) onceA (by unfold Tryz.f14;simp) (by kernel_rfl) ?_;unfold Tryz.f14
  simp only [↓pre,simprocAttr,parV,sx,tys14,onceA,postU,hf,ho,storeE,allocE,put_at,push_at,sr]
  (first | refine call_plain (hck) (by first | rfl | simp only [parV,plQ, *]) ?_ | refine call_pure (hck) (by first | rfl | simp only [parV,plQ, *]) (by intro k;first | rfl | simp only [sq,sr, *]) ?_);simp only [↓pre,simprocAttr,parV,sx,tys14,onceA,postU,hf,ho,storeE,allocE,put_at,push_at,hI,sr]
  exact ⟨1,hn2.out _ _⟩

def enE (k r c w:Int) (L:List (List UInt8)) (b:Int):Int:=if enP k r c w L b=0 then prsE k r c w (obyB k r c w L ((bkL k r c w L).getD b.toNat 0)) else enP k r c w L b
def enL (k r c w:Int) (L:List (List UInt8)) (b:Int):List Ent:=prsL (obyB k r c w L ((bkL k r c w L).getD b.toNat 0))
theorem enV_eq (k r c w:Int) (L:List (List UInt8)) (b:Int):enV k r c w L b = .tup [treeR (if enE k r c w L b=0 then enL k r c w L b else []).length (entCells (if enE k r c w L b=0 then enL k r c w L b else [])),intV (enE k r c w L b)]:=by
 unfold enV enE enL
 split
 ·rfl
 ·rfl
theorem prs_ok {k r c w:Int} {bs:List UInt8} (h:prsE k r c w bs=0):mayB k r c w=true∧(bs.length:Int)≤mI k c∧entsOk w (prsL bs)=true∧longN (prsL bs)=bs.length:=by
 unfold prsE at h
 split at h
 ·rename_i h1
  split at h
  ·omega
  ·rename_i h2
   unfold prsL
   split at h
   ·rename_i l hl
    rw [hl]
    split at h
    ·rename_i h3
     exact ⟨h1,by omega,h3,parse_long hl⟩
    ·omega
   ·omega
 ·omega
theorem en_ok {k r c w:Int} {L:List (List UInt8)} {b:Int} (h:enE k r c w L b=0):imE k r c w L=0∧0≤b∧b < 4∧bkE k r c w L=0∧entsOk w (enL k r c w L b)=true∧longN (enL k r c w L b)≤32768∧chk k r c w (enL k r c w L b)=0:=by
 unfold enE at h
 split at h
 ·rename_i h1
  obtain ⟨g1,g2,g3,g4⟩:=prs_ok h
  have hl:=obyB_len k r c w L ((bkL k r c w L).getD b.toNat 0)
  unfold enP at h1
  split at h1
  ·rename_i h2
   split at h1
   ·omega
   ·split at h1
    ·rename_i h3
     refine ⟨h2,by omega,by omega,h3,g3,by unfold enL;omega, ?_⟩
     unfold enL chk
     rw [if_pos g1,if_pos g3,if_neg (by omega)]
    ·contradiction
  ·contradiction
 ·contradiction
theorem law23_awake:FSpec Tryz.prog 7 [] ⟨boolV true,[]⟩:=by
 have h1:=image_Check 0 0 0 0 nilS [] [] ⟨⟨.inl ⟨rfl,rfl⟩⟩,fun i b h=>by simp at h⟩
 have hE:imE 0 0 0 0 []=2:=by
  unfold imE
  rw [if_neg (by decide)]
 rw [hE] at h1
 unfold imV nilS at h1
 simp only [intV] at h1
 have h2:FSpec Tryz.prog 12 [.agg [.val (.int .i64 0),.val (.int .i64 0),.val (.int .i64 0),.val (.int .i64 0),.val (.slice none 0 0)]] ⟨.tup [intV 0,intV 2],[]⟩:=by
  refine fspec_of_body follows Tryz.func12 (by unfold Tryz.f12;rfl) (by unfold Tryz.f12;simp) onceA (by unfold Tryz.f12;simp) (by kernel_rfl) ?_;unfold Tryz.f12
  simp only [↓pre,simprocAttr,parV,sx,tys12,onceA,postU,storeE,allocE,put_at,push_at,sr]
  (first | refine call_plain (h1) (by first | rfl | simp only [parV,plQ, *]) ?_ | refine call_pure (h1) (by first | rfl | simp only [parV,plQ, *]) (by intro k;first | rfl | simp only [sq,sr, *]) ?_);simp only [↓pre,simprocAttr,parV,sx,tys12,onceA,postU,storeE,allocE,put_at,push_at,sr]
 simp only [intV] at h2
 refine fspec_of_body follows Tryz.func7 (by unfold Tryz.f7;rfl) (by unfold Tryz.f7;simp) onceA (by unfold Tryz.f7;simp) (by kernel_rfl) ?_;unfold Tryz.f7
 simp only [↓pre,simprocAttr,parV,sx,tys7,onceA,postU,sr]
 (first | refine call_plain (h2) (by first | rfl | simp only [parV,plQ, *]) ?_ | refine call_pure (h2) (by first | rfl | simp only [parV,plQ, *]) (by intro k;first | rfl | simp only [sq,sr, *]) ?_);simp only [↓pre,simprocAttr,parV,sx,tys7,onceA,postU,sr]
theorem law23_big (k r c w:Int) (v:AV) (L:List (List UInt8)) (cells:List AV) (hv:RowsV v L cells):FSpec Tryz.prog 8 [imV k r c w v] ⟨boolV (mayB k r c w && decide (400 < (k+r)*w)),[]⟩:=by
 have hp:=hv.rd.plain
 have hf:=rd_fz hv.rd
 have ho:=rd_one hv.rd
 have h1:=ref06_may k r c w
 have h2:=fun h=>ref06_N k r c w h
 unfold imV
 cases hm:mayB k r c w with
 | false =>
  rw [hm] at h1
  replace h2:=Hid.mk h2
  refine fspec_of_body follows Tryz.func8 (by unfold Tryz.f8;rfl) (by unfold Tryz.f8;simp) onceA (by unfold Tryz.f8;simp) (by kernel_rfl) ?_;unfold Tryz.f8
  simp only [↓pre,simprocAttr,parV,sx,tys8,onceA,postU,hf,ho,sr]
  (first | refine call_plain (h1) (by first | rfl | simp only [parV,plQ, *]) ?_ | refine call_pure (h1) (by first | rfl | simp only [parV,plQ, *]) (by intro k;first | rfl | simp only [sq,sr, *]) ?_);simp only [↓pre,simprocAttr,parV,sx,tys8,onceA,postU,hf,ho,sr]
 | true =>
  rw [hm] at h1
  have h2:=h2 hm
  have hb:=im_bound hm
  have wm:IntKind.i64.wrap ((k+r)*w)=(k+r)*w:=wrap_id (by omega) (by omega)
  replace hb:=Hid.mk hb
  refine fspec_of_body follows Tryz.func8 (by unfold Tryz.f8;rfl) (by unfold Tryz.f8;simp) onceA (by unfold Tryz.f8;simp) (by kernel_rfl) ?_;unfold Tryz.f8
  simp only [↓pre,simprocAttr,parV,sx,tys8,onceA,postU,hf,ho,sr]
  (first | refine call_plain (h1) (by first | rfl | simp only [parV,plQ, *]) ?_ | refine call_pure (h1) (by first | rfl | simp only [parV,plQ, *]) (by intro k;first | rfl | simp only [sq,sr, *]) ?_);simp only [↓pre,simprocAttr,parV,sx,tys8,onceA,postU,hf,ho,wm,sr];(first | refine call_plain (h2) (by first | rfl | simp only [parV,plQ, *]) ?_ | refine call_pure (h2) (by first | rfl | simp only [parV,plQ, *]) (by intro k;first | rfl | simp only [sq,sr, *]) ?_);simp only [↓pre,simprocAttr,parV,sx,tys8,onceA,postU,hf,ho,wm,sr]
def dowF (E:Int→Int):List Int→Int
 | []=>0
 | x::l=>if E x=0 then dowF E l else E x
theorem dowF_at {E:Int→Int}:∀ {l:List Int},dowF E l=0→∀ x∈l,E x=0
 | [],_,x,hx=>by cases hx
 | y::l,h,x,hx=>by
  unfold dowF at h
  split at h
  ·rename_i h1
   rcases List.mem_cons.1 hx with rfl | hx
   ·exact h1
   ·exact dowF_at h x hx
  ·contradiction
theorem dowF_zero:∀ (l:List Int),dowF (fun _=>0) l=0
 | []=>rfl
 | x::l=>by
  unfold dowF
  rw [if_pos rfl]
  exact dowF_zero l
section
variable (k r c w:Int) (L:List (List UInt8))
def entA:Nat→List Ent
 | 0=>[]
 | n+1=>entA n++enL k r c w L (n:Nat)
def entX:Nat→Int
 | 0=>0
 | n+1=>if entX n=0 then enE k r c w L (n:Nat) else entX n
def wkE:Int:=if bkE k r c w L=0 then entX k r c w L 4 else bkE k r c w L
def wkL:List Int:=0::(bkL k r c w L++(entA k r c w L 4).map (·.2))
def dowE (l:List Int):Int:=dowF (objE k r c w L) l
def lvE:Int:=if wkE k r c w L=0 then dowE k r c w L (wkL k r c w L) else wkE k r c w L
def lvL:List LiveI:=(wkL k r c w L).flatMap (strL k r c w L)
def nxC (i:Nat):Int:=if isSlot k r c w (L.getD i [])=true∧(slotC k r (L.getD i [])).ix=((i / (2*w.toNat):Nat):Int) then max (slotC k r (L.getD i [])).st (slotC k r (L.getD i [])).ce else 0
def nxN:Nat→Int
 | 0=>0
 | n+1=>max (nxN n) (nxC k r c w L n)
end
section
variable {k r c w:Int} {L:List (List UInt8)}
theorem nxN_ge:∀ {n i:Nat},i < n→nxC k r c w L i≤nxN k r c w L n
 | n+1,i,h=>by
  by_cases e:i=n
  ·subst e
   unfold nxN
   omega
  ·have:=nxN_ge (n:=n) (i:=i) (by omega)
   unfold nxN
   omega
theorem slot_bounds {bs:List UInt8} (h:isSlot k r c w bs=true):(0≤(slotC k r bs).st∧(slotC k r bs).st≤1073741824)∧0≤(slotC k r bs).ce∧(slotC k r bs).ce≤1073741824∧0≤(slotC k r bs).ix∧(slotC k r bs).ix≤1000:=by
 have hs:=slot_ok h
 obtain ⟨hl,hv⟩:=vec_ok hs.vec
 have hce:=hv _ (List.mem_of_getElem? hs.ce)
 have hm:mayB k r c w=true:=by
  have:=hs.vec
  unfold vecE at this
  split at this
  ·assumption
  ·omega
 have hmn:=may_n hm
 have hst:0≤(slotC k r bs).st∧(slotC k r bs).st≤1073741824:=by
  rw [hs.st]
  exact last_le _ 0 (by omega) fun v hv'=>(hv v hv').2
 have h0:=hs.ix0
 have h1:=hs.ix1
 exact ⟨hst,by omega,by omega,h0,by omega⟩
theorem nxN_bounds:∀ n,0≤nxN k r c w L n∧nxN k r c w L n≤1073741824
 | 0=>by unfold nxN;omega
 | n+1=>by
  have ih:=nxN_bounds n
  unfold nxN nxC
  split
  ·rename_i h
   have:=slot_bounds h.1
   omega
  ·omega
theorem win_le {row:Int} (hI:imE k r c w L=0) (h0:0≤row) (h1:row < w) (hc:chkI k r c w (rowL k r w L row)=0) (hW:winI k r c w (rowL k r w L row)≠0):winI k r c w (rowL k r w L row)≤nxN k r c w L L.length:=by
 obtain ⟨hm,hlen,_⟩:=im_parts hI
 have hml:=mayB_of.1 hm
 have hcnt:=win_cnt hc hW
 have hp:=cnt_pos hcnt
 have hmany:=cnt_many hcnt
 have hex:∃ i,holdsAt (heldsP k r c w (rowL k r w L row)) i (winI k r c w (rowL k r w L row))=true:=by
  refine Classical.byContradiction fun hno => ?_
  have h0:∀ n,cellsN (heldsP k r c w (rowL k r w L row)) (winI k r c w (rowL k r w L row)) n=[]:=fun n=>by
   unfold cellsN
   rw [List.filterMap_eq_nil_iff]
   intro i _
   rw [if_neg fun h=>hno ⟨i,h⟩]
  rw [h0] at hmany
  simp at hmany
  omega
 generalize winI k r c w (rowL k r w L row)=v at *
 obtain ⟨i,hi⟩:=hex
 obtain ⟨N,hN⟩:∃ N:Nat,(k+r)=(N:Int):=⟨(k+r).toNat,by omega⟩
 obtain ⟨W,rfl⟩:∃ W:Nat,w=(W:Int):=⟨w.toNat,by omega⟩
 obtain ⟨ρ,rfl⟩:∃ ρ:Nat,row=(ρ:Int):=⟨row.toNat,by omega⟩
 have hiN:i < N:=by
  refine Decidable.byContradiction fun hn => ?_
  unfold holdsAt at hi
  rw [List.getElem?_eq_none (by rw [helds_len];unfold rowL;rw [rowP_len];omega)] at hi
  cases hi
 have hrow:=rowP_at (L:=L) (W:=W) (row:=ρ) (n:=N) hiN
 have hrl:rowL k r (W:Int) L (ρ:Int)=rowP L W ρ N:=by unfold rowL;rw [hN];rfl
 rw [hrl,holds_at hrow] at hi
 have hLl:L.length=N*W*2:=by
  rw [hN] at hlen
  have:((L.length:Nat):Int)=((N*W*2:Nat):Int):=by rw [hlen];simp
  omega
 have key:∀ s,s < 2→heldI k r c (W:Int) (L.getD ((i*W+ρ)*2+s) []) (i:Nat)=v→v≤nxN k r c (W:Int) L L.length:=fun s hs hh=>by
  have hpos:(i*W+ρ)*2+s < L.length:=by
   rw [hLl]
   have h2:(i+1)*W≤N*W:=Nat.mul_le_mul_right _ hiN
   rw [Nat.add_mul,Nat.one_mul] at h2
   omega
  refine Int.le_trans ?_ (nxN_ge hpos)
  unfold heldI at hh
  split at hh
  ·rename_i hb
   unfold heldB isOf at hb
   simp only [Bool.and_eq_true,decide_eq_true_eq] at hb
   have hdiv:((i*W+ρ)*2+s) / (2*W)=i:=by
    refine Nat.div_eq_of_lt_le ?_ ?_
    ·have:i*(2*W)=i*W*2:=by rw [Nat.mul_comm 2 W,Nat.mul_assoc]
     omega
    ·have:(i+1)*(2*W)=i*W*2+2*W:=by rw [Nat.add_mul,Nat.one_mul,Nat.mul_comm 2 W,Nat.mul_assoc]
     omega
   unfold nxC
   rw [if_pos ⟨hb.1.1,by rw [hb.1.2,Int.toNat_natCast,hdiv]⟩]
   omega
  ·omega
 rw [Bool.or_eq_true,decide_eq_true_eq,decide_eq_true_eq] at hi
 rcases hi with hi | hi
 ·exact key 0 (by omega) hi
 ·exact key 1 (by omega) hi
theorem entX_stop {n:Nat} (h:entX k r c w L n≠0):∀ m,entX k r c w L (n+m)=entX k r c w L n
 | 0=>rfl
 | m+1=>by
  have e:entX k r c w L (n+(m+1))=if entX k r c w L (n+m)=0 then enE k r c w L ((n+m:Nat):Int) else entX k r c w L (n+m):=rfl
  rw [e,entX_stop h m,if_neg h]
theorem entA_len:∀ (n:Nat),entX k r c w L n=0→(entA k r c w L n).length≤n*32768
 | 0,_=>by simp [entA]
 | n+1,h=>by
  unfold entX at h
  split at h
  ·rename_i h1
   have ih:=entA_len n h1
   obtain ⟨_,_,_,_,_,h6,_⟩:=en_ok h
   have:=long_num (enL k r c w L (n:Nat))
   unfold entA
   rw [List.length_append]
   omega
  ·contradiction
theorem live_le {x:LiveI} (h:lvE k r c w L=0) (hx:x∈lvL k r c w L) (hk:x.2.1=2):x.2.2 < nxN k r c w L L.length+1:=by
 unfold lvE at h
 split at h
 ·unfold lvL at hx
  obtain ⟨row,hr,hx⟩:=List.mem_flatMap.1 hx
  have hO:=dowF_at h row hr
  unfold strL at hx
  rcases List.mem_cons.1 hx with rfl | hx
  ·obtain ⟨hI,hR,hC,_⟩:=obj_refs hO
   have hcc:chkI k r c w (rowL k r w L row)=0:=by
    unfold comE at hC
    split at hC
    ·assumption
    ·contradiction
   have hrr:0≤row∧row < w:=by
    unfold rowE at hR
    rw [if_pos hI] at hR
    split at hR
    ·omega
    ·omega
   have:=win_le hI hrr.1 hrr.2 hcc (com_parts hcc hC).1
   simp only
   omega
  ·unfold datL at hx
   obtain ⟨y,_,rfl⟩:=List.mem_map.1 hx
   simp at hk
 ·contradiction
end
theorem max3 {P:Program} {m:Mem} {ts:Array TypeId} {ty:TypeId} {k:IntKind} {a b c:Int}:builtinE P m ts ty [.val (.int k a),.val (.int k b),.val (.int k c)] .max=some ⟨.val (.int k (max (max a b) c)),m,none⟩:=by
 have h1:(if b > a then b else a)=max a b:=by omega
 have h2:(if c > max a b then c else max a b)=max (max a b) c:=by omega
 simp [builtinE,toVals,toVal,Builtin.max_,Builtin.max2,pureR,outO,Bind.bind,Sem.bind,Pure.pure,h1,h2]
theorem live_Next (k r c w:Int) (v:AV) (L:List (List UInt8)) (cells:List AV) (hv:RowsV v L cells):FSpec Tryz.prog 12 [imV k r c w v] ⟨.tup [intV (if imE k r c w L=0 then nxN k r c w L L.length+1 else 0),intV (imE k r c w L)],[]⟩:=by
 have hp:=hv.rd.plain
 have hf:=rd_fz hv.rd
 have ho:=rd_one hv.rd
 have hck:=image_Check k r c w v L cells hv
 unfold imV at hck ⊢
 by_cases hI:imE k r c w L=0
 ·rw [hI] at hck
  rw [if_pos hI,hI]
  obtain ⟨hm,hlen,hlb⟩:=im_parts hI
  have hml:=mayB_of.1 hm
  have hmn:=may_n hm
  obtain ⟨W,rfl⟩:∃ W:Nat,w=(W:Int):=⟨w.toNat,by omega⟩
  have hLl:L.length≤10000:=by
   have:=im_bound hm
   omega
  have w2:IntKind.i64.wrap (2*(W:Int))=((2*W:Nat):Int):=by rw [show 2*(W:Int)=((2*W:Nat):Int) by simp];exact wrap_nat (by omega)
  have hz:¬ ((2*W:Nat):Int)=0:=by omega
  replace hI:=Hid.mk hI
  replace hlb:=Hid.mk hlb
  replace hlen:=Hid.mk hlen
  replace hml:=Hid.mk hml
  replace hmn:=Hid.mk hmn
  refine fspec_of_body follows Tryz.func12 (by unfold Tryz.f12;rfl) (by unfold Tryz.f12;simp) onceA (by unfold Tryz.f12;simp) (by kernel_rfl) ?_;unfold Tryz.f12
  simp only [↓pre,simprocAttr,parV,sx,tys12,onceA,postU,postV,hf,ho,storeE,allocE,put_at,push_at,max3,sr]
  (first | refine call_plain (hck) (by first | rfl | simp only [parV,plQ, *]) ?_ | refine call_pure (hck) (by first | rfl | simp only [parV,plQ, *]) (by intro k;first | rfl | simp only [sq,sr, *]) ?_);simp only [↓pre,simprocAttr,parV,sx,tys12,onceA,postU,postV,hf,ho,storeE,allocE,put_at,push_at,max3,hv.rd.len',sr]
  rw [codeW_loop]
  refine loop_intro (fun q e m=>∃ i,q+i=L.length∧e 1 = .tptr 0 [intV k,intV r,intV c,intV W,v]∧e 17=v∧e 18=intV (L.length:Nat)∧e 19=intV (i:Nat)∧e 5=intV (nxN k r c W L i)) L.length ⟨0,by omega,rfl,rfl,rfl,rfl,rfl⟩ ?_
  rintro q e m ⟨i,hq,e1,e17,e18,e19,e5⟩
  replace hq:=Hid.mk hq
  have hnb:=nxN_bounds (k:=k) (r:=r) (c:=c) (w:=(W:Int)) (L:=L) i
  by_cases hlt:i < L.length
  ·have hlt':((i:Nat):Int) < ((L.length:Nat):Int):=by omega
   have wi:=wrap_succ (n:=i) (by omega)
   obtain ⟨b,hb⟩:∃ b,L[i]? = some b:=⟨_,List.getElem?_eq_getElem hlt⟩
   obtain ⟨a,x,hc,hr⟩:=hv.at_ i b hb
   have hps:=slot_Parse_ok k r c W a b x hr hm (hlb.out b (List.mem_of_getElem? hb))
   have hgb:L.getD i []=b:=by rw [List.getD_eq_getElem?_getD,hb];rfl
   obtain ⟨⟨_,_,h1⟩,⟨_,_,h2⟩⟩:=slA_rd k r c (W:Int) b
   have f1:=rd_fz h1
   have f2:=rd_fz h2
   have q1:=rd_one h1
   have q2:=rd_one h2
   have o1:=rd_okA h1
   have o2:=rd_okA h2
   have c1:=rd_cells h1
   have c2:=rd_cells h2
   have s1:=rd_shift h1
   have s2:=rd_shift h2
   have pa:=hr.plain
   have hstep:nxN k r c (W:Int) L (i+1)=max (nxN k r c (W:Int) L i) (if isSlot k r c (W:Int) b=true∧(slA k r c (W:Int) b).ix=((i / (2*W):Nat):Int) then max (slA k r c (W:Int) b).st (slA k r c (W:Int) b).ce else 0):=by
    show max (nxN k r c (W:Int) L i) (nxC k r c (W:Int) L i)=_
    unfold nxC
    rw [hgb,Int.toNat_natCast]
    cases hs:isSlot k r c (W:Int) b with
    | false=>rfl
    | true=>rw [slA_is hs];rfl
   have hquo:((i:Nat):Int).tdiv ((2*W:Nat):Int)=((i / (2*W):Nat):Int):=by rw [Int.tdiv_eq_ediv_of_nonneg (by omega)];rfl
   have wq:IntKind.i64.wrap ((i / (2*W):Nat):Int)=((i / (2*W):Nat):Int):=wrap_nat (by have:=Nat.div_le_self i (2*W);omega)
   generalize slA k r c (W:Int) b=S at *
   obtain ⟨kd,ix,ce,st,vv,dv⟩:=S
   simp only [SlA.v,SlA.cells,intV] at hps
   simp only at h1 h2 f1 f2 q1 q2 o1 o2 c1 c2 s1 s2 hstep
   replace hb:=Hid.mk hb
   replace hgb:=Hid.mk hgb
   replace hr:=Hid.mk hr
   replace h1:=Hid.mk h1
   replace h2:=Hid.mk h2
   replace hnb:=Hid.mk hnb
   cases hs:isSlot k r c (W:Int) b with
   | false =>
    rw [hs] at hps hstep
    rw [if_neg (fun h=>by cases h.1)] at hstep
    have hst:nxN k r c (W:Int) L (i+1)=nxN k r c (W:Int) L i:=by rw [hstep];have:=hnb.out;omega
    replace hstep:=Hid.mk hstep
    replace hst:=Hid.mk hst
    simp only [↓pre,simprocAttr,parV,sx,tys12,onceA,postU,postV,hf,ho,storeE,allocE,put_at,push_at,max3,e1,e17,e18,e19,e5,hlt',hlt,hv.rd.addr',hc,f1,f2,q1,q2,↓o1,↓o2,↓c1,↓c2,s1,s2,w2,hz,hquo,wq,wi,sr]
    (first | refine call_plain (hps) (by first | rfl | simp only [parV,plQ, *]) ?_ | refine call_pure (hps) (by first | rfl | simp only [parV,plQ, *]) (by intro k;first | rfl | simp only [sq,sr, *]) ?_);simp only [↓pre,simprocAttr,parV,sx,tys12,onceA,postU,postV,hf,ho,storeE,allocE,put_at,push_at,max3,e1,e17,e18,e19,e5,hlt',hlt,hv.rd.addr',hc,f1,f2,q1,q2,↓o1,↓o2,↓c1,↓c2,s1,s2,w2,hz,hquo,wq,wi,sr]
    exact ⟨q - 1,by have:=hq.out;omega,i+1,by have:=hq.out;omega,rfl,by rw [hst.out]⟩
   | true =>
    rw [hs] at hps hstep
    by_cases hix:ix=((i / (2*W):Nat):Int)
    ·rw [if_pos ⟨rfl,hix⟩] at hstep
     have hst:nxN k r c (W:Int) L (i+1)=max (max (nxN k r c (W:Int) L i) st) ce:=by rw [hstep];omega
     replace hstep:=Hid.mk hstep
     replace hst:=Hid.mk hst
     simp only [↓pre,simprocAttr,parV,sx,tys12,onceA,postU,postV,hf,ho,storeE,allocE,put_at,push_at,max3,e1,e17,e18,e19,e5,hlt',hlt,hv.rd.addr',hc,f1,f2,q1,q2,↓o1,↓o2,↓c1,↓c2,s1,s2,w2,hz,hquo,wq,wi,sr]
     (first | refine call_plain (hps) (by first | rfl | simp only [parV,plQ, *]) ?_ | refine call_pure (hps) (by first | rfl | simp only [parV,plQ, *]) (by intro k;first | rfl | simp only [sq,sr, *]) ?_);simp only [↓pre,simprocAttr,parV,sx,tys12,onceA,postU,postV,hf,ho,storeE,allocE,put_at,push_at,max3,e1,e17,e18,e19,e5,hlt',hlt,hv.rd.addr',hc,f1,f2,q1,q2,↓o1,↓o2,↓c1,↓c2,s1,s2,w2,hz,hquo,wq,wi,hix,sr]
     exact ⟨q - 1,by have:=hq.out;omega,i+1,by have:=hq.out;omega,rfl,by rw [hst.out]⟩
    ·rw [if_neg (fun h=>hix h.2)] at hstep
     have hst:nxN k r c (W:Int) L (i+1)=nxN k r c (W:Int) L i:=by rw [hstep];have:=hnb.out;omega
     replace hstep:=Hid.mk hstep
     replace hst:=Hid.mk hst
     simp only [↓pre,simprocAttr,parV,sx,tys12,onceA,postU,postV,hf,ho,storeE,allocE,put_at,push_at,max3,e1,e17,e18,e19,e5,hlt',hlt,hv.rd.addr',hc,f1,f2,q1,q2,↓o1,↓o2,↓c1,↓c2,s1,s2,w2,hz,hquo,wq,wi,sr]
     (first | refine call_plain (hps) (by first | rfl | simp only [parV,plQ, *]) ?_ | refine call_pure (hps) (by first | rfl | simp only [parV,plQ, *]) (by intro k;first | rfl | simp only [sq,sr, *]) ?_);simp only [↓pre,simprocAttr,parV,sx,tys12,onceA,postU,postV,hf,ho,storeE,allocE,put_at,push_at,max3,e1,e17,e18,e19,e5,hlt',hlt,hv.rd.addr',hc,f1,f2,q1,q2,↓o1,↓o2,↓c1,↓c2,s1,s2,w2,hz,hquo,wq,wi,hix,sr]
     exact ⟨q - 1,by have:=hq.out;omega,i+1,by have:=hq.out;omega,rfl,by rw [hst.out]⟩
  ·have hlt':¬ ((i:Nat):Int) < ((L.length:Nat):Int):=by omega
   have hi:i=L.length:=by have:=hq.out;omega
   subst hi
   have w3:IntKind.i64.wrap (nxN k r c (W:Int) L L.length+1)=nxN k r c (W:Int) L L.length+1:=wrap_id (by omega) (by omega)
   simp only [↓pre,simprocAttr,parV,sx,tys12,onceA,postU,postV,hf,ho,storeE,allocE,put_at,push_at,max3,e1,e17,e18,e19,e5,hlt',w3,sr]
 ·rw [if_neg hI]
  refine fspec_of_body follows Tryz.func12 (by unfold Tryz.f12;rfl) (by unfold Tryz.f12;simp) onceA (by unfold Tryz.f12;simp) (by kernel_rfl) ?_;unfold Tryz.f12
  simp only [↓pre,simprocAttr,parV,sx,tys12,onceA,postU,postV,hf,ho,storeE,allocE,put_at,push_at,max3,sr]
  (first | refine call_plain (hck) (by first | rfl | simp only [parV,plQ, *]) ?_ | refine call_pure (hck) (by first | rfl | simp only [parV,plQ, *]) (by intro k;first | rfl | simp only [sq,sr, *]) ?_);simp only [↓pre,simprocAttr,parV,sx,tys12,onceA,postU,postV,hf,ho,storeE,allocE,put_at,push_at,max3,hI,sr]
theorem own_lenE {P:Program} {kd:Kind} {m:Mem} {t el:TypeId} {sz n:Nat} {v:AV} {cells:List AV} (h:OwnK kd m el sz v n cells) (ht:(elE P t).isSome=true):lenE P t v=some (.val (.int .i64 (n:Nat))):=by
 obtain ⟨e,he⟩:=Option.isSome_iff_exists.1 ht
 rcases h.form with ⟨rfl,rfl,_⟩ | ⟨b,rfl,_⟩
 ·simp [lenE,nilS,he,slLen,intV]
 ·simp [lenE,he,slLen,intV]
def onceW1:Nat→Bool:=fun d=>d != 9 && d != 12 && d != 13 && d != 17 && d != 19 && d != 20
def TailV (b:Nat) (fr rest:List Int) (lv:AV):Prop:=(rest≠[]∧∃ f,lv = .sl b fr.length rest.length rest.length f)∨(rest=[]∧∃ c f,lv = .emp c f)
theorem walk_1 (g : FuncId) (caps : List AV) (E : Int → Int) (InvF : List Int → Mem → Prop) (b c d : Nat) (all : List Int) (hal : all.length ≤ 1000000)
   (hkp : ∀ fr m, InvF fr m → m.at_ b = some ⟨intsA all, 3, .flat, true⟩ ∧ m.at_ c = some ⟨[.clo g caps], 71, .var, true⟩ ∧ m.at_ d = some ⟨[.clo 65 [.ptr c 0, .ptr d 0]], 114, .var, true⟩)
   (hdo : ∀ fr x m, fr.length < 1000000 → InvF fr m → ∃ mx, (OSpec Tryz.prog g (intV x :: caps) m fun res m' => res = intV (E x) ∧ m' = mx) ∧ (E x = 0 → InvF (fr ++ [x]) mx)) :
   ∀ (rest fr : List Int) (lv : AV) (m : Mem), all = fr ++ rest → InvF fr m → TailV b fr rest lv → ∃ mf, (OSpec Tryz.prog 65 [lv, .ptr c 0, .ptr d 0] m fun res m' => res = intV (dowF E rest) ∧ m' = mf) ∧ (dowF E rest = 0 → InvF all mf)
 | [], fr, lv, m, ha, hI, hT => by
   rcases hT with ⟨h, _⟩ | ⟨_, cc, f, rfl⟩
   · exact absurd rfl h
   have hl0 : lenE Tryz.prog 33 (.emp cc f) = some (.val (.int .i64 0)) := by
     have : elE Tryz.prog 33 = some 3 := by kernel_rfl
     simp [lenE, this, slLen, intV]
   rw [List.append_nil] at ha
   subst ha
   refine ⟨m, ?_, fun _ => hI⟩
   replace hI := Hid.mk hI
   refine ospec_of_body follows Tryz.func65 (by unfold Tryz.f65; rfl) (by unfold Tryz.f65; simp) onceW1 (by unfold Tryz.f65; simp) (by kernel_rfl) ?_; unfold Tryz.f65
   simp only [↓pre, simprocAttr, parV, sx, tys65, onceW1, postU, postA, hl0, sr]
   rfl
 | x :: rest, fr, lv, m, ha, hI, hT => by
   obtain ⟨f, rfl⟩ : ∃ f, lv = .sl b fr.length (x :: rest).length (x :: rest).length f := by
     rcases hT with ⟨_, h⟩ | ⟨h, _⟩
     · exact h
     · cases h
   obtain ⟨kb, kc, kd⟩ := hkp fr m hI
   have ih := fun lv m2 h1 h2 => walk_1 g caps E InvF b c d all hal hkp hdo rest (fr ++ [x]) lv m2 (by rw [ha]; simp) h1 h2
   obtain ⟨mx, hds, hE⟩ := hdo fr x m (by rw [ha] at hal; simp at hal; omega) hI
   have hkp2 := fun m2 h => hkp (fr ++ [x]) m2 h
   have hel : elE Tryz.prog 33 = some 3 := by kernel_rfl
   have hsz : szE Tryz.prog 3 = some 1 := by kernel_rfl
   have hl1 : lenE Tryz.prog 33 (.sl b fr.length (x :: rest).length (x :: rest).length f) = some (.val (.int .i64 ((x :: rest).length : Nat))) := by simp [lenE, hel, slLen, intV]
   have hne : ¬ (((x :: rest).length : Nat) : Int) = 0 := by simp; omega
   have hpos : 0 < (x :: rest).length := by simp
   have hcell : (intsA all)[fr.length]? = some (.val (.int .i64 x)) := by
     rw [ha]
     unfold intsA
     rw [List.map_append, List.getElem?_append_right (by simp)]
     simp [intV]
   have hso : ∀ m2 : Mem, m2.at_ b = some ⟨intsA all, 3, .flat, true⟩ → slOk Tryz.prog m2 33 (.sl b fr.length (x :: rest).length (x :: rest).length f) = true := fun m2 h => by simp [slOk, h, hel]
   obtain ⟨lv2, hsl, hT2⟩ : ∃ lv2, sliceE Tryz.prog 33 (some 1) none none (.sl b fr.length (x :: rest).length (x :: rest).length f) = some lv2 ∧ TailV b (fr ++ [x]) rest lv2 := by
     cases rest with
     | nil =>
       refine ⟨.emp 0 f, ?_, .inr ⟨rfl, 0, f, rfl⟩⟩
       simp [sliceE, hel, hsz, Go.Tw.cutE]
     | cons y rest =>
       refine ⟨.sl b (fr.length + 1) (y :: rest).length (y :: rest).length f, ?_, .inl ⟨by simp, f, by simp⟩⟩
       simp only [sliceE, hel, hsz, Option.isSome_none, Bool.false_and, Bool.false_eq_true, if_false, Option.bind_some, Option.getD_some, Option.getD_none, Go.Tw.cutE]
       rw [if_pos (by simp), if_neg (by simp)]
       simp
   generalize hn : (x :: rest).length = n at *
   replace hI := Hid.mk hI
   replace hkp := Hid.mk hkp
   replace hdo := Hid.mk hdo
   replace hkp2 := Hid.mk hkp2
   replace ih := Hid.mk ih
   replace hT2 := Hid.mk hT2
   replace ha := Hid.mk ha
   replace hn := Hid.mk hn
   by_cases h0 : E x = 0
   · have hI2 := hE h0
     obtain ⟨kb2, kc2, kd2⟩ := hkp2.out mx hI2
     obtain ⟨mf, ih2, ih3⟩ := ih.out lv2 mx hI2 hT2.out
     have hso2 := hso mx kb2
     have hd0 : dowF E (x :: rest) = dowF E rest := by
       show (if E x = 0 then dowF E rest else E x) = _
       rw [if_pos h0]
     rw [hd0]
     refine ⟨mf, ?_, ih3⟩
     replace hI2 := Hid.mk hI2
     replace hE := Hid.mk hE
     replace hd0 := Hid.mk hd0
     replace ih3 := Hid.mk ih3
     rw [h0] at hds
     simp only [intV] at ih2 hds
     refine ospec_of_body follows Tryz.func65 (by unfold Tryz.f65; rfl) (by unfold Tryz.f65; simp) onceW1 (by unfold Tryz.f65; simp) (by kernel_rfl) ?_; unfold Tryz.f65
     simp only [↓pre, simprocAttr, parV, sx, tys65, onceW1, bne, postU, postA, optNat, Option.map_some, Option.map_none, hl1, hne, kb, kc, kd, addr_slp, hpos, hcell, sr]
     refine call_det hds ?_
     refine contW_fixed (by kernel_rfl) ?_
     simp only [↓pre, simprocAttr, parV, sx, tys65, onceW1, bne, postU, postA, optNat, Option.map_some, Option.map_none, kb2, kc2, kd2, hso2, hsl, sr]
     refine call_det ih2 ?_
     refine contW_fixed (by kernel_rfl) ?_
     simp only [↓pre, simprocAttr, parV, sx, tys65, onceW1, bne, postU, postA, optNat, Option.map_some, Option.map_none, sr]
   · have hd0 : dowF E (x :: rest) = E x := by
       show (if E x = 0 then dowF E rest else E x) = _
       rw [if_neg h0]
     rw [hd0]
     refine ⟨mx, ?_, fun h => absurd h h0⟩
     replace hE := Hid.mk hE
     replace hd0 := Hid.mk hd0
     simp only [intV] at hds
     refine ospec_of_body follows Tryz.func65 (by unfold Tryz.f65; rfl) (by unfold Tryz.f65; simp) onceW1 (by unfold Tryz.f65; simp) (by kernel_rfl) ?_; unfold Tryz.f65
     simp only [↓pre, simprocAttr, parV, sx, tys65, onceW1, bne, postU, postA, optNat, Option.map_some, Option.map_none, hl1, hne, kb, kc, kd, addr_slp, hpos, hcell, sr]
     refine call_det hds ?_
     refine contW_fixed (by kernel_rfl) ?_
     simp only [↓pre, simprocAttr, parV, sx, tys65, onceW1, bne, postU, postA, optNat, Option.map_some, Option.map_none, h0, sr]
def onceWk:Nat→Bool:=fun d=>d != 3 && d != 14
def wkR (k r c w:Int) (L:List (List UInt8)) (E:Int→Int):Int:=if wkE k r c w L=0 then dowF E (wkL k r c w L) else wkE k r c w L
set_option maxHeartbeats 1000000 in
theorem live_walk (k r c w : Int) (v : AV) (L : List (List UInt8)) (cells : List AV) (hv : RowsV v L cells) (m0 : Mem) (g : FuncId) (caps : List AV) (E : Int → Int) (InvF : Mem → List Int → Mem → Prop)
   (h0 : ∀ m1, Kept m0 m1 → InvF m1 [] m1)
   (hat : ∀ m1 fr m, Kept m0 m1 → InvF m1 fr m → ∀ j x, m1.at_ j = some x → m0.next ≤ j → j < m1.next → m.at_ j = some x)
   (hdo : ∀ m1 fr x m, Kept m0 m1 → fr.length < 1000000 → InvF m1 fr m → ∃ mx, (OSpec Tryz.prog g (intV x :: caps) m fun res m' => res = intV (E x) ∧ m' = mx) ∧ (E x = 0 → InvF m1 (fr ++ [x]) mx)) :
   OSpec Tryz.prog 38 [imV k r c w v, .clo g caps] m0 fun res m' => res = intV (wkR k r c w L E) ∧ (wkR k r c w L E = 0 → ∃ m1, Kept m0 m1 ∧ InvF m1 (wkL k r c w L) m') := by
 have hp := hv.rd.plain
 have hf := rd_fz hv.rd
 have ho := rd_one hv.rd
 have hbk := live_Buckets k r c w v L cells hv
 have hen := fun i : Nat => live_Entries k r c w (i : Nat) v L cells hv
 simp only [enV_eq] at hen
 unfold wkR wkE wkL
 unfold bkV at hbk
 unfold imV at hbk hen ⊢
 simp only [intV] at hen
 replace h0 := Hid.mk h0
 replace hat := Hid.mk hat
 replace hdo := Hid.mk hdo
 replace hen := Hid.mk hen
 by_cases hB : bkE k r c w L = 0
 · rw [if_pos hB] at hbk
   simp only [if_pos hB]
   have hbl := bk_len hB
   have hR4 : RdSl (.tree 4 4 (intsA (bkL k r c w L)) false) 4 (intsA (bkL k r c w L)) := ⟨.inr (.inr ⟨_, _, rfl, Nat.le_refl _⟩)⟩
   have hstop := fun n h m => entX_stop (k := k) (r := r) (c := c) (w := w) (L := L) (n := n) h m
   have hel := fun n h => entA_len (k := k) (r := r) (c := c) (w := w) (L := L) n h
   have hXs : ∀ i, entX k r c w L i = 0 → entX k r c w L (i + 1) = enE k r c w L (i : Nat) := fun i h => by
     show (if entX k r c w L i = 0 then enE k r c w L (i : Nat) else entX k r c w L i) = _
     rw [if_pos h]
   have hAs : ∀ i, entA k r c w L (i + 1) = entA k r c w L i ++ enL k r c w L (i : Nat) := fun i => rfl
   have hA0 : entA k r c w L 0 = [] := rfl
   have hX0 : entX k r c w L 0 = 0 := rfl
   have s4 := rd_shift hR4
   have p4 := hR4.plain
   have happ := hR4.src (P := Tryz.prog) (m := m0) (el := 3) (sz := 1) (by simp [intsA, hbl])
   generalize hbks : bkL k r c w L = BL at *
   have hsrc4 : ∀ m, srcE Tryz.prog 3 1 m (.tree 4 4 (intsA BL) false) = some (intsA BL, 4) := fun m => by
     have := hR4.src (P := Tryz.prog) (m := m) (el := 3) (sz := 1) (by simp [intsA, hbl])
     rw [this, List.take_of_length_le (by simp [intsA, hbl])]
   generalize AV.tree 4 4 (intsA BL) false = RV at *
   simp only [intV] at hbk
   clear happ
   replace hB := Hid.mk hB
   replace hstop := Hid.mk hstop
   replace hel := Hid.mk hel
   replace hXs := Hid.mk hXs
   replace hAs := Hid.mk hAs
   replace hbks := Hid.mk hbks
   replace hsrc4 := Hid.mk hsrc4
   replace hbl := Hid.mk hbl
   replace hA0 := Hid.mk hA0
   replace hX0 := Hid.mk hX0
   refine ospec_of_body follows Tryz.func38 (by unfold Tryz.f38; rfl) (by unfold Tryz.f38; simp) onceWk (by unfold Tryz.f38; simp) (by kernel_rfl) ?_; unfold Tryz.f38
   simp only [↓pre, simprocAttr, parV, sx, tys38, onceWk, bne, postU, postA, postV, hf, ho, storeE, allocE, put_at, push_at, Array.size_empty, List.size_toArray, sr]
   (first | refine call_plain (hbk) (by first | rfl | simp only [parV, plQ, *]) ?_ | refine call_pure (hbk) (by first | rfl | simp only [parV, plQ, *]) (by intro k; first | rfl | simp only [sq, sr, *]) ?_); simp only [↓pre, simprocAttr, parV, sx, tys38, onceWk, bne, postU, postA, postV, hf, ho, storeE, allocE, put_at, push_at, Array.size_empty, List.size_toArray, s4, hR4.len', sr]
   generalize hmb : Mem.push m0 _ = mb
   have hkb : Kept m0 mb := by
     rw [← hmb]
     exact ⟨rfl, by rw [push_next]; exact Nat.le_succ _, fun j x h hl => by rw [push_at, if_neg (by omega)]; exact h⟩
   have hcb : mb.at_ m0.next = some ⟨[.clo g caps], 71, .var, true⟩ := by rw [← hmb, push_at, if_pos rfl]
   have hnb : mb.next = m0.next + 1 := by rw [← hmb, push_next]
   rw [codeW_loop]
   refine loop_cut (fun e m => e 5 = RV ∧ e 3 = .ptr m0.next 0 ∧ entX k r c w L 4 = 0 ∧ Hid (OwnK .flat m 42 2 (e 7) (entA k r c w L 4).length (entCells (entA k r c w L 4)) ∧ Kept mb m ∧ NewV mb (e 7))) (fun e m hR => ?_) ?_
   · obtain ⟨e5, e3, hX4, hJ⟩ := hR
     obtain ⟨hown, hkp, hnw⟩ := hJ.out
     clear hJ
     have hlE := hel.out 4 hX4
     simp only [hX4, if_true]
     generalize entA k r c w L 4 = EA at *
     generalize hv7 : e 7 = ev at *
     have hlen := own_lenE (P := Tryz.prog) (t := 38) hown (by kernel_rfl)
     have hbl0 : ∀ m (a : Int), buildTreeE Tryz.prog m 33 1 [(0, .val (.int .i64 a))] = some ⟨.tree 1 1 [.val (.int .i64 a)] true, m, none⟩ := fun m a => buildT_of (el := 3) (sz := 1) (z := [.val (.int .i64 0)]) (by kernel_rfl) (by kernel_rfl) (by kernel_rfl) rfl rfl (by decide)
     have hap : ∀ m, appE Tryz.prog 3 m (.tree 1 1 [.val (.int .i64 0)] true) RV = some ⟨.sl m.next 0 5 5 false, m.push ⟨intsA (0 :: BL), 3, .flat, true⟩, none⟩ := fun m => by
       have h2 : szE Tryz.prog 3 = some 1 := by kernel_rfl
       have h3 : byE Tryz.prog 3 = some 8 := by kernel_rfl
       have h4 : kindT Tryz.prog 3 = .flat := by kernel_rfl
       have h5 : zeroE Tryz.prog 3 = some [.int .i64 0] := by kernel_rfl
       simp only [appE, h2, h3, h4, h5, hsrc4.out m, slView, Option.bind_some]
       simp [outV, intsA, intV]
     replace hown := Hid.mk hown
     replace hkp := Hid.mk hkp
     replace hnw := Hid.mk hnw
     simp only [↓pre, simprocAttr, parV, sx, tys38, onceWk, bne, postU, postA, postV, hf, ho, storeE, allocE, put_at, push_at, Array.size_empty, List.size_toArray, e5, e3, hv7, hlen, hbl0, hap, sr]
     rw [codeW_loop]
     refine loop_cut (fun e' m' => e' 3 = .ptr m0.next 0 ∧ Hid (∃ b, e' 11 = .sl b 0 (5 + EA.length) (5 + EA.length) false ∧ m'.at_ b = some ⟨intsA (0 :: (BL ++ EA.map (·.2))), 3, .flat, true⟩ ∧ b < m'.next ∧ m0.next < b ∧ Kept mb m')) (fun e' m' hR => ?_) ?_
     · obtain ⟨e3', hR2⟩ := hR
       obtain ⟨b, e11, hbm, hbl2, hb0, hk2⟩ := hR2.out
       clear hR2
       have hcm := hk2.at_ _ _ hcb (by omega)
       have hnx2 := hk2.next
       generalize hall : (0 :: (BL ++ EA.map (·.2)) : List Int) = AL at *
       have hAl : AL.length = 5 + EA.length := by
         have := hbl.out
         rw [← hall]
         simp
         omega
       replace hall := Hid.mk hall
       have hpush : ∀ (x y : Blk), Kept m0 ((m'.push x).put m'.next (some y)) := fun x y => (hkb.trans hk2).trans ⟨rfl, by rw [put_next, push_next]; omega, fun j z hj hl => by rw [put_at, if_neg (by omega), push_at, if_neg (by omega)]; exact hj⟩
       have hrun : ∀ (x : Blk), ∃ mf, (OSpec Tryz.prog 65 [.sl b 0 (5 + EA.length) (5 + EA.length) false, .ptr m0.next 0, .ptr m'.next 0] ((m'.push x).put m'.next (some ⟨[.clo 65 [.ptr m0.next 0, .ptr m'.next 0]], 114, .var, true⟩)) fun res m2 => res = intV (dowF E AL) ∧ m2 = mf) ∧ (dowF E AL = 0 → ∃ m1, Kept m0 m1 ∧ InvF m1 AL mf) := fun x => by
         have hk5 := hpush x ⟨[.clo 65 [.ptr m0.next 0, .ptr m'.next 0]], 114, .var, true⟩
         generalize hm5 : (m'.push x).put m'.next (some ⟨[.clo 65 [.ptr m0.next 0, .ptr m'.next 0]], 114, .var, true⟩) = m5 at *
         have hb5 : m5.at_ b = some ⟨intsA AL, 3, .flat, true⟩ := by rw [← hm5, put_at, if_neg (by omega), push_at, if_neg (by omega)]; exact hbm
         have hc5 : m5.at_ m0.next = some ⟨[.clo g caps], 71, .var, true⟩ := by rw [← hm5, put_at, if_neg (by omega), push_at, if_neg (by omega)]; exact hcm
         have hd5 : m5.at_ m'.next = some ⟨[.clo 65 [.ptr m0.next 0, .ptr m'.next 0]], 114, .var, true⟩ := by rw [← hm5, put_at, if_pos rfl]
         have hn5 : m5.next = m'.next + 1 := by rw [← hm5, put_next, push_next]
         obtain ⟨mf, h1, h2⟩ := walk_1 g caps E (InvF m5) b m0.next m'.next AL (by have := hlE; omega) (fun fr m2 hI => ⟨hat.out m5 fr m2 hk5 hI b _ hb5 (by omega) (by omega), hat.out m5 fr m2 hk5 hI _ _ hc5 (Nat.le_refl _) (by omega), hat.out m5 fr m2 hk5 hI _ _ hd5 (by omega) (by omega)⟩) (fun fr x m2 hI => hdo.out m5 fr x m2 hk5 hI) AL [] (.sl b 0 (5 + EA.length) (5 + EA.length) false) m5 rfl (h0.out m5 hk5) (.inl ⟨fun h => by rw [h] at hAl; simp at hAl; omega, false, by rw [hAl]; rfl⟩)
         exact ⟨mf, h1, fun h => ⟨m5, hk5, h2 h⟩⟩
       replace hpush := Hid.mk hpush
       replace hrun := Hid.mk hrun
       replace hbm := Hid.mk hbm
       replace hk2 := Hid.mk hk2
       clear e3 e5 hv7
       simp only [↓pre, simprocAttr, parV, sx, tys38, onceWk, bne, postU, postA, postV, hf, ho, storeE, allocE, put_at, push_at, Array.size_empty, List.size_toArray, e3', e11, sr]
       obtain ⟨mf, h1, h2⟩ := hrun.out _
       refine call_det h1 ?_
       replace h2 := Hid.mk h2
       simp only [↓pre, simprocAttr, parV, sx, tys38, onceWk, bne, postU, postA, postV, hf, ho, storeE, allocE, put_at, push_at, Array.size_empty, List.size_toArray, sr]
       exact h2.out
     · obtain ⟨hown, hkp, hnw⟩ : _ ∧ _ ∧ _ := ⟨hown.out, hkp.out, hnw.out⟩
       refine loop_intro (fun q e' m' => ∃ i av, q + i = EA.length ∧ e' 3 = .ptr m0.next 0 ∧ e' 44 = ev ∧ e' 45 = intV (EA.length : Nat) ∧ e' 46 = intV (i : Nat) ∧ e' 11 = av ∧ Hid (OwnK .flat m' 3 1 av (5 + i) (intsA (0 :: (BL ++ (EA.take i).map (·.2)))) ∧ Kept m m' ∧ NewV m av)) EA.length ⟨0, _, by omega, by simp [Env.set, e3], by simp [Env.set, hv7], rfl, rfl, rfl, ⟨⟨.inr ⟨m.next, rfl, by rw [push_at, if_pos rfl]; simp, by rw [push_next]; omega, by omega⟩, by have := hbl.out; simp [intsA, this]⟩, ⟨rfl, by rw [push_next]; omega, fun j x hj hl => by rw [push_at, if_neg (by omega)]; exact hj⟩, fun j hj => by cases hj; exact Nat.le_refl _⟩⟩ ?_
       clear e3 e5 hv7
       rintro q e m' ⟨i, av, hq, e3, e44, e45, e46, e11, hJ⟩
       replace hq := Hid.mk hq
       obtain ⟨ho2, hk2, hn2⟩ := hJ.out
       clear hJ
       by_cases hlt : i < EA.length
       · have hlt' : ((i : Nat) : Int) < ((EA.length : Nat) : Int) := by omega
         have wi := wrap_succ (n := i) (by omega)
         obtain ⟨s, z, hsr⟩ : ∃ s z, EA[i]? = some (s, z) := ⟨_, _, List.getElem?_eq_getElem hlt⟩
         obtain ⟨a1, a2, a3, a4⟩ := ent_at (x := []) hsr
         rw [List.append_nil] at a1 a2 a3 a4
         obtain ⟨b, rfl, hbm, hbl2⟩ := hown.sl (by omega)
         have hb2 := hk2.at_ b _ hbm hbl2
         have hcell : intsA (0 :: (BL ++ (EA.take (i + 1)).map (·.2))) = intsA (0 :: (BL ++ (EA.take i).map (·.2))) ++ [.val (.int .i64 z)] := by
           rw [List.take_add_one, hsr]
           simp [intsA, intV]
         have hsrc : ∀ m, srcE Tryz.prog 3 1 m (.tree 1 1 [.val (.int .i64 z)] true) = some ([.val (.int .i64 z)], 1) := fun m => by simp [srcE, slView]
         replace hsr := Hid.mk hsr
         replace hcell := Hid.mk hcell
         replace ho2 := Hid.mk ho2
         replace hk2 := Hid.mk hk2
         replace hn2 := Hid.mk hn2
         replace hown := Hid.mk hown
         replace hkp := Hid.mk hkp
         replace hnw := Hid.mk hnw
         replace hsrc := Hid.mk hsrc
         simp only [↓pre, simprocAttr, parV, sx, tys38, onceWk, bne, postU, postA, postV, hf, ho, storeE, allocE, put_at, push_at, Array.size_empty, List.size_toArray, e3, e44, e45, e46, e11, hlt', hlt, addr_slp, hb2, a1, a2, a3, a4, hbl0, Nat.zero_add, sr]
         refine app_new (kd := .flat) (sz := 1) (y := 8) (zl := [.int .i64 0]) (m0 := m) (by kernel_rfl) (ho2.out.pp _ _) (by kernel_rfl) (by kernel_rfl) (by kernel_rfl) rfl (hsrc.out _) rfl (by omega) (by omega) (hk2.out.trans ⟨rfl, by rw [put_next, push_next]; omega, fun j x hj hl => by rw [put_at, if_neg (by omega), push_at, if_neg (by omega)]; exact hj⟩) hn2.out ?_
         intro lv' m2 ho' hkp' hnw'
         rw [← hcell.out] at ho'
         replace ho' := Hid.mk ho'
         replace hkp' := Hid.mk hkp'
         replace hnw' := Hid.mk hnw'
         simp only [↓pre, simprocAttr, parV, sx, tys38, onceWk, bne, postU, postA, postV, hf, ho, storeE, allocE, put_at, push_at, Array.size_empty, List.size_toArray, e3, e44, e45, e46, e11, wi, sr]
         exact ⟨q - 1, by have := hq.out; omega, i + 1, _, by have := hq.out; omega, rfl, rfl, ⟨ho'.out, hkp'.out, hnw'.out⟩⟩
       · have hlt' : ¬ ((i : Nat) : Int) < ((EA.length : Nat) : Int) := by omega
         have hi : i = EA.length := by have := hq.out; omega
         subst hi
         rw [List.take_length] at ho2
         obtain ⟨b, rfl, hbm, hbl2⟩ := ho2.sl (by omega)
         have hb1 := hn2 b rfl
         have hb2 := hkp.next
         simp only [↓pre, simprocAttr, parV, sx, tys38, onceWk, bne, postU, postA, postV, hf, ho, storeE, allocE, put_at, push_at, Array.size_empty, List.size_toArray, e3, e44, e45, e46, e11, hlt', sr]
         exact ⟨b, rfl, hbm, hbl2, by omega, hkp.trans hk2⟩
   · refine loop_intro (fun q e m => ∃ i ev, q + i = 4 ∧ e 2 = .tptr 0 [intV k, intV r, intV c, intV w, v] ∧ e 3 = .ptr m0.next 0 ∧ e 5 = RV ∧ e 7 = ev ∧ e 23 = RV ∧ e 24 = intV (4 : Nat) ∧ e 25 = intV (i : Nat) ∧ Hid (OwnK .flat m 42 2 ev (entA k r c w L i).length (entCells (entA k r c w L i)) ∧ Kept mb m ∧ NewV mb ev ∧ entX k r c w L i = 0)) 4 ⟨0, nilS, by omega, rfl, rfl, rfl, rfl, rfl, rfl, rfl, ⟨by rw [hA0.out]; exact own_nil, Kept.refl _, newV_nil _, hX0.out⟩⟩ ?_
     rintro q e m ⟨i, ev, hq, e2, e3, e5, e7, e23, e24, e25, hJ⟩
     replace hq := Hid.mk hq
     obtain ⟨hown, hkp, hnw, hX⟩ := hJ.out
     clear hJ
     by_cases hlt : i < 4
     · have hlt' : ((i : Nat) : Int) < ((4 : Nat) : Int) := by omega
       have hlt2 : ((i : Nat) : Int) < 4 := by omega
       have wi := wrap_succ (n := i) (by omega)
       have heni := hen.out i
       have hXi := hXs.out i hX
       by_cases hE : enE k r c w L (i : Nat) = 0
       · rw [hE] at heni
         simp only [if_true] at heni
         rw [hE] at hXi
         have hAi := hAs.out i
         have hal := hel.out (i + 1) hXi
         have hTr := treeR_rd (enL k r c w L (i : Nat)).length (entCells (enL k r c w L (i : Nat)))
         have hsr : ∀ m, srcE Tryz.prog 42 2 m (treeR (enL k r c w L (i : Nat)).length (entCells (enL k r c w L (i : Nat)))) = some (entCells (enL k r c w L (i : Nat)), (enL k r c w L (i : Nat)).length) := fun m => by
           have := hTr.src (P := Tryz.prog) (m := m) (el := 42) (sz := 2) (by rw [entCells_len]; exact Nat.le_refl _)
           rw [this, List.take_of_length_le (by rw [entCells_len]; exact Nat.le_refl _)]
         have hecl := entCells_len (enL k r c w L (i : Nat))
         have hcap := entCells_app (entA k r c w L i) (enL k r c w L (i : Nat))
         rw [← hAi] at hcap
         have hln : (entA k r c w L (i + 1)).length = (entA k r c w L i).length + (enL k r c w L (i : Nat)).length := by rw [hAi, List.length_append]
         have s2 := rd_shift hTr
         have p2 := hTr.plain
         generalize treeR (enL k r c w L (i : Nat)).length (entCells (enL k r c w L (i : Nat))) = TV at *
         generalize enL k r c w L (i : Nat) = EL at *
         replace hcap := Hid.mk hcap
         replace hln := Hid.mk hln
         replace hal := Hid.mk hal
         replace hAi := Hid.mk hAi
         replace hXi := Hid.mk hXi
         replace hTr := Hid.mk hTr
         replace hecl := Hid.mk hecl
         replace hE := Hid.mk hE
         replace hown := Hid.mk hown
         replace hkp := Hid.mk hkp
         replace hnw := Hid.mk hnw
         simp only [↓pre, simprocAttr, parV, sx, tys38, onceWk, bne, postU, postA, postV, hf, ho, storeE, allocE, put_at, push_at, Array.size_empty, List.size_toArray, e2, e3, e5, e7, e23, e24, e25, hlt', hlt2, sr]
         (first | refine call_plain (heni) (by first | rfl | simp only [parV, plQ, *]) ?_ | refine call_pure (heni) (by first | rfl | simp only [parV, plQ, *]) (by intro k; first | rfl | simp only [sq, sr, *]) ?_); simp only [↓pre, simprocAttr, parV, sx, tys38, onceWk, bne, postU, postA, postV, hf, ho, storeE, allocE, put_at, push_at, Array.size_empty, List.size_toArray, e2, e3, e5, e7, e23, e24, e25, hlt', hlt2, s2, sr]
         refine app_new (kd := .flat) (sz := 2) (y := 24) (zl := [.string .empty, .int .i64 0]) (by kernel_rfl) hown.out (by kernel_rfl) (by kernel_rfl) (by kernel_rfl) rfl (hsr _) hecl.out (by have := hal.out; have := hln.out; omega) (by have := hal.out; have := hln.out; omega) hkp.out hnw.out ?_
         intro lv' m' ho' hkp' hnw'
         rw [← hcap.out, ← hln.out] at ho'
         simp only [↓pre, simprocAttr, parV, sx, tys38, onceWk, bne, postU, postA, postV, hf, ho, storeE, allocE, put_at, push_at, Array.size_empty, List.size_toArray, e2, e3, e5, e7, e23, e24, e25, wi, sr]
         exact ⟨q - 1, by have := hq.out; omega, i + 1, _, by have := hq.out; omega, rfl, rfl, ⟨ho', hkp', hnw', hXi.out⟩⟩
       · simp only [if_neg hE] at heni
         rw [show treeR ([] : List Ent).length (entCells []) = nilS from rfl] at heni
         have hst := hstop.out (i + 1) (by rw [hXi]; exact hE) (3 - i)
         rw [show i + 1 + (3 - i) = 4 by omega, hXi] at hst
         unfold nilS at heni
         replace hXi := Hid.mk hXi
         have hst0 : ¬ entX k r c w L 4 = 0 := by rw [hst]; exact hE
         rw [hst] at hst0 ⊢
         replace hst := Hid.mk hst
         simp only [↓pre, simprocAttr, parV, sx, tys38, onceWk, bne, postU, postA, postV, hf, ho, storeE, allocE, put_at, push_at, Array.size_empty, List.size_toArray, e2, e3, e5, e7, e23, e24, e25, hlt', hlt2, sr]
         (first | refine call_plain (heni) (by first | rfl | simp only [parV, plQ, *]) ?_ | refine call_pure (heni) (by first | rfl | simp only [parV, plQ, *]) (by intro k; first | rfl | simp only [sq, sr, *]) ?_); simp only [↓pre, simprocAttr, parV, sx, tys38, onceWk, bne, postU, postA, postV, hf, ho, storeE, allocE, put_at, push_at, Array.size_empty, List.size_toArray, e2, e3, e5, e7, e23, e24, e25, hlt', hlt2, hE, sr]
         exact fun h => h.elim
     · have hlt' : ¬ ((i : Nat) : Int) < ((4 : Nat) : Int) := by omega
       have hlt2 : ¬ ((i : Nat) : Int) < 4 := by omega
       have hi : i = 4 := by have := hq.out; omega
       subst hi
       simp only [↓pre, simprocAttr, parV, sx, tys38, onceWk, bne, postU, postA, postV, hf, ho, storeE, allocE, put_at, push_at, Array.size_empty, List.size_toArray, e2, e3, e5, e7, e23, e24, e25, hlt', hlt2, sr]
       exact ⟨hX, ⟨hown, hkp, hnw⟩⟩
 · rw [if_neg hB] at hbk
   simp only [if_neg hB]
   unfold nilS at hbk
   simp only [intV] at hbk
   refine ospec_of_body follows Tryz.func38 (by unfold Tryz.f38; rfl) (by unfold Tryz.f38; simp) onceWk (by unfold Tryz.f38; simp) (by kernel_rfl) ?_; unfold Tryz.f38
   simp only [↓pre, simprocAttr, parV, sx, tys38, onceWk, bne, postU, postA, postV, hf, ho, storeE, allocE, put_at, push_at, Array.size_empty, List.size_toArray, sr]
   (first | refine call_plain (hbk) (by first | rfl | simp only [parV, plQ, *]) ?_ | refine call_pure (hbk) (by first | rfl | simp only [parV, plQ, *]) (by intro k; first | rfl | simp only [sq, sr, *]) ?_); simp only [↓pre, simprocAttr, parV, sx, tys38, onceWk, bne, postU, postA, postV, hf, ho, storeE, allocE, put_at, push_at, Array.size_empty, List.size_toArray, hB, sr]
   exact fun h => h.elim
structure OutB (m0 m:Mem) (a:Nat) (T el:TypeId) (sz n:Nat) (cells:List AV):Prop where
 ex:∃ v,m.at_ a=some ⟨[v],T,.var,true⟩∧OwnK .flat m el sz v n cells∧NewV m0 v
 lt:a < m0.next
 next:m0.next≤m.next
 mm:m.mm=m0.mm
 at_:∀ j x,m0.at_ j=some x→j < m0.next→j≠a→m.at_ j=some x
theorem OutB.grow {P:Program} {m0 m:Mem} {a:Nat} {T el:TypeId} {sz n y cnt:Nat} {cells new:List AV} {zl:List Value} {x:AV} (h:OutB m0 m a T el sz n cells) (hkd:kindT P el = .flat) (h1:szE P el=some sz) (h2:byE P el=some y) (h3:zeroE P el=some zl) (h4:zl.length=sz) (h5:∀ m,srcE P el sz m x=some (new,cnt)) (h6:new.length=cnt*sz) (h7:(n+cnt)*y≤140737488355328) (h8:n+cnt≤140737488355328) (h9:0 < cnt):∃ v b m',m.at_ a=some ⟨[v],T,.var,true⟩∧appE P el m v x=some ⟨.sl b 0 (n+cnt) (n+cnt) false,m',none⟩∧m'.at_ a=some ⟨[v],T,.var,true⟩∧OutB m0 (m'.put a (some ⟨[.sl b 0 (n+cnt) (n+cnt) false],T,.var,true⟩)) a T el sz (n+cnt) (cells++new):=by
 obtain ⟨v,hv,ho,hn⟩:=h.ex
 have hlt:=h.lt
 have hnx:=h.next
 have hne:∀ {u:AV},NewV m0 u→blkOf u≠some a:=fun hu e=>by have:=hu a e;omega
 have hr:outW (appE P el m v x) fun o=>∃ b m',o=⟨.sl b 0 (n+cnt) (n+cnt) false,m',none⟩∧m'.at_ a=some ⟨[v],T,.var,true⟩∧OutB m0 (m'.put a (some ⟨[.sl b 0 (n+cnt) (n+cnt) false],T,.var,true⟩)) a T el sz (n+cnt) (cells++new):=by
  refine app_keepM hkd ho h1 h2 h3 h4 (h5 m) h6 h7 h8 fun v' m' a1 b1 c1 d1 e1 => ?_
  have hn':NewV m0 v':=fun j hj=>by
   rcases d1 j hj with e | e
   ·omega
   ·exact hn j e
  obtain ⟨b,rfl,_,_⟩:=a1.sl (by omega)
  refine ⟨b,m',rfl,c1 a _ hv (by omega) (hne hn),⟨⟨_,by rw [put_at,if_pos rfl],a1.put_ne (hne hn'),hn'⟩,hlt,by rw [put_next];omega,by show m'.mm=m0.mm;rw [e1,h.mm],fun j x hj hjl hja => ?_⟩⟩
  rw [put_at,if_neg hja]
  exact c1 j x (h.at_ j x hj hjl hja) (by omega) fun e=>by have:=hn j e;omega
 unfold outW at hr
 split at hr
 ·rename_i o ho
  obtain ⟨b,m',rfl,g1,g2⟩:=hr
  exact ⟨v,b,m',hv,ho,g1,g2⟩
 ·exact hr.elim
theorem OutB.start {m0 m1:Mem} {a:Nat} {T el:TypeId} {sz:Nat} (ha:m0.at_ a=some ⟨[nilS],T,.var,true⟩) (hl:a < m0.next) (hk:Kept m0 m1):OutB m1 m1 a T el sz 0 [] :=
 ⟨⟨nilS,hk.at_ a _ ha hl,own_nil,newV_nil _⟩,Nat.lt_of_lt_of_le hl hk.next,Nat.le_refl _,rfl,fun j x h _ _=>h⟩
theorem Descs_1 (m1 m:Mem) (a:Nat) (x:Int) (fr:List Int) (hp:fr.length≤1000000) (h:OutB m1 m a 33 3 1 fr.length (intsA fr)):∃ mx,(OSpec Tryz.prog 42 [intV x,.ptr a 0] m fun res m'=>res=intV 0∧m'=mx)∧OutB m1 mx a 33 3 1 (fr++[x]).length (intsA (fr++[x])):=by
 have hsrc:∀ m,srcE Tryz.prog 3 1 m (.tree 1 1 [.val (.int .i64 x)] true)=some ([.val (.int .i64 x)],1):=fun m=>by simp [srcE,slView]
 obtain ⟨v,b,m',hv,hap,hv2,hO⟩:=h.grow (P:=Tryz.prog) (y:=8) (zl:=[.int .i64 0]) (by kernel_rfl) (by kernel_rfl) (by kernel_rfl) (by kernel_rfl) rfl hsrc rfl (by omega) (by omega) (by omega)
 have hbl:∀ m (a:Int),buildTreeE Tryz.prog m 33 1 [(0,.val (.int .i64 a))]=some ⟨.tree 1 1 [.val (.int .i64 a)] true,m,none⟩:=fun m a=>buildT_of (el:=3) (sz:=1) (z:=[.val (.int .i64 0)]) (by kernel_rfl) (by kernel_rfl) (by kernel_rfl) rfl rfl (by decide)
 have he:intsA (fr++[x])=intsA fr++[.val (.int .i64 x)]:=by simp [intsA,intV]
 refine ⟨_, ?_,by rw [he,List.length_append];exact hO⟩
 replace h:=Hid.mk h
 replace hO:=Hid.mk hO
 replace he:=Hid.mk he
 refine ospec_of_body follows Tryz.func42 (by unfold Tryz.f42;rfl) (by unfold Tryz.f42;simp) onceA (by unfold Tryz.f42;simp) (by kernel_rfl) ?_;unfold Tryz.f42
 simp only [↓pre,simprocAttr,parV,sx,tys42,onceA,postU,postA,postV,allocE,hap,hv,hv2,hbl,storeE,put_at,sr]
def onceD:Nat→Bool:=fun d=>d != 4
def dsV (k r c w:Int) (L:List (List UInt8)):AV:=if wkE k r c w L=0 then .tup [.tree (wkL k r c w L).length (wkL k r c w L).length (intsA (wkL k r c w L)) false,intV 0] else .tup [nilS,intV (wkE k r c w L)]
theorem live_Descs (k r c w:Int) (v:AV) (L:List (List UInt8)) (cells:List AV) (hv:RowsV v L cells):FSpec Tryz.prog 11 [imV k r c w v] ⟨dsV k r c w L,[]⟩:=by
 refine fspec_fzT ?_
 have hf:=rd_fz hv.rd
 have ho:=rd_one hv.rd
 have hw:=fun m0 InvF g caps=>live_walk k r c w v L cells hv m0 g caps (fun _=>0) InvF
 have hR:wkR k r c w L (fun _=>0)=wkE k r c w L:=by
  unfold wkR
  split
  ·rename_i h
   rw [dowF_zero,h]
  ·rfl
 rw [hR] at hw
 unfold imV at hw ⊢
 unfold dsV
 replace hw:=Hid.mk hw
 replace hR:=Hid.mk hR
 refine ospec_of_body follows Tryz.func11 (by unfold Tryz.f11;rfl) (by unfold Tryz.f11;simp) onceD (by unfold Tryz.f11;simp) (by kernel_rfl) ?_;unfold Tryz.f11
 simp only [↓pre,simprocAttr,parV,sx,tys11,onceD,bne,postU,postA,postV,hf,ho,storeE,allocE,put_at,push_at,Array.size_empty,List.size_toArray,sr]
 refine call_open (hw.out _ (fun m1 fr m=>OutB m1 m Mem.empty.next 33 3 1 fr.length (intsA fr)) _ _ ?_ ?_ ?_) ?_
 ·intro m1 hk
  exact OutB.start (by rw [push_at,if_pos rfl];rfl) (by rw [push_next];omega) hk
 ·intro m1 fr m _ h j x hj h1 h2
  exact h.at_ j x hj h2 (by rw [push_next] at h1;omega)
 ·intro m1 fr x m _ hl h
  obtain ⟨mx,g1,g2⟩:=Descs_1 m1 m _ x fr (by omega) h
  exact ⟨mx,g1,fun _=>g2⟩
 ·rintro res m' ⟨rfl,hI⟩
  by_cases hE:wkE k r c w L=0
  ·obtain ⟨m1,_,hO⟩:=hI hE
   obtain ⟨v',hv',hown,_⟩:=hO.ex
   obtain ⟨b,rfl,hbm,_⟩:=hown.sl (by unfold wkL;simp)
   rw [if_pos hE,hE]
   replace hO:=Hid.mk hO
   replace hown:=Hid.mk hown
   replace hI:=Hid.mk hI
   replace hE:=Hid.mk hE
   replace hbm:=Hid.mk hbm
   simp only [↓pre,simprocAttr,parV,sx,tys11,onceD,bne,postU,postA,postV,hf,ho,storeE,allocE,put_at,push_at,Array.size_empty,List.size_toArray,hv',sr]
   exact ⟨0,by rw [fzT_tup,fzTs_cons,fzT_flat hbm.out,Option.bind_some,fzTs_cons,fzT_val,fzTs_nil];rfl⟩
  ·rw [if_neg hE]
   replace hI:=Hid.mk hI
   simp only [↓pre,simprocAttr,parV,sx,tys11,onceD,bne,postU,postA,postV,hf,ho,storeE,allocE,put_at,push_at,Array.size_empty,List.size_toArray,hE,sr]
   exact ⟨0,by rw [fzT_tup,fzTs_cons,fzT_val,Option.bind_some,fzTs_cons,fzT_val,fzTs_nil];rfl⟩
theorem OutB.skip {P:Program} {m0 m:Mem} {a:Nat} {T el:TypeId} {sz n y:Nat} {cells:List AV} {zl:List Value} (h:OutB m0 m a T el sz n cells) (hkd:kindT P el = .flat) (h1:szE P el=some sz) (h2:byE P el=some y) (h3:zeroE P el=some zl) (h4:zl.length=sz) (h7:n*y≤140737488355328) (h8:n≤140737488355328):∃ v v' m',m.at_ a=some ⟨[v],T,.var,true⟩∧appE P el m v nilS=some ⟨v',m',none⟩∧m'.at_ a=some ⟨[v],T,.var,true⟩∧(v'=nilS∨∃ b,v' = .sl b 0 n n false):=by
 obtain ⟨v,hv,ho,hn⟩:=h.ex
 have hlt:=h.lt
 have hnx:=h.next
 have hR:RdSl nilS 0 []:=⟨.inl ⟨rfl,rfl⟩⟩
 have hs:srcE P el sz m nilS=some ([],0):=by rw [hR.src (by simp)];simp
 have hr:outW (appE P el m v nilS) fun o=>∃ v' m',o=⟨v',m',none⟩∧m'.at_ a=some ⟨[v],T,.var,true⟩∧(v'=nilS∨∃ b,v' = .sl b 0 n n false):=by
  refine app_keepM hkd ho h1 h2 h3 h4 hs (by simp) h7 h8 fun v' m' a1 b1 c1 d1 e1 => ?_
  refine ⟨v',m',rfl,c1 a _ hv (by omega) (fun e=>by have:=hn a e;omega), ?_⟩
  rcases a1.form with ⟨h,_⟩ | ⟨b,h,_⟩
  ·exact .inl h
  ·exact .inr ⟨b,h⟩
 unfold outW at hr
 split at hr
 ·rename_i o ho
  obtain ⟨v',m',rfl,g1,g2⟩:=hr
  exact ⟨v,v',m',hv,ho,g1,g2⟩
 ·exact hr.elim
def strF (k r c w:Int) (L:List (List UInt8)) (fr:List Int):List LiveI:=fr.flatMap (strL k r c w L)
theorem strF_one (k r c w:Int) (L:List (List UInt8)) (fr:List Int) (x:Int):strF k r c w L (fr++[x])=strF k r c w L fr++strL k r c w L x:=by
 unfold strF
 rw [List.flatMap_append,List.flatMap_cons,List.flatMap_nil,List.append_nil]
def imC (k r c w:Int) (v:AV):AV := .tptr 0 [intV k,intV r,intV c,intV w,v]
theorem Stripes_1 (k r c w:Int) (v:AV) (L:List (List UInt8)) (cells:List AV) (hv:RowsV v L cells) (m1 m:Mem) (a:Nat) (x:Int) (fr:List Int) (hp:fr.length < 1000000) (hl:(strF k r c w L fr).length≤fr.length*100000) (h:OutB m1 m a 29 45 3 (strF k r c w L fr).length (liveA (strF k r c w L fr))):∃ mx,(OSpec Tryz.prog 39 [intV x,imC k r c w v,.ptr a 0] m fun res m'=>res=intV (objE k r c w L x)∧m'=mx)∧(objE k r c w L x=0→(strF k r c w L (fr++[x])).length≤(fr++[x]).length*100000∧OutB m1 mx a 29 45 3 (strF k r c w L (fr++[x])).length (liveA (strF k r c w L (fr++[x])))):=by
 have hpl:=hv.rd.plain
 have hf:=rd_fz hv.rd
 have ho:=rd_one hv.rd
 have hst:=tree_Stripes k r c w x v L cells hv
 rw [strF_one]
 unfold strV17 at hst
 unfold imV at hst
 unfold imC
 obtain ⟨vo,hvo,hown,hnew⟩:=h.ex
 by_cases hE:objE k r c w L x=0
 ·rw [if_pos hE] at hst
  have hlen:(strL k r c w L x).length≤100000:=by
   have h1:=objL_len hE
   obtain ⟨_,_,_,_,hSl,_,_⟩:=obj_refs hE
   rw [strL_len]
   omega
  have hpos:0 < (strL k r c w L x).length:=by rw [strL_len];omega
  generalize strL k r c w L x=sl at *
  generalize strF k r c w L fr=sf at *
  have hTr:=liveT_rd sl
  have hap0:=liveA_append sf sl
  have hl3:=liveA_len sl
  generalize liveT sl=TV at *
  have hsrc:∀ m,srcE Tryz.prog 45 3 m TV=some (liveA sl,sl.length):=fun m=>by
   rw [hTr.src (by omega),List.take_of_length_le (by omega)]
  obtain ⟨v2,b,m',hv1,hap,hv2,hO⟩:=h.grow (P:=Tryz.prog) (y:=24) (zl:=[.int .i64 0,.int .u8 0,.int .i64 0]) (by kernel_rfl) (by kernel_rfl) (by kernel_rfl) (by kernel_rfl) rfl hsrc hl3 (by omega) (by omega) hpos
  rw [hap0.symm] at hO
  refine ⟨_, ?_,fun _=>⟨by simp;omega,by rw [List.length_append];exact hO⟩⟩
  replace h:=Hid.mk h
  replace hO:=Hid.mk hO
  replace hown:=Hid.mk hown
  replace hnew:=Hid.mk hnew
  replace hsrc:=Hid.mk hsrc
  replace hTr:=Hid.mk hTr
  replace hap0:=Hid.mk hap0
  replace hl3:=Hid.mk hl3
  replace hE:=Hid.mk hE
  have s2:=rd_shift hTr.out
  have h1:=rd_one hTr.out
  refine ospec_of_body follows Tryz.func39 (by unfold Tryz.f39;rfl) (by unfold Tryz.f39;simp) onceA (by unfold Tryz.f39;simp) (by kernel_rfl) ?_;unfold Tryz.f39
  simp only [↓pre,simprocAttr,parV,sx,tys39,onceA,postU,postA,postV,allocE,storeE,put_at,hap,hv1,hv2,hf,ho,s2,h1,sr]
  (first | refine call_plain (hst) (by first | rfl | simp only [parV,plQ, *]) ?_ | refine call_pure (hst) (by first | rfl | simp only [parV,plQ, *]) (by intro k;first | rfl | simp only [sq,sr, *]) ?_);simp only [↓pre,simprocAttr,parV,sx,tys39,onceA,postU,postA,postV,allocE,storeE,put_at,hap,hv1,hv2,hf,ho,s2,h1,sr]
  rw [hE.out]
 ·rw [if_neg hE] at hst
  obtain ⟨v2,v',m',hv1,hap,hv2,hfm⟩:=h.skip (P:=Tryz.prog) (y:=24) (zl:=[.int .i64 0,.int .u8 0,.int .i64 0]) (by kernel_rfl) (by kernel_rfl) (by kernel_rfl) (by kernel_rfl) rfl (by omega) (by omega)
  generalize strF k r c w L fr=sf at *
  refine ⟨m'.put a (some ⟨[v'],29,.var,true⟩), ?_,fun h=>absurd h hE⟩
  replace h:=Hid.mk h
  replace hown:=Hid.mk hown
  replace hnew:=Hid.mk hnew
  unfold nilS at hst hap hfm
  rcases hfm with rfl | ⟨b,rfl⟩
  all_goals
   replace hE:=Hid.mk hE
   refine ospec_of_body follows Tryz.func39 (by unfold Tryz.f39;rfl) (by unfold Tryz.f39;simp) onceA (by unfold Tryz.f39;simp) (by kernel_rfl) ?_;unfold Tryz.f39
   simp only [↓pre,simprocAttr,parV,sx,tys39,onceA,postU,postA,postV,allocE,storeE,put_at,hap,hv1,hv2,hf,ho,sr]
   (first | refine call_plain (hst) (by first | rfl | simp only [parV,plQ, *]) ?_ | refine call_pure (hst) (by first | rfl | simp only [parV,plQ, *]) (by intro k;first | rfl | simp only [sq,sr, *]) ?_);simp only [↓pre,simprocAttr,parV,sx,tys39,onceA,postU,postA,postV,allocE,storeE,put_at,hap,hv1,hv2,hf,ho,sr]
theorem strF_all {k r c w:Int} {L:List (List UInt8)}:strF k r c w L (wkL k r c w L)=lvL k r c w L:=rfl
def stV (k r c w:Int) (L:List (List UInt8)):AV:=if lvE k r c w L=0 then .tup [.tree (lvL k r c w L).length (lvL k r c w L).length (liveA (lvL k r c w L)) false,intV 0] else .tup [nilS,intV (lvE k r c w L)]
theorem lvL_pos (k r c w:Int) (L:List (List UInt8)):0 < (lvL k r c w L).length:=by
 unfold lvL wkL
 rw [List.flatMap_cons,List.length_append,strL_len]
 omega
theorem live_Stripes (k r c w:Int) (v:AV) (L:List (List UInt8)) (cells:List AV) (hv:RowsV v L cells):FSpec Tryz.prog 9 [imV k r c w v] ⟨stV k r c w L,[]⟩:=by
 refine fspec_fzT ?_
 have hf:=rd_fz hv.rd
 have ho:=rd_one hv.rd
 have hw:=fun m0 InvF g caps=>live_walk k r c w v L cells hv m0 g caps (objE k r c w L) InvF
 have h1:=Stripes_1 k r c w v L cells hv
 have hpos:=lvL_pos k r c w L
 rw [show wkR k r c w L (objE k r c w L)=lvE k r c w L from rfl] at hw
 unfold imV at hw ⊢
 unfold imC at h1
 unfold stV
 replace hw:=Hid.mk hw
 replace h1:=Hid.mk h1
 refine ospec_of_body follows Tryz.func9 (by unfold Tryz.f9;rfl) (by unfold Tryz.f9;simp) onceD (by unfold Tryz.f9;simp) (by kernel_rfl) ?_;unfold Tryz.f9
 simp only [↓pre,simprocAttr,parV,sx,tys9,onceD,bne,postU,postA,postV,hf,ho,storeE,allocE,put_at,push_at,Array.size_empty,List.size_toArray,sr]
 refine call_open (hw.out _ (fun m1 fr m=>(strF k r c w L fr).length≤fr.length*100000∧OutB m1 m Mem.empty.next 29 45 3 (strF k r c w L fr).length (liveA (strF k r c w L fr))) _ _ ?_ ?_ ?_) ?_
 ·intro m1 hk
  exact ⟨Nat.le_refl _,OutB.start (by rw [push_at,if_pos rfl];rfl) (by rw [push_next];omega) hk⟩
 ·intro m1 fr m _ h j x hj h1 h2
  exact h.2.at_ j x hj h2 (by rw [push_next] at h1;omega)
 ·intro m1 fr x m _ hl h
  exact h1.out m1 m _ x fr hl h.1 h.2
 ·rintro res m' ⟨rfl,hI⟩
  by_cases hE:lvE k r c w L=0
  ·obtain ⟨m1,_,_,hO⟩:=hI hE
   rw [strF_all] at hO
   obtain ⟨v',hv',hown,_⟩:=hO.ex
   obtain ⟨b,rfl,hbm,_⟩:=hown.sl hpos
   rw [if_pos hE,hE]
   replace hO:=Hid.mk hO
   replace hown:=Hid.mk hown
   replace hI:=Hid.mk hI
   replace hE:=Hid.mk hE
   replace hbm:=Hid.mk hbm
   simp only [↓pre,simprocAttr,parV,sx,tys9,onceD,bne,postU,postA,postV,hf,ho,storeE,allocE,put_at,push_at,Array.size_empty,List.size_toArray,hv',sr]
   exact ⟨0,by rw [fzT_tup,fzTs_cons,fzT_flat hbm.out,Option.bind_some,fzTs_cons,fzT_val,fzTs_nil];rfl⟩
  ·rw [if_neg hE]
   replace hI:=Hid.mk hI
   simp only [↓pre,simprocAttr,parV,sx,tys9,onceD,bne,postU,postA,postV,hf,ho,storeE,allocE,put_at,push_at,Array.size_empty,List.size_toArray,hE,sr]
   exact ⟨0,by rw [fzT_tup,fzTs_cons,fzT_val,Option.bind_some,fzTs_cons,fzT_val,fzTs_nil];rfl⟩
theorem leavesR_le {k r c w:Int} {L:List (List UInt8)} (hl:0≤lI k c):∀ (l:List RefI) (n:Int),0≤n→((leavesR k r c w L l n).length:Int)≤n
 | [],n,h=>by simpa [leavesR] using h
 | x::xs,n,h=>by
  have ih:=leavesR_le (r:=r) (w:=w) (L:=L) hl xs (n - min n (lI k c)) (by omega)
  unfold leavesR
  rw [List.length_append,leafR_len]
  omega
theorem strL_le {k r c w:Int} {L:List (List UInt8)} {row:Int} (h:objE k r c w L row=0):(strL k r c w L row).length≤1151:=by
 have h1:=objL_len h
 obtain ⟨_,hR,hC,_⟩:=obj_refs h
 have hD:=com_desc hC
 obtain ⟨hl0,hl1,hdep,hll,hlr⟩:=desc_bounds hD
 obtain ⟨hrb,hm⟩:=row_rowB hR
 have hw:=may_w hm
 have hdb:=d_bounds hw.1 hw.2
 have hlb:=l_bounds hw.1 hw.2
 rw [strL_len]
 have hs:(objS k r c w L row).length≤1024:=by
  unfold objS
  split
  ·unfold dI at hll
   unfold objD
   omega
  ·have hu:0≤oS k r c w (pLen (objD k r c w L row))∧oS k r c w (pLen (objD k r c w L row))≤1024:=by
    unfold oS
    split
    ·unfold sI upI
     unfold wI
     unfold objD
     refine ⟨Int.ediv_nonneg (by omega) (by omega), ?_⟩
     have:(comD k r c w (rowL k r w L row) |> pLen)+k*c - 1 < 1025*(k*c):=by show pLen _+_ - 1 < _;omega
     have:=Int.ediv_lt_of_lt_mul (by omega:0 < k*c) this
     show (pLen _+_ - 1) / _≤_
     omega
    ·omega
   have:=leavesR_le (r:=r) (w:=w) (L:=L) (k:=k) (c:=c) (by unfold lI;omega) (pRefs (objD k r c w L row)) _ hu.1
   omega
 omega
theorem wkL_len {k r c w:Int} {L:List (List UInt8)} (h:wkE k r c w L=0):(wkL k r c w L).length≤131077:=by
 unfold wkE at h
 split at h
 ·rename_i hb
  have h1:=bk_len hb
  have h2:=entA_len 4 h
  unfold wkL
  simp only [List.length_cons,List.length_append,List.length_map]
  omega
 ·contradiction
theorem flat_le {α β:Type} {f:α→List β} {n:Nat}:∀ (l:List α),(∀ x∈l,(f x).length≤n)→(l.flatMap f).length≤l.length*n
 | [],_=>by simp
 | x::l,h=>by
  have ih:=flat_le l fun y hy=>h y (List.mem_cons_of_mem _ hy)
  have hx:=h x List.mem_cons_self
  rw [List.flatMap_cons,List.length_append,List.length_cons,Nat.add_mul]
  omega
theorem lvL_len {k r c w:Int} {L:List (List UInt8)} (h:lvE k r c w L=0):(lvL k r c w L).length≤200000000:=by
 unfold lvE at h
 split at h
 ·rename_i hw
  have h1:=wkL_len hw
  have h2:=flat_le (f:=strL k r c w L) (n:=1151) (wkL k r c w L) fun x hx=>strL_le (dowF_at h x hx)
  unfold lvL
  have:=Nat.mul_le_mul_right 1151 h1
  omega
 ·contradiction
def rwV (k r c w:Int) (L:List (List UInt8)):AV:=if lvE k r c w L=0 then .tup [rowsT (lvL k r c w L),intV 0] else .tup [nilS,intV (lvE k r c w L)]
theorem live_Rows (k r c w:Int) (v:AV) (L:List (List UInt8)) (cells:List AV) (hv:RowsV v L cells):FSpec Tryz.prog 10 [imV k r c w v] ⟨rwV k r c w L,[]⟩:=by
 refine fspec_fzT ?_
 have hp:=hv.rd.plain
 have hf:=rd_fz hv.rd
 have ho:=rd_one hv.rd
 have hst:=live_Stripes k r c w v L cells hv
 unfold stV at hst
 unfold rwV
 unfold imV at hst ⊢
 by_cases hE:lvE k r c w L=0
 ·rw [if_pos hE] at hst ⊢
  have hlen:=lvL_len hE
  have hpos:=lvL_pos k r c w L
  generalize lvL k r c w L=sl at *
  have hTr:RdSl (.tree sl.length sl.length (liveA sl) false) sl.length (liveA sl):=⟨.inr (.inr ⟨_,_,rfl,Nat.le_refl _⟩)⟩
  generalize AV.tree sl.length sl.length (liveA sl) false=TV at *
  have hats:=fun (i:Nat) (x:LiveI) (hi:sl[i]? = some x)=>liveA_at sl i x hi
  have hbl:∀ m (a:Int),buildTreeE Tryz.prog m 33 1 [(0,.val (.int .i64 a))]=some ⟨.tree 1 1 [.val (.int .i64 a)] true,m,none⟩:=fun m a=>buildT_of (el:=3) (sz:=1) (z:=[.val (.int .i64 0)]) (by kernel_rfl) (by kernel_rfl) (by kernel_rfl) rfl rfl (by decide)
  have hsr:∀ m (a:Int),srcE Tryz.prog 3 1 m (.tree 1 1 [.val (.int .i64 a)] true)=some ([.val (.int .i64 a)],1):=fun m a=>src_tree (by simp)
  have s2:=rd_shift hTr
  simp only [intV] at hst
  replace hE:=Hid.mk hE
  replace hTr:=Hid.mk hTr
  replace hsr:=Hid.mk hsr
  replace hats:=Hid.mk hats
  refine ospec_of_body follows Tryz.func10 (by unfold Tryz.f10;rfl) (by unfold Tryz.f10;simp) onceA (by unfold Tryz.f10;simp) (by kernel_rfl) ?_;unfold Tryz.f10
  simp only [↓pre,simprocAttr,parV,sx,tys10,onceA,postU,hf,ho,s2,storeE,allocE,put_at,push_at,sr]
  (first | refine call_plain (hst) (by first | rfl | simp only [parV,plQ, *]) ?_ | refine call_pure (hst) (by first | rfl | simp only [parV,plQ, *]) (by intro k;first | rfl | simp only [sq,sr, *]) ?_);simp only [↓pre,simprocAttr,parV,sx,tys10,onceA,postU,hf,ho,s2,storeE,allocE,put_at,push_at,hTr.out.len',sr]
  rw [codeW_loop]
  refine loop_intro (fun q e m=>∃ i,q+i=sl.length∧e 17=TV∧e 18=intV (sl.length:Nat)∧e 19=intV (i:Nat)∧Hid (OwnK .flat m 3 1 (e 6) i (intsA ((sl.take i).map (·.1))))) sl.length ⟨0,by omega,rfl,rfl,rfl,⟨own_nil⟩⟩ ?_
  rintro q e m ⟨i,hq,e20,e21,e22,hJ⟩
  replace hq:=Hid.mk hq
  generalize hv8:e 6=v8 at *
  by_cases hlt:i < sl.length
  ·have hlt':((i:Nat):Int) < ((sl.length:Nat):Int):=by omega
   have wi:=wrap_succ (n:=i) (by omega)
   obtain ⟨x,hx⟩:∃ x,sl[i]? = some x:=⟨_,List.getElem?_eq_getElem hlt⟩
   obtain ⟨ha,hb,hc3⟩:=hats.out i x hx
   obtain ⟨ht,htl⟩:=take3 ha hb hc3
   have hcell:intsA ((sl.take (i+1)).map (·.1))=intsA ((sl.take i).map (·.1))++[.val (.int .i64 x.1)]:=by
    rw [List.take_add_one,hx]
    simp [intsA,intV]
   replace hx:=Hid.mk hx
   replace hcell:=Hid.mk hcell
   simp only [↓pre,simprocAttr,parV,sx,tys10,onceA,postU,hf,ho,s2,storeE,allocE,put_at,push_at,hv8,e20,e21,e22,hlt',hTr.out.addr',hlt,ht,htl,hbl,sr]
   have hstep:∀ (m2:Mem) (K:Out→Prop),m.next≤m2.next→(∀ j kk,m.at_ j=some kk→j < m.next→m2.at_ j=some kk)→(∀ lv' m',OwnK .flat m' 3 1 lv' (i+1) (intsA ((sl.take (i+1)).map (·.1)))→K ⟨lv',m',none⟩)→outW (appE Tryz.prog 3 m2 v8 (.tree 1 1 [.val (.int .i64 x.1)] true)) K:=by
    intro m2 K hn hk hK
    have hown:=hJ.out
    have ho2:OwnK .flat m2 3 1 v8 i (intsA ((sl.take i).map (·.1))):=hown.keep hn fun j kk hj hk2=>by
     rcases hown.form with ⟨h,_⟩ | ⟨b,h,_,hb2,_⟩
     ·rw [h] at hj;simp [blkOf,nilS] at hj
     ·rw [h] at hj
      simp only [blkOf,Option.some.injEq] at hj
      exact hk j kk hk2 (by omega)
    refine app_rule (kd := .flat) (sz:=1) (y:=8) (zl:=[.int .i64 0]) (by kernel_rfl) ho2 (by kernel_rfl) (by kernel_rfl) (by kernel_rfl) rfl (hsr.out m2 _) rfl (by omega) (by omega) ?_
    intro lv' m' ho' hn'
    rw [←hcell.out] at ho'
    exact hK _ _ ho'
   refine hstep _ _ (by simp only [put_next,push_next];omega) (fun j kk hj hjl=>by rw [put_at,if_neg (by omega),push_at,if_neg (by omega)];exact hj) ?_
   intro lv' m' ho'
   replace ho':=Hid.mk ho'
   clear hstep
   simp only [↓pre,simprocAttr,parV,sx,tys10,onceA,postU,hf,ho,s2,storeE,allocE,put_at,push_at,hv8,e20,e21,e22,wi,sr]
   exact ⟨q - 1,by have:=hq.out;omega,i+1,by have:=hq.out;omega,rfl,ho'⟩
  ·have hlt':¬ ((i:Nat):Int) < ((sl.length:Nat):Int):=by omega
   have hi:i=sl.length:=by have:=hq.out;omega
   have hown:=hJ.out
   rw [hi,List.take_length] at hown
   obtain ⟨b,rfl,hbm,hbl2,_⟩:∃ b,v8 = .sl b 0 sl.length sl.length false∧m.at_ b=some (intK (sl.map (·.1)))∧b < m.next∧0 < sl.length:=by
    rcases hown.form with ⟨_,h,_⟩ | h
    ·omega
    ·exact h
   have hso:=sort_ints m b sl.length false (sl.map (·.1)) hbm (by rw [List.length_map];omega)
   rw [List.length_map] at hso
   have hso2:=compact_ints (m.put b (some (intK (srtI (sl.map (·.1)))))) b sl.length false (srtI (sl.map (·.1))) (by rw [put_at,if_pos rfl]) (by rw [srtI_len,List.length_map];omega)
   rw [srtI_len,List.length_map] at hso2
   replace hown:=Hid.mk hown
   simp only [↓pre,simprocAttr,parV,sx,tys10,onceA,postU,hf,ho,s2,storeE,allocE,put_at,push_at,hv8,e20,e21,e22,hlt',sr]
   refine .inr (.inr (.inl ⟨_,_,hso, ?_⟩))
   simp only [↓pre,simprocAttr,parV,sx,tys10,onceA,postU,hf,ho,s2,storeE,allocE,put_at,push_at,hv8,sr]
   refine .inr (.inr (.inl ⟨_,_,hso2, ?_⟩))
   simp only [↓pre,simprocAttr,parV,sx,tys10,onceA,postU,hf,ho,s2,storeE,allocE,put_at,push_at,hv8,sr]
   exact ⟨0,by rw [fzT_tup,fzTs_cons,fzT_flat (by rw [put_at,if_pos rfl];rfl),Option.bind_some,fzTs_cons,fzT_val,fzTs_nil];rfl⟩
 ·rw [if_neg hE] at hst ⊢
  unfold nilS at hst
  simp only [intV] at hst
  refine ospec_of_body follows Tryz.func10 (by unfold Tryz.f10;rfl) (by unfold Tryz.f10;simp) onceA (by unfold Tryz.f10;simp) (by kernel_rfl) ?_;unfold Tryz.f10
  simp only [↓pre,simprocAttr,parV,sx,tys10,onceA,postU,postV,hf,ho,storeE,allocE,put_at,push_at,sr]
  (first | refine call_plain (hst) (by first | rfl | simp only [parV,plQ, *]) ?_ | refine call_pure (hst) (by first | rfl | simp only [parV,plQ, *]) (by intro k;first | rfl | simp only [sq,sr, *]) ?_);simp only [↓pre,simprocAttr,parV,sx,tys10,onceA,postU,postV,hf,ho,storeE,allocE,put_at,push_at,hE,sr]
  exact ⟨0,by rw [fzT_tup,fzTs_cons,fzT_val,Option.bind_some,fzTs_cons,fzT_val,fzTs_nil];rfl⟩
section
variable {k r c w:Int} {L:List (List UInt8)}
theorem entX_all (h:entX k r c w L 4=0) {n:Nat} (hn:n < 4):entX k r c w L n=0∧enE k r c w L (n:Nat)=0:=by
 have h0:∀ m,m≤4→entX k r c w L m=0:=fun m hm=>by
  refine Decidable.byContradiction fun hc => ?_
  have:=entX_stop hc (4 - m)
  rw [show m+(4 - m)=4 by omega,h] at this
  exact hc this.symm
 have h1:=h0 (n+1) (by omega)
 unfold entX at h1
 rw [if_pos (h0 n (by omega))] at h1
 exact ⟨h0 n (by omega),h1⟩
theorem entA_at {n j:Nat} {x:Ent} (h:(enL k r c w L (n:Nat))[j]? = some x):∀ m,(entA k r c w L (n+1+m))[(entA k r c w L n).length+j]? = some x
 | 0=>by
  show (entA k r c w L n++enL k r c w L (n:Nat))[_]? = _
  rw [List.getElem?_append_right (by omega),Nat.add_sub_cancel_left]
  exact h
 | m+1=>by
  have ih:=entA_at h m
  show (entA k r c w L (n+1+m)++enL k r c w L ((n+1+m:Nat):Int))[_]? = _
  rw [List.getElem?_append_left (List.getElem?_eq_some_iff.1 ih).1]
  exact ih
theorem wkL_buck (hb:bkE k r c w L=0) {i:Nat} {n:Int} (h:(bkL k r c w L)[i]? = some n):(wkL k r c w L)[1+i]? = some n:=by
 unfold wkL
 rw [Nat.add_comm,List.getElem?_cons_succ,List.getElem?_append_left (List.getElem?_eq_some_iff.1 h).1]
 exact h
theorem wkL_ent (hb:bkE k r c w L=0) {n j:Nat} {s:ByteArray} {z:Int} (hn:n < 4) (h:(enL k r c w L (n:Nat))[j]? = some (s,z)):(wkL k r c w L)[5+(entA k r c w L n).length+j]? = some z:=by
 have h2:=entA_at h (3 - n)
 rw [show n+1+(3 - n)=4 by omega] at h2
 have hl:=bk_len hb
 unfold wkL
 rw [show 5+(entA k r c w L n).length+j=(4+((entA k r c w L n).length+j))+1 by omega,List.getElem?_cons_succ,List.getElem?_append_right (by omega),hl,Nat.add_sub_cancel_left,List.getElem?_map,h2]
 rfl
theorem wkL_length (hb:bkE k r c w L=0):(wkL k r c w L).length=5+(entA k r c w L 4).length:=by
 unfold wkL
 rw [List.length_cons,List.length_append,List.length_map,bk_len hb]
 omega
theorem entA_succ (n:Nat):(entA k r c w L (n+1)).length=(entA k r c w L n).length+(enL k r c w L (n:Nat)).length:=by
 show (entA k r c w L n++enL k r c w L (n:Nat)).length=_
 rw [List.length_append]
end
theorem flat_take {α β:Type} (f:α→List β) (l:List α) (i:Nat):((l.take i).flatMap f).length≤(l.flatMap f).length:=by
 conv=>rhs;rw [←List.take_append_drop i l]
 rw [List.flatMap_append,List.length_append]
 omega
theorem flat_succ {f:Int→List LiveI} {l:List Int} {i:Nat} {x:Int} (h:l[i]? = some x):(l.take (i+1)).flatMap f=(l.take i).flatMap f++f x:=by
 rw [List.take_add_one,h,List.flatMap_append]
 simp
theorem law23_among (QV:AV) (QL:List Int) (QX:List AV) (hQr:RdSl QV QL.length (intsA QL++QX)) (n:Int) (hl:QL.length≤1000000000):FSpec Tryz.prog 16 [QV,intV n] ⟨boolV (decide (n∈QL)),[]⟩:=by
 have hp:=hQr.plain
 have hats:=fun (i:Nat) (x:Int) (hi:QL[i]? = some x)=>int_at (x:=QX) hi
 replace hats:=Hid.mk hats
 refine fspec_of_body follows Tryz.func16 (by unfold Tryz.f16;rfl) (by unfold Tryz.f16;simp) onceA (by unfold Tryz.f16;simp) (by kernel_rfl) ?_;unfold Tryz.f16
 simp only [↓pre,simprocAttr,parV,sx,tys16,onceA,postU,hQr.len',sr]
 rw [codeW_loop]
 refine loop_intro (fun q e m=>∃ i,q+i=QL.length∧e 0=QV∧e 1=intV n∧e 5=intV (i:Nat)∧Hid (∀ j x,j < i→QL[j]? = some x→x≠n)) QL.length ⟨0,by omega,rfl,rfl,rfl,⟨fun j x hj=>by omega⟩⟩ ?_
 rintro q e m ⟨i,hq,e0,e1,e5,hJ⟩
 replace hq:=Hid.mk hq
 by_cases hlt:i < QL.length
 ·have hlt':((i:Nat):Int) < ((QL.length:Nat):Int):=by omega
  have wi:=wrap_succ (n:=i) (by omega)
  obtain ⟨x,hx⟩:∃ x,QL[i]? = some x:=⟨_,List.getElem?_eq_getElem hlt⟩
  have ha:=hats.out i x hx
  by_cases hn:x=n
  ·have hd:decide (n∈QL)=true:=decide_eq_true (hn ▸ List.mem_of_getElem? hx)
   rw [hd]
   replace hx:=Hid.mk hx
   replace hd:=Hid.mk hd
   simp only [↓pre,simprocAttr,parV,sx,tys16,onceA,postU,hQr.len',e0,e1,e5,hlt',hQr.addr',hlt,ha,hn,sr]
  ·have hnext:∀ j y,j < i+1→QL[j]? = some y→y≠n:=fun j y hj hy=>by
    by_cases e:j=i
    ·subst e
     rw [hx] at hy
     cases hy
     exact hn
    ·exact hJ.out j y (by omega) hy
   replace hx:=Hid.mk hx
   replace hnext:=Hid.mk hnext
   simp only [↓pre,simprocAttr,parV,sx,tys16,onceA,postU,hQr.len',e0,e1,e5,hlt',hQr.addr',hlt,ha,hn,wi,sr]
   exact ⟨q - 1,by have:=hq.out;omega,i+1,by have:=hq.out;omega,rfl,hnext⟩
 ·have hlt':¬ ((i:Nat):Int) < ((QL.length:Nat):Int):=by omega
  have hd:decide (n∈QL)=false:=decide_eq_false fun hx=>by
   obtain ⟨j,hj⟩:=List.getElem?_of_mem hx
   exact hJ.out j n (by have:=(List.getElem?_eq_some_iff.1 hj).1;omega) hj rfl
  rw [hd]
  replace hd:=Hid.mk hd
  simp only [↓pre,simprocAttr,parV,sx,tys16,onceA,postU,hQr.len',e0,e1,e5,hlt',sr]
theorem live_same (i j:Nat) (a d b:Int):binE Tryz.prog .neq 45 (.tmp i) (.tmp j) (.agg [.val (.int .i64 a),.val (.int .u8 d),.val (.int .i64 b)]) (.agg [.val (.int .i64 a),.val (.int .u8 d),.val (.int .i64 b)])=some (.val (.bool false)):=by
 have h:eqF Tryz.prog #[.int .i64 a,.int .u8 d,.int .i64 b] #[.int .i64 a,.int .u8 d,.int .i64 b] (fieldsP Tryz.prog 45)=if a=a then (if d=d then (if b=b then some true else some false) else some false) else some false:=by kernel_rfl
 rw [if_pos rfl,if_pos rfl,if_pos rfl] at h
 exact (bin_struct (a:=[.val (.int .i64 a),.val (.int .u8 d),.val (.int .i64 b)]) (b:=[.val (.int .i64 a),.val (.int .u8 d),.val (.int .i64 b)]) (u:=[.int .i64 a,.int .u8 d,.int .i64 b]) (v:=[.int .i64 a,.int .u8 d,.int .i64 b]) rfl rfl (by kernel_rfl) (by kernel_rfl) (by kernel_rfl) h).2
def onceLr:Nat→Bool:=fun d=>d != 207
set_option maxHeartbeats 4000000 in
theorem law23_LiveRows (k r c w : Int) (v : AV) (L : List (List UInt8)) (cells : List AV) (hv : RowsV v L cells) : FSpec Tryz.prog 3 [imV k r c w v] ⟨boolV true, []⟩ := by
 refine fspec_fzT ?_
 have hp := hv.rd.plain
 have hf := rd_fz hv.rd
 have ho := rd_one hv.rd
 have haw := law23_awake
 have hbi := law23_big k r c w v L cells hv
 have hst := live_Stripes k r c w v L cells hv
 have hro := live_Rows k r c w v L cells hv
 have hds := live_Descs k r c w v L cells hv
 have hnx := live_Next k r c w v L cells hv
 unfold stV at hst
 unfold rwV at hro
 unfold dsV at hds
 have hlen1 : lenE Tryz.prog 33 (.val (.slice none 0 0)) = some (.val (.int .i64 0)) := by kernel_rfl
 have hlen2 : lenE Tryz.prog 29 (.val (.slice none 0 0)) = some (.val (.int .i64 0)) := by kernel_rfl
 cases hb : mayB k r c w && decide (400 < (k + r) * w) with
 | true =>
   rw [hb] at hbi
   unfold imV at hbi ⊢
   clear hst hro hds hnx
   refine ospec_of_body follows Tryz.func3 (by unfold Tryz.f3; rfl) (by unfold Tryz.f3; simp) onceLr (by unfold Tryz.f3; simp) (by kernel_rfl) ?_; unfold Tryz.f3
   simp only [↓pre, simprocAttr, parV, sx, tys3, cellsR, onceLr, bne, postU, postA, postV, storeE, allocE, me0, put_at, push_at, hf, ho, hlen1, hlen2, sr]
   (first | refine call_plain (haw) (by first | rfl | simp only [parV, plQ, *]) ?_ | refine call_pure (haw) (by first | rfl | simp only [parV, plQ, *]) (by intro k; first | rfl | simp only [sq, sr, *]) ?_); simp only [↓pre, simprocAttr, parV, sx, tys3, cellsR, onceLr, bne, postU, postA, postV, storeE, allocE, me0, put_at, push_at, hf, ho, hlen1, hlen2, sr]; (first | refine call_plain (hbi) (by first | rfl | simp only [parV, plQ, *]) ?_ | refine call_pure (hbi) (by first | rfl | simp only [parV, plQ, *]) (by intro k; first | rfl | simp only [sq, sr, *]) ?_); simp only [↓pre, simprocAttr, parV, sx, tys3, cellsR, onceLr, bne, postU, postA, postV, storeE, allocE, me0, put_at, push_at, hf, ho, hlen1, hlen2, sr]
   exact ⟨0, fzT_val⟩
 | false =>
   rw [hb] at hbi
   clear hb
   by_cases hE : lvE k r c w L = 0
   · obtain ⟨hWk, hDW⟩ : wkE k r c w L = 0 ∧ dowF (objE k r c w L) (wkL k r c w L) = 0 := by
       have h := hE
       unfold lvE at h
       split at h
       · rename_i h1
         exact ⟨h1, h⟩
       · contradiction
     obtain ⟨hB, hX⟩ : bkE k r c w L = 0 ∧ entX k r c w L 4 = 0 := by
       have h := hWk
       unfold wkE at h
       split at h
       · rename_i h1
         exact ⟨h1, h⟩
       · contradiction
     obtain ⟨hI, _⟩ := en_ok (entX_all hX (n := 0) (by omega)).2
     rw [if_pos hE] at hst hro
     rw [if_pos hWk] at hds
     rw [if_pos hI, hI] at hnx
     have hbk := live_Buckets k r c w v L cells hv
     unfold bkV at hbk
     rw [if_pos hB] at hbk
     have hlen := lvL_len hE
     have hpos := lvL_pos k r c w L
     have hver : ∀ x ∈ lvL k r c w L, x.2.1 = 2 → x.2.2 < nxN k r c w L L.length + 1 := fun x hx h2 => live_le hE hx h2
     have hdw := wkL_len hWk
     have hD0 : (wkL k r c w L)[0]? = some 0 := rfl
     have hDB := fun i n => wkL_buck hB (i := i) (n := n)
     have hbl := bk_len hB
     obtain ⟨EN, AN, hen, hDE, hAs, hA0, hel, hdl⟩ : ∃ (EN : Nat → List Ent) (AN : Nat → Nat), (∀ n : Nat, n < 4 → ∃ EV, RdSl EV (EN n).length (entCells (EN n)) ∧ FSpec Tryz.prog 14 [imV k r c w v, intV (n : Nat)] ⟨.tup [EV, intV 0], []⟩) ∧ (∀ n j s z, n < 4 → (EN n)[j]? = some (s, z) → (wkL k r c w L)[5 + AN n + j]? = some z) ∧ (∀ n, AN (n + 1) = AN n + (EN n).length) ∧ AN 0 = 0 ∧ (∀ n, n < 4 → (EN n).length ≤ 32768) ∧ (wkL k r c w L).length = 5 + AN 4 := by
       refine ⟨fun n => enL k r c w L (n : Nat), fun n => (entA k r c w L n).length, fun n hn => ⟨_, treeR_rd _ _, ?_⟩, fun n j s z hn h => wkL_ent hB hn h, fun n => entA_succ n, rfl, fun n hn => ?_, wkL_length hB⟩
       · have h := live_Entries k r c w (n : Nat) v L cells hv
         rw [enV_eq, if_pos (entX_all hX hn).2, (entX_all hX hn).2] at h
         exact h
       · obtain ⟨_, _, _, _, _, h6, _⟩ := en_ok (entX_all hX hn).2
         have := long_num (enL k r c w L (n : Nat))
         show (enL k r c w L (n : Nat)).length ≤ 32768
         omega
     obtain ⟨SF, hts, hSL⟩ : ∃ SF : Int → List LiveI, (∀ x ∈ wkL k r c w L, ∃ TV, RdSl TV (SF x).length (liveA (SF x)) ∧ FSpec Tryz.prog 15 [imV k r c w v, intV x] ⟨.tup [TV, intV 0], []⟩) ∧ lvL k r c w L = (wkL k r c w L).flatMap SF := by
       refine ⟨strL k r c w L, fun x hx => ⟨_, liveT_rd _, ?_⟩, rfl⟩
       have h := tree_Stripes k r c w x v L cells hv
       unfold strV17 at h
       rw [if_pos (dowF_at hDW x hx)] at h
       exact h
     have hQr := rowsT_rd (lvL k r c w L)
     have hql := rowsI_len (lvL k r c w L)
     have hqm := rowsI_mem (lvL k r c w L)
     have hqp := rowsI_lt (lvL k r c w L)
     clear hE hWk hDW hB hX hI
     unfold imV at hst hro hds hnx hbk hen hts hbi ⊢
     generalize nxN k r c w L L.length + 1 = NX at *
     generalize wkL k r c w L = DL at *
     generalize bkL k r c w L = BL at *
     generalize lvL k r c w L = SL at *
     generalize rowsT SL = QV at *
     generalize rowsI SL = QL at *
     generalize intsA (List.replicate (SL.length - QL.length) 0) = QX at *
     have hDr : RdSl (.tree DL.length DL.length (intsA DL) false) DL.length (intsA DL) := ⟨.inr (.inr ⟨_, _, rfl, Nat.le_refl _⟩)⟩
     have hRr : RdSl (.tree 4 4 (intsA BL) false) 4 (intsA BL) := ⟨.inr (.inr ⟨_, _, rfl, Nat.le_refl _⟩)⟩
     have hTr : RdSl (.tree SL.length SL.length (liveA SL) false) SL.length (liveA SL) := ⟨.inr (.inr ⟨_, _, rfl, Nat.le_refl _⟩)⟩
     generalize AV.tree DL.length DL.length (intsA DL) false = DV at *
     generalize AV.tree 4 4 (intsA BL) false = BV at *
     generalize AV.tree SL.length SL.length (liveA SL) false = TV at *
     have ham := fun n => law23_among QV QL QX hQr n (by omega)
     have hRl := fun (P : Program) (t : TypeId) (h : (elE P t).isSome = true) => (show lenE P t BV = some (.val (.int .i64 4)) from hRr.len' h)
     have s1 := rd_shift hDr
     have s2 := rd_shift hRr
     have s3 := rd_shift hTr
     have s4 := rd_shift hQr
     have pQV := hQr.plain
     simp only [intV] at hst hro hds hnx hbk hen hts ham
     have a0 := int_at (x := []) hD0
     rw [List.append_nil] at a0
     have hd0 : 0 < DL.length := by omega
     have hd5 : ¬ ((DL.length : Nat) : Int) < 5 := by omega
     have w5 : IntKind.i64.wrap (1 + 4) = 5 := by decide
     have w55 : IntKind.i64.wrap 5 = 5 := by decide
     replace ham := Hid.mk ham
     replace hen := Hid.mk hen
     replace hts := Hid.mk hts
     replace hDE := Hid.mk hDE
     replace hDB := Hid.mk hDB
     replace hAs := Hid.mk hAs
     replace hA0 := Hid.mk hA0
     replace hel := Hid.mk hel
     replace hdl := Hid.mk hdl
     replace hver := Hid.mk hver
     replace hSL := Hid.mk hSL
     replace hqm := Hid.mk hqm
     replace hqp := Hid.mk hqp
     replace hql := Hid.mk hql
     replace hlen := Hid.mk hlen
     replace hdw := Hid.mk hdw
     replace hbl := Hid.mk hbl
     replace hD0 := Hid.mk hD0
     refine ospec_of_body follows Tryz.func3 (by unfold Tryz.f3; rfl) (by unfold Tryz.f3; simp) onceLr (by unfold Tryz.f3; simp) (by kernel_rfl) ?_; unfold Tryz.f3
     simp only [↓pre, simprocAttr, parV, sx, tys3, cellsR, onceLr, bne, postU, postA, postV, storeE, allocE, me0, put_at, push_at, hf, ho, hlen1, hlen2, s1, s2, s3, s4, hDr.len', hRl, hTr.len', hQr.len', sr]
     (first | refine call_plain (haw) (by first | rfl | simp only [parV, plQ, *]) ?_ | refine call_pure (haw) (by first | rfl | simp only [parV, plQ, *]) (by intro k; first | rfl | simp only [sq, sr, *]) ?_); simp only [↓pre, simprocAttr, parV, sx, tys3, cellsR, onceLr, bne, postU, postA, postV, storeE, allocE, me0, put_at, push_at, hf, ho, hlen1, hlen2, s1, s2, s3, s4, hDr.len', hRl, hTr.len', hQr.len', hDr.addr', a0, hd0, hd5, w5, w55, sr]; (first | refine call_plain (hbi) (by first | rfl | simp only [parV, plQ, *]) ?_ | refine call_pure (hbi) (by first | rfl | simp only [parV, plQ, *]) (by intro k; first | rfl | simp only [sq, sr, *]) ?_); simp only [↓pre, simprocAttr, parV, sx, tys3, cellsR, onceLr, bne, postU, postA, postV, storeE, allocE, me0, put_at, push_at, hf, ho, hlen1, hlen2, s1, s2, s3, s4, hDr.len', hRl, hTr.len', hQr.len', hDr.addr', a0, hd0, hd5, w5, w55, sr]; (first | refine call_plain (hst) (by first | rfl | simp only [parV, plQ, *]) ?_ | refine call_pure (hst) (by first | rfl | simp only [parV, plQ, *]) (by intro k; first | rfl | simp only [sq, sr, *]) ?_); simp only [↓pre, simprocAttr, parV, sx, tys3, cellsR, onceLr, bne, postU, postA, postV, storeE, allocE, me0, put_at, push_at, hf, ho, hlen1, hlen2, s1, s2, s3, s4, hDr.len', hRl, hTr.len', hQr.len', hDr.addr', a0, hd0, hd5, w5, w55, sr]; (first | refine call_plain (hro) (by first | rfl | simp only [parV, plQ, *]) ?_ | refine call_pure (hro) (by first | rfl | simp only [parV, plQ, *]) (by intro k; first | rfl | simp only [sq, sr, *]) ?_); simp only [↓pre, simprocAttr, parV, sx, tys3, cellsR, onceLr, bne, postU, postA, postV, storeE, allocE, me0, put_at, push_at, hf, ho, hlen1, hlen2, s1, s2, s3, s4, hDr.len', hRl, hTr.len', hQr.len', hDr.addr', a0, hd0, hd5, w5, w55, sr]; (first | refine call_plain (hds) (by first | rfl | simp only [parV, plQ, *]) ?_ | refine call_pure (hds) (by first | rfl | simp only [parV, plQ, *]) (by intro k; first | rfl | simp only [sq, sr, *]) ?_); simp only [↓pre, simprocAttr, parV, sx, tys3, cellsR, onceLr, bne, postU, postA, postV, storeE, allocE, me0, put_at, push_at, hf, ho, hlen1, hlen2, s1, s2, s3, s4, hDr.len', hRl, hTr.len', hQr.len', hDr.addr', a0, hd0, hd5, w5, w55, sr]; (first | refine call_plain (hnx) (by first | rfl | simp only [parV, plQ, *]) ?_ | refine call_pure (hnx) (by first | rfl | simp only [parV, plQ, *]) (by intro k; first | rfl | simp only [sq, sr, *]) ?_); simp only [↓pre, simprocAttr, parV, sx, tys3, cellsR, onceLr, bne, postU, postA, postV, storeE, allocE, me0, put_at, push_at, hf, ho, hlen1, hlen2, s1, s2, s3, s4, hDr.len', hRl, hTr.len', hQr.len', hDr.addr', a0, hd0, hd5, w5, w55, sr]; (first | refine call_plain (hbk) (by first | rfl | simp only [parV, plQ, *]) ?_ | refine call_pure (hbk) (by first | rfl | simp only [parV, plQ, *]) (by intro k; first | rfl | simp only [sq, sr, *]) ?_); simp only [↓pre, simprocAttr, parV, sx, tys3, cellsR, onceLr, bne, postU, postA, postV, storeE, allocE, me0, put_at, push_at, hf, ho, hlen1, hlen2, s1, s2, s3, s4, hDr.len', hRl, hTr.len', hQr.len', hDr.addr', a0, hd0, hd5, w5, w55, sr]
     clear haw hbi hst hro hds hnx hbk a0
     rw [codeW_loop]
     refine loop_cut (fun e' m' => e' 1 = .tptr 0 [.val (.int .i64 k), .val (.int .i64 r), .val (.int .i64 c), .val (.int .i64 w), v] ∧ e' 4 = TV ∧ e' 6 = QV ∧ e' 8 = DV ∧ e' 10 = intV NX ∧ e' 12 = BV) (fun e' m' hR => ?_) ?_
     · obtain ⟨e1, e4, e6, e8, e10, e12⟩ := hR
       simp only [↓pre, simprocAttr, parV, sx, tys3, cellsR, onceLr, bne, postU, postA, postV, storeE, allocE, me0, put_at, push_at, hf, ho, hlen1, hlen2, s1, s2, s3, s4, hDr.len', hRl, hTr.len', hQr.len', e1, e4, e6, e8, e10, e12, w5, w55, sr]
       rw [codeW_loop]
       refine loop_cut (fun e' m' => e' 1 = .tptr 0 [.val (.int .i64 k), .val (.int .i64 r), .val (.int .i64 c), .val (.int .i64 w), v] ∧ e' 4 = TV ∧ e' 6 = QV ∧ e' 8 = DV ∧ e' 10 = intV NX ∧ e' 15 = intV (DL.length : Nat)) (fun e' m' hR => ?_) ?_
       · clear e1 e4 e6 e8 e10 e12
         obtain ⟨e1, e4, e6, e8, e10, e15⟩ := hR
         simp only [↓pre, simprocAttr, parV, sx, tys3, cellsR, onceLr, bne, postU, postA, postV, storeE, allocE, me0, put_at, push_at, hf, ho, hlen1, hlen2, s1, s2, s3, s4, hDr.len', hRl, hTr.len', hQr.len', e1, e4, e6, e8, e10, e15, sr]
         rw [codeW_loop]
         refine loop_cut (fun e' m' => e' 4 = TV ∧ e' 6 = QV ∧ e' 8 = DV ∧ e' 10 = intV NX ∧ e' 15 = intV (DL.length : Nat) ∧ ∃ b, e' 20 = .sl b 0 SL.length SL.length false ∧ m'.at_ b = some ⟨liveA SL, 45, .flat, true⟩) (fun e' m' hR => ?_) ?_
         · clear e1 e4 e6 e8 e10 e15
           obtain ⟨e4, e6, e8, e10, e15, b, e20, hbm⟩ := hR
           have hls : lenE Tryz.prog 29 (.sl b 0 SL.length SL.length false) = some (.val (.int .i64 (SL.length : Nat))) := by
             have h1 : elE Tryz.prog 29 = some 45 := by kernel_rfl
             simp [lenE, h1, slLen, intV]
           simp only [↓pre, simprocAttr, parV, sx, tys3, cellsR, onceLr, bne, postU, postA, postV, storeE, allocE, me0, put_at, push_at, hf, ho, hlen1, hlen2, s1, s2, s3, s4, hDr.len', hRl, hTr.len', hQr.len', e4, e6, e8, e10, e15, e20, hls, sr]
           rw [codeW_loop]
           refine loop_cut (fun e' m' => e' 4 = TV ∧ e' 6 = QV) (fun e' m' hR => ?_) ?_
           · clear e4 e6 e8 e10 e15 e20 hbm
             obtain ⟨e4, e6⟩ := hR
             simp only [↓pre, simprocAttr, parV, sx, tys3, cellsR, onceLr, bne, postU, postA, postV, storeE, allocE, me0, put_at, push_at, hf, ho, hlen1, hlen2, s1, s2, s3, s4, hDr.len', hRl, hTr.len', hQr.len', e4, e6, sr]
             rw [codeW_loop]
             refine loop_intro (fun q e m => ∃ i, q + i = QL.length ∧ e 4 = TV ∧ e 6 = QV ∧ e 25 = intV (i : Nat)) QL.length ⟨0, by omega, e4, e6, rfl⟩ ?_
             clear e4 e6
             rintro q e m ⟨i, hq, e4, e6, e25⟩
             replace hq := Hid.mk hq
             by_cases hlt : i < QL.length
             · have hlt' : ((i : Nat) : Int) < ((QL.length : Nat) : Int) := by omega
               have wi := wrap_succ (n := i) (by have := hql.out; have := hlen.out; omega)
               obtain ⟨n, hn⟩ : ∃ n, QL[i]? = some n := ⟨_, List.getElem?_eq_getElem hlt⟩
               have hna := int_at (x := QX) hn
               obtain ⟨y, hym, hyn⟩ := (hqm.out n).1 (List.mem_of_getElem? hn)
               replace hym := Hid.mk hym
               replace hyn := Hid.mk hyn
               simp only [↓pre, simprocAttr, parV, sx, tys3, cellsR, onceLr, bne, postU, postA, postV, storeE, allocE, me0, put_at, push_at, hf, ho, hlen1, hlen2, s1, s2, s3, s4, hDr.len', hRl, hTr.len', hQr.len', e4, e6, e25, hlt', sr]
               rw [codeW_loop]
               refine loop_cut (fun e' m' => e' 4 = TV ∧ e' 6 = QV ∧ e' 25 = intV (i : Nat) ∧ e' 26 = boolV true) (fun e' m' hR => ?_) ?_
               · clear e4 e6 e25
                 obtain ⟨e4, e6, e25, e26⟩ := hR
                 by_cases h0 : i = 0
                 · subst h0
                   have wi0 : IntKind.i64.wrap (0 + 1) = 1 := by decide
                   have wi1 : IntKind.i64.wrap 1 = 1 := by decide
                   clear hlt'
                   replace hn := Hid.mk hn
                   simp only [↓pre, simprocAttr, parV, sx, tys3, cellsR, onceLr, bne, postU, postA, postV, storeE, allocE, me0, put_at, push_at, hf, ho, hlen1, hlen2, s1, s2, s3, s4, hDr.len', hRl, hTr.len', hQr.len', e4, e6, e25, e26, wi0, wi1, Int.natCast_zero, Int.cast_ofNat_Int, Int.lt_irrefl, sr]
                   exact ⟨q - 1, by have := hq.out; omega, 0 + 1, by have := hq.out; omega, rfl⟩
                 · have h0' : (0 : Int) < (i : Nat) := by omega
                   have wp : IntKind.i64.wrap (((i : Nat) : Int) - 1) = ((i - 1 : Nat) : Int) := by rw [wrap_id (by omega) (by have := hql.out; have := hlen.out; omega)]; omega
                   have hlt1 : i - 1 < QL.length := by omega
                   obtain ⟨n1, hn1⟩ : ∃ n, QL[i - 1]? = some n := ⟨_, List.getElem?_eq_getElem hlt1⟩
                   have hna1 := int_at (x := QX) hn1
                   have hord : ¬ n ≤ n1 := by
                     obtain ⟨q1, r1⟩ := List.getElem?_eq_some_iff.1 hn
                     obtain ⟨q2, r2⟩ := List.getElem?_eq_some_iff.1 hn1
                     have := List.pairwise_iff_getElem.1 hqp.out (i - 1) i q2 q1 (by omega)
                     omega
                   replace hn := Hid.mk hn
                   replace hn1 := Hid.mk hn1
                   simp only [↓pre, simprocAttr, parV, sx, tys3, cellsR, onceLr, bne, postU, postA, postV, storeE, allocE, me0, put_at, push_at, hf, ho, hlen1, hlen2, s1, s2, s3, s4, hDr.len', hRl, hTr.len', hQr.len', e4, e6, e25, e26, hlt, hQr.addr', hna, h0', wp, hlt1, hna1, hord, wi, sr]
                   exact ⟨q - 1, by have := hq.out; omega, i + 1, by have := hq.out; omega, rfl⟩
               · refine loop_intro (fun q e m => ∃ j bb, q + j = SL.length ∧ e 4 = TV ∧ e 6 = QV ∧ e 25 = intV (i : Nat) ∧ e 26 = boolV bb ∧ e 27 = intV (j : Nat) ∧ Hid (bb = true ∨ ∀ j' x, j' < j → SL[j']? = some x → x.1 ≠ n)) SL.length ⟨0, false, by omega, e4, e6, e25, rfl, rfl, ⟨.inr fun j' n h => by omega⟩⟩ ?_
                 clear e4 e6 e25
                 rintro q2 e m ⟨j, bb, hq2, e4, e6, e25, e26, e27, hJ⟩
                 replace hq2 := Hid.mk hq2
                 by_cases hl2 : j < SL.length
                 · have hl2' : ((j : Nat) : Int) < ((SL.length : Nat) : Int) := by omega
                   have wj := wrap_succ (n := j) (by have := hlen.out; omega)
                   obtain ⟨x, hx⟩ : ∃ x, SL[j]? = some x := ⟨_, List.getElem?_eq_getElem hl2⟩
                   obtain ⟨ha, hb, hc3⟩ := liveA_at SL j x hx
                   have hnext : ∀ b2 : Bool, b2 = (bb || decide (x.1 = n)) → (b2 = true ∨ ∀ j' x', j' < j + 1 → SL[j']? = some x' → x'.1 ≠ n) := fun b2 h2 => by
                     cases bb with
                     | true => exact .inl (by rw [h2]; rfl)
                     | false =>
                       by_cases he : x.1 = n
                       · exact .inl (by rw [h2, decide_eq_true he]; rfl)
                       · refine .inr fun j' n' hj' hn' => ?_
                         rcases hJ.out with h | h
                         · cases h
                         · by_cases e : j' = j
                           · subst e; rw [hx] at hn'; cases hn'; exact he
                           · exact h j' n' (by omega) hn'
                   replace hx := Hid.mk hx
                   replace hnext := Hid.mk hnext
                   cases bb with
                   | true =>
                     simp only [↓pre, simprocAttr, parV, sx, tys3, cellsR, onceLr, bne, postU, postA, postV, storeE, allocE, me0, put_at, push_at, hf, ho, hlen1, hlen2, s1, s2, s3, s4, hDr.len', hRl, hTr.len', hQr.len', e4, e6, e25, e26, e27, hl2', hl2, wj, sr]
                     exact ⟨q2 - 1, by have := hq2.out; omega, j + 1, _, by have := hq2.out; omega, rfl, rfl, ⟨.inl rfl⟩⟩
                   | false =>
                     simp only [↓pre, simprocAttr, parV, sx, tys3, cellsR, onceLr, bne, postU, postA, postV, storeE, allocE, me0, put_at, push_at, hf, ho, hlen1, hlen2, s1, s2, s3, s4, hDr.len', hRl, hTr.len', hQr.len', e4, e6, e25, e26, e27, hl2', hl2, wj, hQr.addr', hlt, hna, hTr.addr', ha, sr]
                     exact ⟨q2 - 1, by have := hq2.out; omega, j + 1, _, by have := hq2.out; omega, rfl, rfl, ⟨hnext.out _ (by simp)⟩⟩
                 · have hl2' : ¬ ((j : Nat) : Int) < ((SL.length : Nat) : Int) := by omega
                   have hb1 : bb = true := by
                     rcases hJ.out with h | h
                     · exact h
                     · obtain ⟨j', hj'⟩ := List.getElem?_of_mem hym.out
                       exact absurd hyn.out (h j' _ (by have := (List.getElem?_eq_some_iff.1 hj').1; omega) hj')
                   subst hb1
                   simp only [↓pre, simprocAttr, parV, sx, tys3, cellsR, onceLr, bne, postU, postA, postV, storeE, allocE, me0, put_at, push_at, hf, ho, hlen1, hlen2, s1, s2, s3, s4, hDr.len', hRl, hTr.len', hQr.len', e4, e6, e25, e26, e27, hl2', sr]
                   done
             · have hlt' : ¬ ((i : Nat) : Int) < ((QL.length : Nat) : Int) := by omega
               simp only [↓pre, simprocAttr, parV, sx, tys3, cellsR, onceLr, bne, postU, postA, postV, storeE, allocE, me0, put_at, push_at, hf, ho, hlen1, hlen2, s1, s2, s3, s4, hDr.len', hRl, hTr.len', hQr.len', e4, e6, e25, hlt', sr]
               exact ⟨0, fzT_val⟩
           · refine loop_intro (fun q e m => ∃ i, q + i = SL.length ∧ e 4 = TV ∧ e 6 = QV ∧ e 10 = intV NX ∧ e 20 = .sl b 0 SL.length SL.length false ∧ e 24 = intV (i : Nat) ∧ m.at_ b = some ⟨liveA SL, 45, .flat, true⟩) SL.length ⟨0, by omega, e4, e6, e10, e20, rfl, hbm⟩ ?_
             clear e4 e6 e8 e10 e15 e20 hbm
             rintro q e m ⟨i, hq, e4, e6, e10, e20, e24, hbm⟩
             replace hq := Hid.mk hq
             by_cases hlt : i < SL.length
             · have hlt' : ((i : Nat) : Int) < ((SL.length : Nat) : Int) := by omega
               have wi := wrap_succ (n := i) (by have := hlen.out; omega)
               obtain ⟨x, hx⟩ : ∃ x, SL[i]? = some x := ⟨_, List.getElem?_eq_getElem hlt⟩
               obtain ⟨ha, hb, hc3⟩ := liveA_at SL i x hx
               obtain ⟨ht, htl⟩ := take3 ha hb hc3
               have hxm := List.mem_of_getElem? hx
               have hv2 := hver.out x hxm
               have hamn := ham.out x.1
               rw [decide_eq_true ((hqm.out x.1).2 ⟨x, hxm, rfl⟩)] at hamn
               simp only [boolV] at hamn
               have adr : addrE Tryz.prog 29 i (.sl b 0 SL.length SL.length false) = some (.ptr b (0 + i * 3)) := by
                 have h1 : elE Tryz.prog 29 = some 45 := by kernel_rfl
                 have h2 : szE Tryz.prog 45 = some 3 := by kernel_rfl
                 simp [addrE, h1, h2, hlt]
               replace hx := Hid.mk hx
               replace hxm := Hid.mk hxm
               by_cases hk : x.2.1 = 2
               · have hnv : ¬ NX ≤ x.2.2 := by have := hv2 hk; omega
                 replace hv2 := Hid.mk hv2
                 simp only [↓pre, simprocAttr, parV, sx, tys3, cellsR, onceLr, bne, postU, postA, postV, storeE, allocE, me0, put_at, push_at, hf, ho, hlen1, hlen2, s1, s2, s3, s4, hDr.len', hRl, hTr.len', hQr.len', e4, e6, e10, e20, e24, hlt', hlt, hTr.addr', adr, hbm, ha, hb, hc3, ht, htl, live_same, hk, hnv, sr]
                 (first | refine call_plain (hamn) (by first | rfl | simp only [parV, plQ, *]) ?_ | refine call_pure (hamn) (by first | rfl | simp only [parV, plQ, *]) (by intro k; first | rfl | simp only [sq, sr, *]) ?_); simp only [↓pre, simprocAttr, parV, sx, tys3, cellsR, onceLr, bne, postU, postA, postV, storeE, allocE, me0, put_at, push_at, hf, ho, hlen1, hlen2, s1, s2, s3, s4, hDr.len', hRl, hTr.len', hQr.len', e4, e6, e10, e20, e24, wi, sr]
                 exact ⟨q - 1, by have := hq.out; omega, i + 1, by have := hq.out; omega, rfl, hbm⟩
               · replace hv2 := Hid.mk hv2
                 simp only [↓pre, simprocAttr, parV, sx, tys3, cellsR, onceLr, bne, postU, postA, postV, storeE, allocE, me0, put_at, push_at, hf, ho, hlen1, hlen2, s1, s2, s3, s4, hDr.len', hRl, hTr.len', hQr.len', e4, e6, e10, e20, e24, hlt', hlt, hTr.addr', adr, hbm, ha, hb, hc3, ht, htl, live_same, hk, sr]
                 (first | refine call_plain (hamn) (by first | rfl | simp only [parV, plQ, *]) ?_ | refine call_pure (hamn) (by first | rfl | simp only [parV, plQ, *]) (by intro k; first | rfl | simp only [sq, sr, *]) ?_); simp only [↓pre, simprocAttr, parV, sx, tys3, cellsR, onceLr, bne, postU, postA, postV, storeE, allocE, me0, put_at, push_at, hf, ho, hlen1, hlen2, s1, s2, s3, s4, hDr.len', hRl, hTr.len', hQr.len', e4, e6, e10, e20, e24, wi, sr]
                 exact ⟨q - 1, by have := hq.out; omega, i + 1, by have := hq.out; omega, rfl, hbm⟩
             · have hlt' : ¬ ((i : Nat) : Int) < ((SL.length : Nat) : Int) := by omega
               simp only [↓pre, simprocAttr, parV, sx, tys3, cellsR, onceLr, bne, postU, postA, postV, storeE, allocE, me0, put_at, push_at, hf, ho, hlen1, hlen2, s1, s2, s3, s4, hDr.len', hRl, hTr.len', hQr.len', e4, e6, e10, e20, e24, hlt', sr]
               done
         · refine loop_intro (fun q e m => ∃ i, q + i = DL.length ∧ e 1 = .tptr 0 [.val (.int .i64 k), .val (.int .i64 r), .val (.int .i64 c), .val (.int .i64 w), v] ∧ e 4 = TV ∧ e 6 = QV ∧ e 8 = DV ∧ e 10 = intV NX ∧ e 15 = intV (DL.length : Nat) ∧ e 21 = intV (i : Nat) ∧ Hid (OwnK .flat m 45 3 (e 20) ((DL.take i).flatMap SF).length (liveA ((DL.take i).flatMap SF)))) DL.length ⟨0, by omega, e1, e4, e6, e8, e10, e15, rfl, ⟨own_nil⟩⟩ ?_
           clear e1 e4 e6 e8 e10 e15
           rintro q e m ⟨i, hq, e1, e4, e6, e8, e10, e15, e21, hJ⟩
           replace hq := Hid.mk hq
           generalize hv20 : e 20 = v20 at *
           by_cases hlt : i < DL.length
           · have hlt' : ((i : Nat) : Int) < ((DL.length : Nat) : Int) := by omega
             have wi := wrap_succ (n := i) (by have := hdw.out; omega)
             obtain ⟨x, hx⟩ : ∃ x, DL[i]? = some x := ⟨_, List.getElem?_eq_getElem hlt⟩
             have a1 := int_at (x := []) hx
             rw [List.append_nil] at a1
             obtain ⟨UV, hUr, hti⟩ := hts.out x (List.mem_of_getElem? hx)
             have hfs := flat_succ (f := SF) hx
             have hft := flat_take SF DL (i + 1)
             rw [← hSL.out, hfs, List.length_append] at hft
             have s6 := rd_shift hUr
             have o6 := rd_one hUr
             have f6 := rd_fz hUr
             have hul := liveA_len (SF x)
             have hsr : ∀ m, srcE Tryz.prog 45 3 m UV = some (liveA (SF x), (SF x).length) := fun m => by rw [hUr.src (by omega), List.take_of_length_le (by omega)]
             replace hx := Hid.mk hx
             replace hfs := Hid.mk hfs
             replace hft := Hid.mk hft
             replace hul := Hid.mk hul
             replace hsr := Hid.mk hsr
             simp only [↓pre, simprocAttr, parV, sx, tys3, cellsR, onceLr, bne, postU, postA, postV, storeE, allocE, me0, put_at, push_at, hf, ho, hlen1, hlen2, s1, s2, s3, s4, hDr.len', hRl, hTr.len', hQr.len', e1, e4, e6, e8, e10, e15, e21, hv20, hlt', hlt, hDr.addr', a1, s6, o6, f6, sr]
             (first | refine call_plain (hti) (by first | rfl | simp only [parV, plQ, *]) ?_ | refine call_pure (hti) (by first | rfl | simp only [parV, plQ, *]) (by intro k; first | rfl | simp only [sq, sr, *]) ?_); simp only [↓pre, simprocAttr, parV, sx, tys3, cellsR, onceLr, bne, postU, postA, postV, storeE, allocE, me0, put_at, push_at, hf, ho, hlen1, hlen2, s1, s2, s3, s4, hDr.len', hRl, hTr.len', hQr.len', e1, e4, e6, e8, e10, e15, e21, hv20, hlt', hlt, hDr.addr', a1, s6, o6, f6, sr]
             refine app_rule (kd := .flat) (sz := 3) (y := 24) (zl := [.int .i64 0, .int .u8 0, .int .i64 0]) (by kernel_rfl) hJ.out (by kernel_rfl) (by kernel_rfl) (by kernel_rfl) rfl (hsr.out _) hul.out (by have := hft.out; have := hlen.out; omega) (by have := hft.out; have := hlen.out; omega) ?_
             intro lv' m' ho' hn'
             rw [← liveA_append, ← hfs.out] at ho'
             replace ho' := Hid.mk ho'
             simp only [↓pre, simprocAttr, parV, sx, tys3, cellsR, onceLr, bne, postU, postA, postV, storeE, allocE, me0, put_at, push_at, hf, ho, hlen1, hlen2, s1, s2, s3, s4, hDr.len', hRl, hTr.len', hQr.len', e1, e4, e6, e8, e10, e15, e21, hv20, wi, sr]
             exact ⟨q - 1, by have := hq.out; omega, i + 1, by have := hq.out; omega, rfl, ⟨by have h := ho'.out; rw [← List.length_append, ← hfs.out] at h; exact h⟩⟩
           · have hlt' : ¬ ((i : Nat) : Int) < ((DL.length : Nat) : Int) := by omega
             have hi : i = DL.length := by have := hq.out; omega
             have hown := hJ.out
             rw [hi, List.take_length, ← hSL.out] at hown
             obtain ⟨b, rfl, hbm, _⟩ := hown.sl hpos
             replace hown := Hid.mk hown
             simp only [↓pre, simprocAttr, parV, sx, tys3, cellsR, onceLr, bne, postU, postA, postV, storeE, allocE, me0, put_at, push_at, hf, ho, hlen1, hlen2, s1, s2, s3, s4, hDr.len', hRl, hTr.len', hQr.len', e1, e4, e6, e8, e10, e15, e21, hv20, hlt', sr]
             exact ⟨b, rfl, hbm⟩
       · refine loop_intro (fun q e m => ∃ i, q + i = 4 ∧ e 1 = .tptr 0 [.val (.int .i64 k), .val (.int .i64 r), .val (.int .i64 c), .val (.int .i64 w), v] ∧ e 4 = TV ∧ e 6 = QV ∧ e 8 = DV ∧ e 10 = intV NX ∧ e 12 = BV ∧ e 15 = intV ((5 + AN i : Nat) : Int) ∧ e 16 = intV (i : Nat)) 4 ⟨0, by omega, e1, e4, e6, e8, e10, e12, by rw [hA0.out]; rfl, rfl⟩ ?_
         clear e1 e4 e6 e8 e10 e12
         rintro q e m ⟨i, hq, e1, e4, e6, e8, e10, e12, e15, e16⟩
         replace hq := Hid.mk hq
         by_cases hlt : i < 4
         · have hlt' : ((i : Nat) : Int) < 4 := by omega
           have wi := wrap_succ (n := i) (by omega)
           obtain ⟨EV, hEr, heni⟩ := hen.out i hlt
           have heli := hel.out i hlt
           have hAi := hAs.out i
           have hEi := hDE.out i
           have s5 := rd_shift hEr
           have o5 := rd_one hEr
           have f5 := rd_fz hEr
           generalize EN i = EL at *
           replace heli := Hid.mk heli
           replace hAi := Hid.mk hAi
           replace hEi := Hid.mk hEi
           simp only [↓pre, simprocAttr, parV, sx, tys3, cellsR, onceLr, bne, postU, postA, postV, storeE, allocE, me0, put_at, push_at, hf, ho, hlen1, hlen2, s1, s2, s3, s4, hDr.len', hRl, hTr.len', hQr.len', e1, e4, e6, e8, e10, e12, e15, e16, hlt', s5, o5, f5, sr]
           (first | refine call_plain (heni) (by first | rfl | simp only [parV, plQ, *]) ?_ | refine call_pure (heni) (by first | rfl | simp only [parV, plQ, *]) (by intro k; first | rfl | simp only [sq, sr, *]) ?_); simp only [↓pre, simprocAttr, parV, sx, tys3, cellsR, onceLr, bne, postU, postA, postV, storeE, allocE, me0, put_at, push_at, hf, ho, hlen1, hlen2, s1, s2, s3, s4, hDr.len', hRl, hTr.len', hQr.len', e1, e4, e6, e8, e10, e12, e15, e16, hlt', s5, o5, f5, sr]
           rw [codeW_loop]
           refine loop_cut2 (fun e' m' => e' 1 = .tptr 0 [.val (.int .i64 k), .val (.int .i64 r), .val (.int .i64 c), .val (.int .i64 w), v] ∧ e' 4 = TV ∧ e' 6 = QV ∧ e' 8 = DV ∧ e' 10 = intV NX ∧ e' 12 = BV ∧ e' 15 = intV ((5 + AN (i + 1) : Nat) : Int) ∧ e' 16 = intV (i : Nat)) (fun e' m' hR => ?_) ?_
           · clear e1 e4 e6 e8 e10 e12 e15 e16
             obtain ⟨e1, e4, e6, e8, e10, e12, e15, e16⟩ := hR
             simp only [↓pre, simprocAttr, parV, sx, tys3, cellsR, onceLr, bne, postU, postA, postV, storeE, allocE, me0, put_at, push_at, hf, ho, hlen1, hlen2, s1, s2, s3, s4, hDr.len', hRl, hTr.len', hQr.len', e1, e4, e6, e8, e10, e12, e15, e16, wi, sr]
             exact ⟨q - 1, by have := hq.out; omega, i + 1, by have := hq.out; omega, rfl, rfl⟩
           · refine loop_intro (fun q e m => ∃ j, q + j = EL.length ∧ e 1 = .tptr 0 [.val (.int .i64 k), .val (.int .i64 r), .val (.int .i64 c), .val (.int .i64 w), v] ∧ e 4 = TV ∧ e 6 = QV ∧ e 8 = DV ∧ e 10 = intV NX ∧ e 12 = BV ∧ e 15 = intV ((5 + AN i + j : Nat) : Int) ∧ e 16 = intV (i : Nat) ∧ e 17 = EV ∧ e 19 = intV (j : Nat)) EL.length ⟨0, by omega, e1, e4, e6, e8, e10, e12, e15, e16, rfl, rfl⟩ ?_
             clear e1 e4 e6 e8 e10 e12 e15 e16
             rintro q2 e m ⟨j, hq2, e1, e4, e6, e8, e10, e12, e15, e16, e17, e19⟩
             replace hq2 := Hid.mk hq2
             by_cases hl2 : j < EL.length
             · have hl2' : ((j : Nat) : Int) < ((EL.length : Nat) : Int) := by omega
               have wj := wrap_succ (n := j) (by have := heli.out; omega)
               obtain ⟨u, z, hu⟩ : ∃ u z, EL[j]? = some (u, z) := ⟨_, _, List.getElem?_eq_getElem hl2⟩
               obtain ⟨c1, c2, c3, c4⟩ := ent_at (x := []) hu
               rw [List.append_nil] at c1 c2 c3 c4
               have hd := hEi.out j u z hlt hu
               have hdL := (List.getElem?_eq_some_iff.1 hd).1
               have hdL' : ¬ ((DL.length : Nat) : Int) ≤ ((5 + AN i + j : Nat) : Int) := by omega
               have a1 := int_at (x := []) hd
               rw [List.append_nil] at a1
               have wa := wrap_succ (n := 5 + AN i + j) (by have := hdw.out; omega)
               replace hu := Hid.mk hu
               replace hd := Hid.mk hd
               simp only [↓pre, simprocAttr, parV, sx, tys3, cellsR, onceLr, bne, postU, postA, postV, storeE, allocE, me0, put_at, push_at, hf, ho, hlen1, hlen2, s1, s2, s3, s4, hDr.len', hRl, hTr.len', hQr.len', e1, e4, e6, e8, e10, e12, e15, e16, e17, e19, hl2', hl2, hDr.addr', hEr.len', hEr.addr', hdL, hdL', a1, c1, c2, c3, c4, wa, wj, sr]
               exact ⟨q2 - 1, by have := hq2.out; omega, j + 1, by have := hq2.out; omega, by rw [show 5 + AN i + (j + 1) = 5 + AN i + j + 1 by omega], rfl⟩
             · have hl2' : ¬ ((j : Nat) : Int) < ((EL.length : Nat) : Int) := by omega
               simp only [↓pre, simprocAttr, parV, sx, tys3, cellsR, onceLr, bne, postU, postA, postV, storeE, allocE, me0, put_at, push_at, hf, ho, hlen1, hlen2, s1, s2, s3, s4, hDr.len', hRl, hTr.len', hQr.len', e1, e4, e6, e8, e10, e12, e15, e16, e17, e19, hl2', hEr.len', sr]
               rw [show 5 + AN i + j = 5 + AN (i + 1) by have := hq2.out; have := hAi.out; omega]
         · have hlt' : ¬ ((i : Nat) : Int) < 4 := by omega
           have hi : i = 4 := by have := hq.out; omega
           subst hi
           simp only [↓pre, simprocAttr, parV, sx, tys3, cellsR, onceLr, bne, postU, postA, postV, storeE, allocE, me0, put_at, push_at, hf, ho, hlen1, hlen2, s1, s2, s3, s4, hDr.len', hRl, hTr.len', hQr.len', e1, e4, e6, e8, e10, e12, e15, e16, hlt', sr]
           rw [hdl.out]
     · refine loop_intro (fun q e m => ∃ i, q + i = 4 ∧ e 1 = .tptr 0 [.val (.int .i64 k), .val (.int .i64 r), .val (.int .i64 c), .val (.int .i64 w), v] ∧ e 4 = TV ∧ e 6 = QV ∧ e 8 = DV ∧ e 10 = intV NX ∧ e 12 = BV ∧ e 14 = intV (i : Nat)) 4 ⟨0, by omega, rfl, rfl, rfl, rfl, rfl, rfl, rfl⟩ ?_
       rintro q e m ⟨i, hq, e1, e4, e6, e8, e10, e12, e14⟩
       replace hq := Hid.mk hq
       by_cases hlt : i < 4
       · have hlt' : ((i : Nat) : Int) < 4 := by omega
         have wi := wrap_succ (n := i) (by omega)
         have wi1 : IntKind.i64.wrap (1 + ((i : Nat) : Int)) = ((1 + i : Nat) : Int) := by rw [wrap_id (by omega) (by omega)]; omega
         obtain ⟨n, hn⟩ : ∃ n, BL[i]? = some n := ⟨_, List.getElem?_eq_getElem (by rw [hbl.out]; exact hlt)⟩
         have hd := hDB.out i n hn
         have hdL := (List.getElem?_eq_some_iff.1 hd).1
         have a1 := int_at (x := []) hd
         have a2 := int_at (x := []) hn
         rw [List.append_nil] at a1 a2
         replace hn := Hid.mk hn
         replace hd := Hid.mk hd
         simp only [↓pre, simprocAttr, parV, sx, tys3, cellsR, onceLr, bne, postU, postA, postV, storeE, allocE, me0, put_at, push_at, hf, ho, hlen1, hlen2, s1, s2, s3, s4, hDr.len', hRl, hTr.len', hQr.len', e1, e4, e6, e8, e10, e12, e14, hlt', hlt, wi1, hDr.addr', hRr.addr', hdL, a1, a2, wi, sr]
         exact ⟨q - 1, by have := hq.out; omega, i + 1, by have := hq.out; omega, rfl⟩
       · have hlt' : ¬ ((i : Nat) : Int) < 4 := by omega
         simp only [↓pre, simprocAttr, parV, sx, tys3, cellsR, onceLr, bne, postU, postA, postV, storeE, allocE, me0, put_at, push_at, hf, ho, hlen1, hlen2, s1, s2, s3, s4, hDr.len', hRl, hTr.len', hQr.len', e1, e4, e6, e8, e10, e12, e14, hlt', sr]
   · rw [if_neg hE] at hst hro
     generalize (if imE k r c w L = 0 then nxN k r c w L L.length + 1 else 0) = NX at hnx
     unfold nilS at hst hro hds
     unfold imV at hst hro hds hnx hbi ⊢
     simp only [intV] at hst hro hds hnx
     by_cases hW : wkE k r c w L = 0
     · rw [if_pos hW] at hds
       generalize (wkL k r c w L) = DL at hds
       have hDr : RdSl (.tree DL.length DL.length (intsA DL) false) DL.length (intsA DL) := ⟨.inr (.inr ⟨_, _, rfl, Nat.le_refl _⟩)⟩
       generalize AV.tree DL.length DL.length (intsA DL) false = DV at *
       have s1 := rd_shift hDr
       refine ospec_of_body follows Tryz.func3 (by unfold Tryz.f3; rfl) (by unfold Tryz.f3; simp) onceLr (by unfold Tryz.f3; simp) (by kernel_rfl) ?_; unfold Tryz.f3
       simp only [↓pre, simprocAttr, parV, sx, tys3, cellsR, onceLr, bne, postU, postA, postV, storeE, allocE, me0, put_at, push_at, hf, ho, hlen1, hlen2, sr]
       (first | refine call_plain (haw) (by first | rfl | simp only [parV, plQ, *]) ?_ | refine call_pure (haw) (by first | rfl | simp only [parV, plQ, *]) (by intro k; first | rfl | simp only [sq, sr, *]) ?_); simp only [↓pre, simprocAttr, parV, sx, tys3, cellsR, onceLr, bne, postU, postA, postV, storeE, allocE, me0, put_at, push_at, hf, ho, hlen1, hlen2, hE, s1, sr]; (first | refine call_plain (hbi) (by first | rfl | simp only [parV, plQ, *]) ?_ | refine call_pure (hbi) (by first | rfl | simp only [parV, plQ, *]) (by intro k; first | rfl | simp only [sq, sr, *]) ?_); simp only [↓pre, simprocAttr, parV, sx, tys3, cellsR, onceLr, bne, postU, postA, postV, storeE, allocE, me0, put_at, push_at, hf, ho, hlen1, hlen2, hE, s1, sr]; (first | refine call_plain (hst) (by first | rfl | simp only [parV, plQ, *]) ?_ | refine call_pure (hst) (by first | rfl | simp only [parV, plQ, *]) (by intro k; first | rfl | simp only [sq, sr, *]) ?_); simp only [↓pre, simprocAttr, parV, sx, tys3, cellsR, onceLr, bne, postU, postA, postV, storeE, allocE, me0, put_at, push_at, hf, ho, hlen1, hlen2, hE, s1, sr]; (first | refine call_plain (hro) (by first | rfl | simp only [parV, plQ, *]) ?_ | refine call_pure (hro) (by first | rfl | simp only [parV, plQ, *]) (by intro k; first | rfl | simp only [sq, sr, *]) ?_); simp only [↓pre, simprocAttr, parV, sx, tys3, cellsR, onceLr, bne, postU, postA, postV, storeE, allocE, me0, put_at, push_at, hf, ho, hlen1, hlen2, hE, s1, sr]; (first | refine call_plain (hds) (by first | rfl | simp only [parV, plQ, *]) ?_ | refine call_pure (hds) (by first | rfl | simp only [parV, plQ, *]) (by intro k; first | rfl | simp only [sq, sr, *]) ?_); simp only [↓pre, simprocAttr, parV, sx, tys3, cellsR, onceLr, bne, postU, postA, postV, storeE, allocE, me0, put_at, push_at, hf, ho, hlen1, hlen2, hE, s1, sr]; (first | refine call_plain (hnx) (by first | rfl | simp only [parV, plQ, *]) ?_ | refine call_pure (hnx) (by first | rfl | simp only [parV, plQ, *]) (by intro k; first | rfl | simp only [sq, sr, *]) ?_); simp only [↓pre, simprocAttr, parV, sx, tys3, cellsR, onceLr, bne, postU, postA, postV, storeE, allocE, me0, put_at, push_at, hf, ho, hlen1, hlen2, hE, s1, sr]
       exact ⟨0, fzT_val⟩
     · rw [if_neg hW] at hds
       refine ospec_of_body follows Tryz.func3 (by unfold Tryz.f3; rfl) (by unfold Tryz.f3; simp) onceLr (by unfold Tryz.f3; simp) (by kernel_rfl) ?_; unfold Tryz.f3
       simp only [↓pre, simprocAttr, parV, sx, tys3, cellsR, onceLr, bne, postU, postA, postV, storeE, allocE, me0, put_at, push_at, hf, ho, hlen1, hlen2, sr]
       (first | refine call_plain (haw) (by first | rfl | simp only [parV, plQ, *]) ?_ | refine call_pure (haw) (by first | rfl | simp only [parV, plQ, *]) (by intro k; first | rfl | simp only [sq, sr, *]) ?_); simp only [↓pre, simprocAttr, parV, sx, tys3, cellsR, onceLr, bne, postU, postA, postV, storeE, allocE, me0, put_at, push_at, hf, ho, hlen1, hlen2, hE, sr]; (first | refine call_plain (hbi) (by first | rfl | simp only [parV, plQ, *]) ?_ | refine call_pure (hbi) (by first | rfl | simp only [parV, plQ, *]) (by intro k; first | rfl | simp only [sq, sr, *]) ?_); simp only [↓pre, simprocAttr, parV, sx, tys3, cellsR, onceLr, bne, postU, postA, postV, storeE, allocE, me0, put_at, push_at, hf, ho, hlen1, hlen2, hE, sr]; (first | refine call_plain (hst) (by first | rfl | simp only [parV, plQ, *]) ?_ | refine call_pure (hst) (by first | rfl | simp only [parV, plQ, *]) (by intro k; first | rfl | simp only [sq, sr, *]) ?_); simp only [↓pre, simprocAttr, parV, sx, tys3, cellsR, onceLr, bne, postU, postA, postV, storeE, allocE, me0, put_at, push_at, hf, ho, hlen1, hlen2, hE, sr]; (first | refine call_plain (hro) (by first | rfl | simp only [parV, plQ, *]) ?_ | refine call_pure (hro) (by first | rfl | simp only [parV, plQ, *]) (by intro k; first | rfl | simp only [sq, sr, *]) ?_); simp only [↓pre, simprocAttr, parV, sx, tys3, cellsR, onceLr, bne, postU, postA, postV, storeE, allocE, me0, put_at, push_at, hf, ho, hlen1, hlen2, hE, sr]; (first | refine call_plain (hds) (by first | rfl | simp only [parV, plQ, *]) ?_ | refine call_pure (hds) (by first | rfl | simp only [parV, plQ, *]) (by intro k; first | rfl | simp only [sq, sr, *]) ?_); simp only [↓pre, simprocAttr, parV, sx, tys3, cellsR, onceLr, bne, postU, postA, postV, storeE, allocE, me0, put_at, push_at, hf, ho, hlen1, hlen2, hE, sr]; (first | refine call_plain (hnx) (by first | rfl | simp only [parV, plQ, *]) ?_ | refine call_pure (hnx) (by first | rfl | simp only [parV, plQ, *]) (by intro k; first | rfl | simp only [sq, sr, *]) ?_); simp only [↓pre, simprocAttr, parV, sx, tys3, cellsR, onceLr, bne, postU, postA, postV, storeE, allocE, me0, put_at, push_at, hf, ho, hlen1, hlen2, hE, sr]
       exact ⟨0, fzT_val⟩
end Go.Proofs.YtgcicholalgbiaaGreat