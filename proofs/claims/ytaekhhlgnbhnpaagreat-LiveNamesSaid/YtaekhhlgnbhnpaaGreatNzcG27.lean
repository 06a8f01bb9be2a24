import Derived.RangeFuncBox
import Derived.RangeFuncLeaves
import Derived.RangeFuncNested
import Derived.Shelf.Abstract
import Derived.WalkKit
import Derived.OwnWalkIn
import Derived.TacticsInMore
import Derived.LoopNIn
import Derived.LoopIn
import Derived.Maps.AppendAt
import Derived.Deep.QuietTactic
import Derived.BigQuiet
import Derived.WalkSmall
import Derived.Test.YtaekhhlgnbhnpaaGreatNzcG26
import Derived.Test.YtaekhhlgnbhnpaaGreatNzcG24
import Derived.Test.YtaekhhlgnbhnpaaGreatNzcG22
import Derived.Test.YtaekhhlgnbhnpaaGreatNzcG23
set_option linter.unusedVariables false
set_option linter.unusedSimpArgs false
open Array renaming getElem?_toList→aAi
open Bind renaming bind→aAL
open Bool renaming false_eq_true→azx
open Go.Builtin renaming zeroCells→azR
open Go.IntKind renaming i64→azv
open Go.Op renaming equalIn→aAY
open Go.Proofs.Tryz renaming prog→ayS
open Go.Sem renaming bind→aAM
open Go.Value renaming int→azA
open List renaming mem_of_getElem?→az5,getElem?_eq_getElem→azj,length_cons→aAC,size_toArray→azV,length_nil→aAD,mem_map→azm,mem_append→aBm,mem_of_mem_take→aCh,length_append→aAZ,getElem?_map→azl,getD_eq_getElem?_getD→azp,getElem?_eq_some_iff→ay5,getElem?_take_of_lt→aBQ,append_nil→aBi,take_add_one→aA6,length_take→aBP,take_of_length_le→aA7,drop_succ_cons→aAH,drop_of_length_le→aCi,drop_eq_getElem_cons→aBe,getElem?_eq_none→ay3,length_drop→aA9,drop_drop→aBb
open Nat renaming zero_le→aAz,le_refl→ay7,zero_add→azn,zero_ne_one→aBd,mul_one→azD,lt_of_lt_of_le→aza,one_ne_zero→aBj,reduceEqDiff→aBS
open Option renaming map_eq_some_iff→ayY,map_some→az3,bind_some→aAh,getD_some→aAB,map_none→aBa
open Option.some renaming inj→aAR
open Pure renaming pure→aAE
namespace Go.Proofs.YtaekhhlgnbhnpaaGreat
open Go Go.Tw Go.Proofs Go.RowKit Go.Shelf
attribute [local go_sem] Oper.semAt_some
def qY (w:Int) (l:List Int):Bool:=l.all fun n=>decide (0≤n∧n < w)
theorem afP {w:Int} {l:List Int}:qY w l=true↔∀ (i:Nat) (n:Int),l[i]? = some n→0≤n∧n < w:=by
 unfold qY
 rw [List.all_eq_true]
 constructor
 ·intro h i n hi
  simpa using h n (az5 hi)
 ·intro h n hn
  obtain ⟨i,hi,rfl⟩:=List.getElem_of_mem hn
  simpa using h i _ (azj hi)
theorem apH {w:Int} {l:List Int} {i:Nat} {n:Int} (h:l[i]? = some n) (hb:¬ (0≤n∧n < w)):qY w l=false:=by
 cases hc:qY w l with
 | false=>rfl
 | true=>exact absurd (afP.1 hc i n h) hb
def fM:List UInt8→List Int
 | a::b::l=>((a.toNat*256+b.toNat:Nat):Int)::fM l
 | _=>[]
theorem adr:∀ (bs:List UInt8),(fM bs).length=bs.length / 2
 | []=>rfl
 | [_]=>by simp [fM]
 | _::_::l=>by
  simp only [fM,aAC,adr l]
  omega
def gD (k r c w:Int) (bs:List UInt8):Int:=if bG k r c w=true then (if bs.length=8 then (if qY w (fM bs)=true then 0 else 220) else 220) else 2
def upto (k:Nat):List (Fin 4):=(List.finRange 4).take k
theorem apI (k:Nat) (h:k < 4):upto (k+1)=upto k++[⟨k,h⟩]:=by
 have:∀ j:Fin 4,upto (j.1+1)=upto j.1++[j]:=by decide
 exact this ⟨k,h⟩
theorem axH (k:Nat) (h:k≤4):(upto k).length=k:=by simp [upto,h]
abbrev FW:Fence:=Fence.wide
set_option maxRecDepth 100000 in
set_option maxHeartbeats 2000000 in
def KP (Bs Bn:Nat) (A B:World):Prop:=B.heap[Bs]? = A.heap[Bs]? ∧ B.heap[Bn]? = A.heap[Bn]?
theorem KP.trans {Bs Bn:Nat} {A B C:World} (h:KP Bs Bn A B) (h':KP Bs Bn B C):KP Bs Bn A C:=⟨h'.1.trans h.1,h'.2.trans h.2⟩
theorem ab2 {A B:World} {g o:Nat} (h:B.heap[g]? = A.heap[g]?):B.cell? ⟨g,o,none⟩=A.cell? ⟨g,o,none⟩:=World.cell?_of_block (a:=⟨g,o,none⟩) h
theorem axI (l Bs Bn b off cap : Nat) (hcap : 8 ≤ cap) (J Jx : List (Fin 4) → World → Prop) (hJ : ∀ s W nq, J s W → J s (W.drewN nq))
   (hY : ∀ pre x W, J pre W → pre.length < 4 → YieldAt FW 2 ayS l #[.slice (some ⟨b, off + 2 * x.1, none⟩) 2 2] W fun e W' =>
     (e = .returned (.bool true) ∧ J (pre ++ [x]) W' ∧ KP Bs Bn W W') ∨ (e = .returned (.bool false) ∧ Jx (pre ++ [x]) W'))
   (W : World) (hBs : W.cell? ⟨Bs, 0, none⟩ = some (.slice (some ⟨b, off, none⟩) 8 cap)) (hBn : W.cell? ⟨Bn, 0, none⟩ = some (.int .i64 2)) (h0 : J [] W) :
   CallsIn FW 3 ayS 265 #[.func (.yield l) #[] #[], .pointer (some ⟨Bs, 0, none⟩), .pointer (some ⟨Bn, 0, none⟩)] W fun e W' => (∃ v, e = .returned v) ∧
     ((∃ ys, ys = upto 4 ∧ J ys W') ∨ (∃ pre, (∃ k, k ≤ 4 ∧ pre = upto k) ∧ Jx pre W')) := by
 refine callsIn_of_wp Tryz.func265 rfl trivial ?_ rfl
 simp only [Tryz.ntmps265, azV, aAC, aAD, Nat.reduceAdd, Nat.reduceSub, Array.replicate_succ, Array.replicate_zero, List.push_toArray, List.append_toArray, List.nil_append, List.cons_append]
 gi_wp2
 gi_loopw [4] (fun i wr => ∃ k : Nat, k ≤ 4 ∧ i = .int .i64 (2 * k : Nat) ∧ J (upto k) wr ∧ KP Bs Bn W wr)
   (fun i _ => 8 - (intOf i).toNat)
 case atStart => exact ⟨0, aAz _, rfl, h0, rfl, rfl⟩
 case round =>
   obtain ⟨k, hk, rfl, hJs, hnx⟩ := hrel
   have hcs : wr.cell? ⟨Bs, 0, none⟩ = some (.slice (some ⟨b, off, none⟩) 8 cap) := (ab2 hnx.1).trans hBs
   have hcn : wr.cell? ⟨Bn, 0, none⟩ = some (.int .i64 2) := (ab2 hnx.2).trans hBn
   by_cases hlt : k < 4
   · gi_wp2
     refine wpIn_wide.2 ?_
     go_quiet (fail)
     have hmin : min 2 ((8 - 2 * k : Nat) : Int) = 2 := by omega
     simp only [hmin]
     have hJ2 := hJ _ _ nq hJs
     have hcs2 : (wr.drewN nq).cell? ⟨Bs, 0, none⟩ = some (.slice (some ⟨b, off, none⟩) 8 cap) := hcs
     have hcn2 : (wr.drewN nq).cell? ⟨Bn, 0, none⟩ = some (.int .i64 2) := hcn
     have hnx2 : KP Bs Bn W (wr.drewN nq) := hnx
     clear hcs hcn hnx hJs
     generalize wr.drewN nq = wq at hJ2 hcs2 hcn2 hnx2 ⊢
     obtain ⟨fn, tmps, assign, body, hy, hR⟩ := hY _ ⟨k, hlt⟩ wq hJ2 (by rw [axH k hk]; exact hlt)
     gi_wp2
     refine hR.mono ?_
     rintro e W3 (⟨rfl, hJ3, hk3⟩ | ⟨rfl, hJx3⟩)
     · have hcn3 : W3.cell? ⟨Bn, 0, none⟩ = some (.int .i64 2) := (ab2 hk3.2).trans hcn2
       gi_wp2
       go_roundw
       case rel => exact ⟨k + 1, by omega, by simp; omega, by rw [apI k hlt]; exact hJ3, hnx2.trans hk3⟩
       case measure => simp [intOf]; omega
     · gi_wp2
       refine bodyPost_ret (results_none rfl _ _ _) rfl ?_
       exact ⟨⟨_, rfl⟩, .inr ⟨_, ⟨k + 1, by omega, (apI _ hlt).symm⟩, hJx3⟩⟩
   · obtain rfl : k = 4 := by omega
     gi_wp2
     go_end0
     exact ⟨⟨_, rfl⟩, .inl ⟨_, rfl, hJs⟩⟩
theorem axJ (Bs Bn b off cap : Nat) (hcap : 8 ≤ cap) (w : World) (hBs : w.cell? ⟨Bs, 0, none⟩ = some (.slice (some ⟨b, off, none⟩) 8 cap)) (hBn : w.cell? ⟨Bn, 0, none⟩ = some (.int .i64 2)) (hs : Bs < w.heap.size) (hn : Bn < w.heap.size) :
   SeqStopsK FW 3 ayS 265 #[.pointer (some ⟨Bs, 0, none⟩), .pointer (some ⟨Bn, 0, none⟩)] (fun x : Fin 4 => #[Value.slice (some ⟨b, off + 2 * x.1, none⟩) 2 2]) (KP Bs Bn) (fun ys => ys = upto 4) (fun pre => ∃ k, k ≤ 4 ∧ pre = upto k) 4 w := fun l J Jx W hW hJ _ hY h0 => by
 refine axI l Bs Bn b off cap hcap J Jx (fun s A nq hs => hJ s A _ none hs ⟨rfl, rfl, rfl, ay7 _, fun _ _ _ => rfl⟩ (fun r e => by cases e)) hY W ((hW.cell (p := ⟨Bs, 0, none⟩) hs).trans hBs) ((hW.cell (p := ⟨Bn, 0, none⟩) hn).trans hBn) h0
set_option maxHeartbeats 1000000 in
theorem axK (a : Option Addr) (len cap : Nat) (w : World) :
   Calls ayS 209 #[.slice a len cap, .int .i64 2] w fun e w' => e = .returned (.func (.func 265) #[] #[.pointer (some ⟨w.heap.size, 0, none⟩), .pointer (some ⟨w.heap.size + 1, 0, none⟩)]) ∧ w' = (w.alloc (.cells #[.slice a len cap] 52)).alloc (.cells #[.int .i64 2] 3) := by
 go_enter Tryz.func209, Tryz.ntmps209
 go_wp2
 go_ret
 exact ⟨by simp, rfl⟩
theorem axL {P : Program} {f : FuncId} {args : List AV} {u : Value} {W : World} {vs : Array Value} (h : aR P f args ⟨.val u, []⟩) (hsz : vs.size = args.length) (hv : bC P W (qA W) cZ args (fun j => vs[j]?)) :
   Calls P f vs W fun e w' => e = .returned u ∧ Below W.heap.size W w' := by
 refine (h.2 W (qA W) vs (fun g hg => hg) hsz hv).mono fun e w' hq => ?_
 obtain ⟨v, I', ρ', he, h1, h2, h3⟩ := hq
 have hvt : v = u := by simpa only [VR] using h1
 subst hvt
 refine ⟨he, h3.os, h3.tape, h3.output, h3.size, fun k hk => h3.same k hk ?_⟩
 rintro (⟨b, kk, o, q1, q2, q3⟩ | q1)
 · simp [aF.empty] at q1
 · exact absurd q1 q9
theorem axM {k r c w:Int} (h:bG k r c w=true) (W:World):Calls ayS 119 #[.agg #[.int .i64 k,.int .i64 r,.int .i64 c,.int .i64 w]] W fun e w'=>e = .returned (.int .i64 0)∧Below W.heap.size W w':=by
 have:=sP k r c w
 rw [h] at this
 refine axL (u := .int .i64 0) this rfl ?_
 simp only [bC,VR]
 exact ⟨⟨_,rfl,#[.int .i64 k,.int .i64 r,.int .i64 c,.int .i64 w],rfl,rfl,fun c hc=>by simp at hc;rcases hc with rfl | rfl | rfl | rfl <;> rfl,⟨_,rfl,rfl⟩,⟨_,rfl,rfl⟩,⟨_,rfl,rfl⟩,⟨_,rfl,rfl⟩,trivial⟩,trivial⟩
theorem axN {w w1:World} {n:Nat} (hb:Below n w w1):(∀ b o,b < n→w1.cell? ⟨b,o,none⟩=w.cell? ⟨b,o,none⟩)∧(∀ b o,b < n→w1.frozen? ⟨b,o,none⟩=w.frozen? ⟨b,o,none⟩) :=
 ⟨fun b o h=>hb.cell (p:=⟨b,o,none⟩) h,fun b o h=>hb.frozen (p:=⟨b,o,none⟩) h⟩
theorem axO:(ayS.info? 3).map (fun i=>(i.zero,i.size,i.bytes))=some (some (.int .i64 0),1,8):=by kernel_rfl
def tK (bs:List UInt8) (j:Fin 4):Nat:=(bs.getD (2*j.1) 0).toNat*256+(bs.getD (2*j.1+1) 0).toNat
theorem afQ {bs:List UInt8} (h:bs.length=8):fM bs=(upto 4).map fun j=>((tK bs j:Nat):Int):=by
 match bs,h with
 | [_,_,_,_,_,_,_,_],_=>rfl
theorem axP {W w1 : World} {n₀ n₁ B Bs Bn : Nat} {t e : TypeId} {size : Nat} {v v' : Value} {k m : Nat} {xs ys : List Value} {tmp : Obj}
   (hv : Boxed W B t v) (hte : t ≠ e) (hrow : W.ownsRow n₁ e size v k xs) (hn₁ : n₁ ≤ W.heap.size) (hn : n₀ ≤ n₁) (hB : n₀ ≤ B) (hs : Bs < n₁) (hsB : Bs ≠ B) (hnn : Bn < n₁) (hnB : Bn ≠ B)
   (hown' : w1.ownsRow n₁ e size v' m ys) (hgrow : (W.alloc tmp).grownBy w1 v.ownBlock) :
   Boxed w1 B t v ∧ Boxed (w1.setCell ⟨B, 0, none⟩ v') B t v' ∧ (w1.setCell ⟨B, 0, none⟩ v').ownsRow n₁ e size v' m ys ∧ KeepsOthers W (w1.setCell ⟨B, 0, none⟩ v') ∧ Below n₀ W (w1.setCell ⟨B, 0, none⟩ v') ∧ KP Bs Bn W (w1.setCell ⟨B, 0, none⟩ v') ∧ (∀ B' t' u, Boxed W B' t' u → B' ≠ B → t' ≠ e → Boxed (w1.setCell ⟨B, 0, none⟩ v') B' t' u) := by
 have hv1 : Boxed w1 B t v := (hv.alloc tmp).kept hgrow (hv.not_row hte hrow)
 have hlow : ∀ b, b < n₁ → b ≠ B → (w1.setCell ⟨B, 0, none⟩ v').heap[b]? = W.heap[b]? := fun b hb hbB => by
   rw [Below.heap_setCell _ _ _ b (fun e => hbB e), hgrow.block b (by simp; omega) (fun e => by have := (hrow.lt b e.symm).1; omega)]
   exact Below.heap_alloc W _ b (by omega)
 refine ⟨hv1, hv1.set v', hown'.kept (grownBy_setCell' w1 B v') (.inr (hv1.not_row hte hown').symm), ?_, ?_, ⟨hlow Bs hs hsB, hlow Bn hnn hnB⟩, fun B' t' u hu hne hte' => ((hu.alloc tmp).kept hgrow (hu.not_row hte' hrow)).other hne v'⟩
 · refine ((KeepsOthers.alloc W tmp).trans (KeepsOthers.of_grownBy hgrow fun j o ej hj => ?_)).trans (KeepsOthers.setCell _ _ _)
   rcases (hrow.alloc tmp).2 with ⟨rfl, _⟩ | ⟨g, cap, cur, rfl, _, hgb, _⟩
   · simp [Value.ownBlock] at ej
   · obtain rfl : g = j := by simpa [Value.ownBlock] using ej
     rw [hgb] at hj; cases hj; rfl
 · refine (((Below.refl n₀ W).alloc (by omega) tmp).grown hgrow (by simp; omega) fun j ej => ?_).setCell (p := ⟨B, 0, none⟩) hB v'
   have := (hrow.lt j ej).1
   omega
def tL (w:World) (v:Value):Prop:=∀ g n cap,v = .slice (some ⟨g,0,none⟩) n cap→∀ cur e fr,w.heap[g]? = some (.cells cur e fr)→∀ u∈cur.toList,u.oneCell'=true
theorem axQ (w:World):tL w (.slice none 0 0):=fun _ _ _ h=>by cases h
theorem ab3 {w w':World} {v:Value} (h:tL w v) (hk:∀ g,v.ownBlock=some g→w'.heap[g]? = w.heap[g]?):tL w' v:=fun g n cap hv cur e fr hc=>h g n cap hv cur e fr (by rw [←hk g (by rw [hv];rfl)];exact hc)
theorem apJ {z:Value} (hz:∀ u∈z.cells.toList,u.oneCell'=true) (n:Nat):∀ u∈(azR z.cells n).toList,u.oneCell'=true:=by
 intro u hu
 unfold azR at hu
 rw [Array.toList_map] at hu
 obtain ⟨i,hi,rfl⟩:=azm.1 hu
 have hi2:i < n*z.cells.size:=by simpa using hi
 have hp:0 < z.cells.size:=Nat.pos_of_ne_zero fun h=>by rw [h] at hi2;omega
 have hlt:i % z.cells.size < z.cells.size:=Nat.mod_lt _ hp
 rw [getElem!_pos z.cells _ hlt]
 exact hz _ (by simp)
theorem axR {P : Program} (w : World) (base : Nat) (t ty e : TypeId) (i : TypeInfo) (z : Value) (size bytes : Nat) (ht : P.underlying t = some (.slice e)) (hi : P.info? e = some i) (hz : i.zero = some z) (hsize : i.size = size) (hby : i.bytes = bytes)
   (v : Value) (n : Nat) (xs : List Value) (hown : w.ownsRow base e size v n xs) (a : Addr) (m c : Nat) (news : List Value) (hl : news.length = m * size) (hnews : ∀ j u, news[j]? = some u → w.cell? (a.add j) = some u) (h1 : ∀ u ∈ news, u.oneCell' = true)
   (h63 : n + m ≤ maxLen) (hbytes : (n + m) * bytes ≤ 140737488355328) (hm : 0 < m) (hone : tL w v) (hzo : ∀ u ∈ z.cells.toList, u.oneCell' = true) {v' : Value} {w' : World} (hr : (Builtin.append_ #[t, t] ty #[v, .slice (some a) m c]).run P w = .ok v' w') : tL w' v' := by
 subst hsize
 subst hby
 have hsmall : n + m ≤ 9223372036854775807 := by simp only [maxLen] at h63; omega
 rcases hown.2 with ⟨rfl, rfl⟩ | ⟨g, cap, cur, rfl, hbg, hg, hnc, hcm, hcs, htake⟩
 · rw [run_append_nil (P := P) w t ty e i z ht hi hz a m c news hl hnews hm (by omega) (by simp only [azn] at hbytes; omega)] at hr
   cases hr
   intro g n' cap' hv cur e' fr hc u hu
   cases hv
   rw [show w.heap.size = w.drew.heap.size from rfl, heap_alloc_new] at hc
   cases hc
   simp only [Array.toList_append, aBm] at hu
   rcases hu with hu | hu
   · exact h1 u hu
   · exact apJ hzo _ u hu
 · have hcur := hone g n cap rfl cur e _ hg
   by_cases hroom : n + m ≤ cap
   · have hfit : n * i.size + news.length ≤ cur.size := by rw [hl, hcs, ← Nat.add_mul]; exact Nat.mul_le_mul_right _ hroom
     rw [run_append_room (P := P) w t ty e i ht hi g n cap cur hg a m c news hl hnews h1 hroom hfit] at hr
     cases hr
     intro g2 n' cap' hv cur2 e' fr hc u hu
     cases hv
     rw [setRow_heap w g cur _ e _ hg] at hc
     cases hc
     simp only [aBm] at hu
     rcases hu with (hu | hu) | hu
     · exact hcur u (aCh hu)
     · exact h1 u hu
     · exact hcur u (List.mem_of_mem_drop hu)
   · have holds : ∀ j u, xs[j]? = some u → w.cell? ((⟨g, 0, none⟩ : Addr).add j) = some u := hown.cells (g := g) rfl
     rw [run_append_grow (P := P) w t ty e i z ht hi hz ⟨g, 0, none⟩ n cap xs hown.1 holds a m c news hl hnews (by omega) (by omega) (growslice_fits (by omega) hbytes)] at hr
     cases hr
     intro g2 n' cap' hv cur2 e' fr hc u hu
     cases hv
     rw [show w.heap.size = w.drew.heap.size from rfl, heap_alloc_new] at hc
     cases hc
     simp only [Array.toList_append, aBm] at hu
     rcases hu with (hu | hu) | hu
     · exact hcur u (aCh (htake ▸ hu))
     · exact h1 u hu
     · exact apJ hzo _ u hu
theorem axS {F : Fence} {n : Nat} {P : Program} (w : World) {ops : Array Oper} {rest : List Oper} {o : Oper} {a : Act} {Q : Exit → Act → World → Prop}
   (hg : o.guard = none) (s x : Operand) (t : TypeId) (hop : o.op = Op.call { callee := Callee.builtin Builtin.append, args := #[s, x], argTypes := #[t, t] })
   (base : Nat) (e : TypeId) (i : TypeInfo) (z : Value) (size bytes : Nat) (h1 : P.underlying t = some (.slice e)) (h2 : P.info? e = some i) (h3 : i.zero = some z) (h4 : i.size = size) (h5 : i.bytes = bytes) (h6 : z.cells.size = size) (h7 : 0 < size)
   (v : Value) (k : Nat) (xs : List Value) (hs : a.eval s = v) (hown : w.ownsRow base e size v k xs) (ad : Addr) (m c : Nat) (news : List Value) (hx : a.eval x = .slice (some ad) m c) (hn : news.length = m * size)
   (hc : ∀ j u, news[j]? = some u → w.cell? (ad.add j) = some u) (h1c : ∀ u ∈ news, u.oneCell' = true) (b1 : k + m ≤ maxLen) (b2 : (k + m) * bytes ≤ 140737488355328) (b3 : base ≤ w.heap.size) (hm : 0 < m) (hone : tL w v) (hzo : ∀ u ∈ z.cells.toList, u.oneCell' = true)
   (hK : ∀ v' w', w'.ownsRow base e size v' (k + m) (xs ++ news) → w.grownBy w' v.ownBlock → tL w' v' → wpListIn F n P ops Q rest (a.put o.dst v') w') :
   wpListIn F n P ops Q (o :: rest) a w := by
 refine wpListIn_plain hg fun K hK' => ?_
 obtain ⟨v', w', hrun, r1, r2, r3⟩ := run_append_own (P := P) w base t o.type e i z size bytes h1 h2 h3 h4 h5 h6 h7 v k xs hown ad m c news hn hc h1c b1 b2 b3
 have r4 := axR w base t o.type e i z size bytes h1 h2 h3 h4 h5 v k xs hown ad m c news hn hc h1c b1 b2 hm hone hzo hrun
 unfold Oper.wpIn
 refine ⟨by simp [Oper.about, hop, resolve, Target.leads, Sem.run_pure], ?_⟩
 rw [Oper.semAt_plain F _ _ (by rw [hop]; intro c hc'; cases hc')]
 simp [execOp, hop, resolve, invoke, builtin, hs, hx, hrun, Result.andThen]
 exact hK' _ _ (hK v' w' r1 r2 r4)
theorem axT {β:Type} (n₀ B:Nat) (t e:TypeId) (size:Nat) (k:β→Nat) (f:β→List Value) (G:β→Value→Prop):Own (fun s W=>∃ v,Boxed W B t v∧W.ownsRow n₀ e size v (k s) (f s)∧tL W v∧G s v):=by
 rintro s X Y row ⟨v,hv,hr,ho,hG⟩ hg hrow
 have hne:∀ g,v.ownBlock=some g→some g≠row:=fun g hg' e'=>by
  rcases hr.2 with ⟨rfl,_⟩ | ⟨g2,cap,cur,rfl,_,hgb,_⟩
  ·simp [Value.ownBlock] at hg'
  ·obtain rfl:g2=g:=by simpa [Value.ownBlock] using hg'
   obtain ⟨o,ho,hc⟩:=hrow g2 e'.symm
   rw [hgb] at ho;cases ho;cases hc
 refine ⟨v,hv.kept hg (fun e' => ?_),hr.kept hg ?_,ab3 ho fun g hg'=>hg.block g (hr.lt g hg').2 (hne g hg'),hG⟩
 ·obtain ⟨o,ho,hc⟩:=hrow B e'.symm
  rw [show X.heap[B]? = _ from hv] at ho;cases ho;cases hc
 ·rcases hr.2 with ⟨rfl,_⟩ | ⟨g,cap,cur,rfl,_,hgb,_⟩
  ·exact .inl rfl
  ·exact .inr (hne g rfl)
set_option maxRecDepth 100000 in
set_option maxHeartbeats 4000000 in
theorem apK (F : Fence) (hF : Tw.Hid (F = Fence.wide)) {k r c q : Int} (hm : bG k r c q = true) (g off cap : Nat) (hcap : 8 ≤ cap) (bs : List UInt8) (hl : bs.length = 8) (w : World) (hg : g < w.heap.size) (hcs : ∀ j, j < 8 → w.cell? ⟨g, off + j, none⟩ = some (.int .u8 (bs.getD j 0).toNat)) :
   CallsIn F 4 ayS 121 #[.agg #[.int .i64 k, .int .i64 r, .int .i64 c, .int .i64 q], .slice (some ⟨g, off, none⟩) 8 cap] w fun e W' => Below w.heap.size w W' ∧
     ((qY q (fM bs) = true ∧ ∃ v, e = .returned (.tuple #[v, .int .i64 0]) ∧ W'.ownsRow w.heap.size 3 1 v 4 ((fM bs).map (azA .i64)) ∧ tL W' v) ∨
      (qY q (fM bs) = false ∧ e = .returned (.tuple #[.slice none 0 0, .int .i64 220]))) := by
 obtain ⟨i0, hi, hz0, hz1, hz2⟩ := info_parts axO
 have hfn : ∀ f, F.fn f := fun f => by rw [hF.out]; trivial
 have hro : F.round = none := by rw [hF.out]; rfl
 have hW : ∀ {n : Nat} {f : FuncId} {args : Array Value} {w : World} {R : Ending → World → Prop}, Calls ayS f args w R → CallsIn F n ayS f args w R := fun h => by rw [hF.out]; exact callsIn_wide.2 h
 refine callsIn_of_wp_marks Tryz.func121 rfl (hfn _) ?_ hro
 simp only [Tryz.ntmps121, azV, aAC, aAD, Nat.reduceAdd, Nat.reduceSub, Array.replicate_succ, Array.replicate_zero, List.push_toArray, List.append_toArray, List.nil_append, List.cons_append]
 gi_wp2_with (first
   | (gi_at_call 119; refine (hW (axM hm _)).mono ?_; rintro e w1 ⟨rfl, hb1⟩; obtain ⟨hc1, hf1⟩ := axN hb1; have hz1' := hb1.size; simp only [World.size_alloc] at hz1')
   | (gi_at_call 209; refine (hW (axK _ _ _ _)).mono ?_; rintro e w2 ⟨rfl, rfl⟩))
 -- what lies where the loop begins
 obtain ⟨wp, hwp⟩ : ∃ wp, wp = w.alloc (.cells #[.int .i64 k, .int .i64 r, .int .i64 c, .int .i64 q] 23) := ⟨_, rfl⟩
 obtain ⟨w4, hw4⟩ : ∃ w4, w4 = wp.alloc (.cells #[.slice none 0 0] 41) := ⟨_, rfl⟩
 obtain ⟨w5, hw5⟩ : ∃ w5, w5 = w4.alloc (.cells #[.int .i64 0] 28) := ⟨_, rfl⟩
 obtain ⟨w7, hw7⟩ : ∃ w7, w7 = w1.alloc (.cells #[.slice none 0 0] 41) := ⟨_, rfl⟩
 obtain ⟨w8, hw8⟩ : ∃ w8, w8 = w7.alloc (.cells #[.slice (some ⟨g, off, none⟩) 8 cap] 52) := ⟨_, rfl⟩
 obtain ⟨w9, hw9⟩ : ∃ w9, w9 = w8.alloc (.cells #[.int .i64 2] 3) := ⟨_, rfl⟩
 have sp : wp.heap.size = w.heap.size + 1 := by rw [hwp]; simp
 have s4 : w4.heap.size = w.heap.size + 2 := by rw [hw4]; simp [sp]
 have s5 : w5.heap.size = w.heap.size + 3 := by rw [hw5]; simp [s4]
 have s7 : w7.heap.size = w1.heap.size + 1 := by rw [hw7]; simp
 have s8 : w8.heap.size = w1.heap.size + 2 := by rw [hw8]; simp [s7]
 have s9 : w9.heap.size = w1.heap.size + 3 := by rw [hw9]; simp [s8]
 have b4 : Boxed w4 (w.heap.size + 1) 41 (.slice none 0 0) := by have := Boxed.new wp 41 (.slice none 0 0); rw [sp, ← hw4] at this; exact this
 have b5 : Boxed w5 (w.heap.size + 2) 28 (.int .i64 0) := by have := Boxed.new w4 28 (.int .i64 0); rw [s4, ← hw5] at this; exact this
 have b7 : Boxed w7 w1.heap.size 41 (.slice none 0 0) := by have := Boxed.new w1 41 (.slice none 0 0); rw [← hw7] at this; exact this
 have b8 : Boxed w8 (w1.heap.size + 1) 52 (.slice (some ⟨g, off, none⟩) 8 cap) := by have := Boxed.new w7 52 (.slice (some ⟨g, off, none⟩) 8 cap); rw [s7, ← hw8] at this; exact this
 have b9 : Boxed w9 (w1.heap.size + 2) 3 (.int .i64 2) := by have := Boxed.new w8 3 (.int .i64 2); rw [s8, ← hw9] at this; exact this
 have bp : wp.heap[w.heap.size]? = some (.cells #[.int .i64 k, .int .i64 r, .int .i64 c, .int .i64 q] 23 (0, 0)) := by rw [hwp]; exact World.alloc_heap_new w _
 rw [← hwp, ← hw4, ← hw5] at hb1
 rw [← hw7, ← hw8, ← hw9]
 clear hc1 hf1
 rw [s5] at hb1
 have hzw : w.heap.size + 3 ≤ w1.heap.size := by rw [← s5]; exact hb1.size
 have low9 : ∀ b, b < w1.heap.size → w9.heap[b]? = w1.heap[b]? := fun b hb => by
   rw [hw9, Below.heap_alloc _ _ _ (by omega), hw8, Below.heap_alloc _ _ _ (by omega), hw7, Below.heap_alloc _ _ _ hb]
 have up9 : ∀ b, b < w.heap.size + 3 → w9.heap[b]? = w5.heap[b]? := fun b hb => (low9 b (by omega)).trans (hb1.block b hb)
 have low5 : ∀ b, b < w.heap.size → w5.heap[b]? = w.heap[b]? := fun b hb => by
   rw [hw5, Below.heap_alloc _ _ _ (by omega), hw4, Below.heap_alloc _ _ _ (by omega), hwp, Below.heap_alloc _ _ _ hb]
 have c4 : Boxed w9 (w.heap.size + 1) 41 (.slice none 0 0) := by
   show w9.heap[w.heap.size + 1]? = _
   rw [up9 _ (by omega), hw5, Below.heap_alloc _ _ _ (by omega)]; exact b4
 have c5 : Boxed w9 (w.heap.size + 2) 28 (.int .i64 0) := by
   show w9.heap[w.heap.size + 2]? = _
   rw [up9 _ (by omega)]; exact b5
 have c7 : Boxed w9 w1.heap.size 41 (.slice none 0 0) := by
   show w9.heap[w1.heap.size]? = _
   rw [hw9, Below.heap_alloc _ _ _ (by omega), hw8, Below.heap_alloc _ _ _ (by omega)]; exact b7
 have c8 : Boxed w9 (w1.heap.size + 1) 52 (.slice (some ⟨g, off, none⟩) 8 cap) := by
   show w9.heap[w1.heap.size + 1]? = _
   rw [hw9, Below.heap_alloc _ _ _ (by omega)]; exact b8
 have cp : w9.heap[w.heap.size]? = some (.cells #[.int .i64 k, .int .i64 r, .int .i64 c, .int .i64 q] 23 (0, 0)) := by
   rw [up9 _ (by omega), hw5, Below.heap_alloc _ _ _ (by omega), hw4, Below.heap_alloc _ _ _ (by omega)]; exact bp
 have hB9 : Below w.heap.size w w9 := by
   refine ⟨?_, ?_, ?_, by omega, fun b hb => (up9 b (by omega)).trans (low5 b hb)⟩
   · rw [hw9, hw8, hw7]; show w1.os = _; rw [hb1.os, hw5, hw4, hwp]; rfl
   · rw [hw9, hw8, hw7]; show w1.tape = _; rw [hb1.tape, hw5, hw4, hwp]; rfl
   · rw [hw9, hw8, hw7]; show w1.output = _; rw [hb1.output, hw5, hw4, hwp]; rfl
 have hmeas : ∀ W, Below (w.heap.size + 1) w9 W → ∀ j, (W.cell? ⟨w.heap.size, j, none⟩) = w9.cell? ⟨w.heap.size, j, none⟩ := fun W h j => ab2 (h.block _ (by omega))
 have hp3 : w9.cell? ⟨w.heap.size, 3, none⟩ = some (.int .i64 q) := by simp [World.cell?, cp]
 have hst : SeqStopsK F 3 ayS 265 #[.pointer (some ⟨w1.heap.size + 1, 0, none⟩), .pointer (some ⟨w1.heap.size + 2, 0, none⟩)] (fun x : Fin 4 => #[Value.slice (some ⟨g, off + 2 * x.1, none⟩) 2 2]) (KP (w1.heap.size + 1) (w1.heap.size + 2)) (fun ys => ys = upto 4) (fun pre => ∃ k, k ≤ 4 ∧ pre = upto k) 4 w9 := by rw [hF.out]; exact axJ (w1.heap.size + 1) (w1.heap.size + 2) g off cap hcap w9 c8.cell b9.cell (by omega) (by omega)
 have s9a : w9.heap.size ≤ w1.heap.size + 3 := by omega
 have s9b : w1.heap.size + 3 ≤ w9.heap.size := by omega
 clear hwp hw4 hw5 hw7 hw8 hw9 sp s4 s5 s7 s8 s9 b4 b5 b7 b8 b9 bp
 refine wpIn_rangeFunc_ownG (N := 4) hro (by omega) (gf := 265) (lb := #[.pointer (some ⟨w1.heap.size + 1, 0, none⟩), .pointer (some ⟨w1.heap.size + 2, 0, none⟩)]) rfl (hfn _) (enters_of Tryz.func265 (by kernel_rfl) rfl)
   hst KP.trans (fun W l o o' hl' _ _ _ => ⟨World.putObj_heap_other (by omega), World.putObj_heap_other (by omega)⟩) (Below.refl _ _) (fun _ => rfl)
   (fun pre W => (∃ v, Boxed W w1.heap.size 41 v ∧ W.ownsRow w9.heap.size 3 1 v pre.length (pre.map fun j => azA .i64 (tK bs j : Nat)) ∧ tL W v ∧ ∀ j ∈ pre, ((tK bs j : Nat) : Int) < q) ∧ ((Boxed W (w.heap.size + 1) 41 (.slice none 0 0) ∧ Boxed W (w.heap.size + 2) 28 (.int .i64 0)) ∧ Below (w.heap.size + 1) w9 W))
   (fun c pre W => (c = .ret ∧ qY q (fM bs) = false) ∧ ((Boxed W (w.heap.size + 1) 41 (.slice none 0 0) ∧ Boxed W (w.heap.size + 2) 28 (.int .i64 220)) ∧ Below (w.heap.size + 1) w9 W))
   (OwnFrom.and (Own.from (axT w9.heap.size w1.heap.size 41 3 1 (fun pre : List (Fin 4) => pre.length) (fun pre => pre.map fun j => azA .i64 (tK bs j : Nat)) (fun pre v => ∀ j ∈ pre, ((tK bs j : Nat) : Int) < q)) _) (OwnFrom.and (Own.from (boxed_own _ _ (fun _ => Value.slice none 0 0)) _ |>.and (Own.from (boxed_own _ _ (fun _ => azA .i64 0)) _)) (ownFrom_below (by omega) (by omega))))
   (fun c => OwnFrom.and (ownFrom_pure _ (fun _ => c = .ret ∧ qY q (fM bs) = false)) (OwnFrom.and (Own.from (boxed_own _ _ (fun _ => Value.slice none 0 0)) _ |>.and (Own.from (boxed_own _ _ (fun _ => azA .i64 220)) _)) (ownFrom_below (by omega) (by omega))))
   ⟨⟨_, c7, World.ownsRow_nil _ _ _ _, axQ _, fun j hj => by simp at hj⟩, ⟨c4, c5⟩, Below.refl _ _⟩
   (fun x => { tmps := #[.agg #[.int .i64 k, .int .i64 r, .int .i64 c, .int .i64 q], .slice (some ⟨g, off, none⟩) 8 cap, .pointer (some ⟨w.heap.size, 0, none⟩), undef, .pointer (some ⟨w.heap.size + 1, 0, none⟩), .pointer (some ⟨w.heap.size + 1 + 1, 0, none⟩), .int .i64 0, .pointer (some ⟨w1.heap.size, 0, none⟩), .slice (some ⟨g, off + 2 * x.1, none⟩) 2 2, undef,
       .agg #[.int .i64 k, .int .i64 r, .int .i64 c, .int .i64 q], .int .i64 0, .int .i64 0, .bool false, undef, .slice (some ⟨g, off, none⟩) 8 cap, .int .i64 8, .bool false, .slice (some ⟨g, off, none⟩) 8 cap,
       .func (.func 265) #[] #[.pointer (some ⟨w1.heap.size + 1, 0, none⟩), .pointer (some ⟨w1.heap.size + 1 + 1, 0, none⟩)], .slice (some ⟨g, off + 2 * x.1, none⟩) 2 2, undef, undef, undef, undef, undef, undef, undef, undef, undef, undef, undef, undef, undef, undef, undef, undef, undef, undef, undef], defers := [] }) ?assign ?body ?done ?stop
 case assign =>
   intro l x W K hK
   gi_wp2
   exact hK
 case body =>
   rintro l pre x W ⟨⟨v, hv, hrow, hone, hok⟩, ⟨h4, h5⟩, hB⟩ hlt
   have hc := hv.cell
   have hq3 : W.cell? ⟨w.heap.size, 3, none⟩ = some (.int .i64 q) := (hmeas W hB 3).trans hp3
   have hgc : ∀ j, j < 8 → W.cell? ⟨g, off + j, none⟩ = some (.int .u8 (bs.getD j 0).toNat) := fun j hj => (ab2 (hB.block g (by omega))).trans ((ab2 ((up9 g (by omega)).trans (low5 g hg))).trans (hcs j hj))
   have hx := x.2
   have hg0 := hgc (2 * x.1) (by omega)
   have hg1 := hgc (2 * x.1 + 1) (by omega)
   rw [← Nat.add_assoc] at hg1
   obtain ⟨y1, hy1⟩ : ∃ y1, bs.getD (2 * x.1) 0 = y1 := ⟨_, rfl⟩
   obtain ⟨y2, hy2⟩ : ∃ y2, bs.getD (2 * x.1 + 1) 0 = y2 := ⟨_, rfl⟩
   have hdx : tK bs x = y1.toNat * 256 + y2.toNat := by rw [tK, hy1, hy2]
   rw [hy1] at hg0
   rw [hy2] at hg1
   have ly1 := y1.toNat_lt
   have ly2 := y2.toNat_lt
   have v1 : azv.wrap (y1.toNat : Int) = (y1.toNat : Int) := cD (by omega)
   have v2 : azv.wrap (y2.toNat : Int) = (y2.toNat : Int) := cD (by omega)
   have v3 : azv.wrap ((y1.toNat : Int) * 256) = (y1.toNat : Int) * 256 := by
     have : ((y1.toNat : Int) * 256) = ((y1.toNat * 256 : Nat) : Int) := by omega
     rw [this]; exact cD (by omega)
   clear hgc hy1 hy2
   gi_wp2
   refine axG hF.out (by kernel_rfl) (by kernel_rfl) (by kernel_rfl) ?_
   repeat (quiet_step (fail))
   refine wpQuiet_nil ?_
   intro _ hw'
   obtain ⟨nq, hw''⟩ := hw'
   subst hw''
   have hbits : bits .or .i64 ((y1.toNat : Int) * 256) (y2.toNat : Int) = ((tK bs x : Nat) : Int) := by
     have : ((y1.toNat : Int) * 256) = ((y1.toNat * 256 : Nat) : Int) := by omega
     rw [this, hdx]
     have h := ad8 (a := y1.toNat * 256) (b := y2.toNat) (by omega) (by omega)
     rw [ad9 ly2] at h
     exact h
   simp only [hbits]
   have hv : Boxed (W.drewN nq) w1.heap.size 41 v := hv
   have hrow : (W.drewN nq).ownsRow w9.heap.size 3 1 v pre.length (pre.map fun j => azA .i64 (tK bs j : Nat)) := hrow
   have hone : tL (W.drewN nq) v := hone
   have h4 : Boxed (W.drewN nq) (w.heap.size + 1) 41 (.slice none 0 0) := h4
   have h5 : Boxed (W.drewN nq) (w.heap.size + 2) 28 (.int .i64 0) := h5
   have hc : (W.drewN nq).cell? ⟨w1.heap.size, 0, none⟩ = some v := hc
   have hq3 : (W.drewN nq).cell? ⟨w.heap.size, 3, none⟩ = some (.int .i64 q) := hq3
   have hBq : Below (w.heap.size + 1) w9 (W.drewN nq) := below_drewN hB nq
   have hkq : KeepsFrom w9.heap.size W (W.drewN nq) := ⟨ay7 _, fun k o _ h _ => h⟩
   have hkp : KP (w1.heap.size + 1) (w1.heap.size + 2) W (W.drewN nq) := ⟨rfl, rfl⟩
   have hsz : w9.heap.size ≤ (W.drewN nq).heap.size := hBq.size
   generalize hD : tK bs x = d at hdx hbits
   have hdl : d < 65536 := by omega
   clear hg0 hg1 v1 v2 v3 hbits hB hmeas hdx
   replace hD := Tw.Hid.mk hD
   generalize W.drewN nq = Wq at *
   by_cases hlq : (d : Int) < q
   · have hlq' : decide (q ≤ (d : Int)) = false := by simp; omega
     gi_wp2_with (gi_at_builtin; refine axS _ rfl _ _ 41 rfl w9.heap.size 3 i0 (.int .i64 0) 1 8 Tryz.underlying41 hi hz0 hz1 hz2 rfl (by decide) _ _ _ rfl (hrow.alloc _) ⟨Wq.heap.size, 0, none⟩ 1 1 [.int .i64 d] rfl rfl (cell_one_new _ _ _) (by simp [Value.oneCell']) (by unfold maxLen; omega) (by omega) (by simp; omega) (by omega) (ab3 hone fun g' hg' => Below.heap_alloc _ _ _ (hrow.lt g' hg').2) (by simp [Value.cells, Value.oneCell']) ?_; intro v' wa hown' hgrow hone'; obtain ⟨g', cap', rfl⟩ := ownsRow_succ hown'; obtain ⟨e1, e2, e3, e4, e5, e6, e7⟩ := axP (n₀ := w.heap.size + 1) (Bs := w1.heap.size + 1) (Bn := w1.heap.size + 2) hv (by decide) hrow hsz (by omega) (by omega) (by omega) (by omega) (by omega) (by omega) hown' hgrow; have hc1 := e1.cell; have hf1 := e1.frozen)
     refine ⟨hkq.trans (e4.from _), hkp.trans e6, ⟨⟨_, e2, ?_, ab3 hone' (fun g2 hg2 => (grownBy_setCell' wa w1.heap.size _).block g2 (hown'.lt g2 hg2).2 (fun e' => by have := (hown'.lt g2 hg2).1; cases e'; omega)), fun j hj => ?_⟩, ⟨e7 _ _ _ h4 (by omega) (by decide), e7 _ _ _ h5 (by omega) (by decide)⟩, hBq.trans e5⟩⟩
     · rw [aAZ, List.map_append]
       simp only [aAC, aAD, List.map_cons, List.map_nil, hD.out]
       exact e3
     · rcases aBm.1 hj with hj | hj
       · exact hok j hj
       · rw [List.mem_singleton.1 hj, hD.out]; exact hlq
   · have hlq' : q ≤ (d : Int) := by omega
     have hlq2 : decide (q ≤ (d : Int)) = true := by simpa using hlq'
     have hc4 := h4.cell
     have hf4 := h4.frozen
     have h5' := h5.other (B' := w.heap.size + 1) (by omega) (Value.slice none 0 0)
     have hc5 := h5'.cell
     have hf5 := h5'.frozen
     have hbad : qY q (fM bs) = false := by
       refine apH (i := x.1) (n := ((tK bs x : Nat) : Int)) ?_ (by rw [hD.out]; omega)
       rw [afQ hl, azl]
       have : ∀ x : Fin 4, (upto 4)[x.1]? = some x := by decide
       rw [this x]; rfl
     replace hbad := Tw.Hid.mk hbad
     gi_wp2
     exact ⟨hkq.trans (((KeepsOthers.setCell _ _ _).trans (KeepsOthers.setCell _ _ _)).from _), ⟨rfl, hbad.out⟩, ⟨(h4.set _).other (by omega) _, h5'.set _⟩, (hBq.setCell (p := ⟨w.heap.size + 1, 0, none⟩) (by simp) _).setCell (p := ⟨w.heap.size + 1 + 1, 0, none⟩) (by simp) _⟩
 case done =>
   rintro D ys W hD rfl ⟨⟨v, hv, hrow, hone, hok⟩, ⟨h4, h5⟩, hB⟩ hK
   have hrow : W.ownsRow w9.heap.size 3 1 v (3 + 1) ((upto 4).map fun j => azA .i64 (tK bs j : Nat)) := hrow
   obtain ⟨g', cap', rfl⟩ := ownsRow_succ hrow
   have hc := hv.cell
   have hc4 := h4.cell
   have hf4 := h4.frozen
   have h5' := h5.other (B' := w.heap.size + 1) (by omega) (.slice (some ⟨g', 0, none⟩) (3 + 1) cap')
   have hc5 := h5'.cell
   have hf5 := h5'.frozen
   have hgood : qY q (fM bs) = true := afP.2 fun i n hin => by
     rw [afQ hl, azl] at hin
     obtain ⟨j, hj, rfl⟩ := ayR hin
     exact ⟨by omega, hok j (az5 hj)⟩
   replace hgood := Tw.Hid.mk hgood
   gi_wp2
   have hK' : ((W.setCell ⟨w.heap.size + 1, 0, none⟩ (.slice (some ⟨g', 0, none⟩) (3 + 1) cap')).setCell ⟨w.heap.size + 1 + 1, 0, none⟩ (.int .i64 0)).heap[D]? = some (.deferred (some [])) := ((KeepsOthers.setCell _ _ _).trans (KeepsOthers.setCell _ _ _)).same D _ hK rfl
   refine ⟨by simp, .inl ⟨_, _, rfl, run_takeDeferred hK', ?_⟩⟩
   have g4 := ((h4.set (.slice (some ⟨g', 0, none⟩) (3 + 1) cap')).other (B' := w.heap.size + 1 + 1) (by omega) (.int .i64 0)).cell
   have g5 := (h5'.set (.int .i64 0)).cell
   have hd4 := cell_kept g4 (grownBy_putObj' _ D (.deferred none)) (fun r e => by cases e; exact ⟨_, hK', rfl⟩)
   have hd5 := cell_kept g5 (grownBy_putObj' _ D (.deferred none)) (fun r e => by cases e; exact ⟨_, hK', rfl⟩)
   have hr1 := hrow.kept (grownBy_setCell' W (w.heap.size + 1) (.slice (some ⟨g', 0, none⟩) (3 + 1) cap')) (.inr (fun e => by have := (hrow.lt g' rfl).1; simp [Value.ownBlock] at e; omega))
   have hr2 := hr1.kept (grownBy_setCell' _ (w.heap.size + 1 + 1) (.int .i64 0)) (.inr (fun e => by have := (hrow.lt g' rfl).1; simp [Value.ownBlock] at e; omega))
   have hr3 := ownsRow_putObj hr2 (.deferred none) hK' rfl
   have hr4 : ((((W.setCell ⟨w.heap.size + 1, 0, none⟩ (.slice (some ⟨g', 0, none⟩) (3 + 1) cap')).setCell ⟨w.heap.size + 1 + 1, 0, none⟩ (.int .i64 0))).putObj D (.deferred none)).ownsRow w.heap.size 3 1 (.slice (some ⟨g', 0, none⟩) 4 cap') 4 ((fM bs).map (azA .i64)) := by
     refine ⟨by rw [afQ hl]; rfl, .inr ?_⟩
     rcases hr3.2 with ⟨h, _⟩ | ⟨g2, cap2, cur, h, q1, q2, q3, q4, q5, q6⟩
     · cases h
     · refine ⟨g2, cap2, cur, h, by omega, q2, q3, q4, q5, ?_⟩
       rw [q6, afQ hl, List.map_map]; rfl
   have hone1 := ab3 hone fun g2 hg2 => (grownBy_setCell' W (w.heap.size + 1) (.slice (some ⟨g', 0, none⟩) (3 + 1) cap')).block g2 (hrow.lt g2 hg2).2 (fun e' => by have := (hrow.lt g2 hg2).1; cases e'; omega)
   have hone2 := ab3 hone1 fun g2 hg2 => (grownBy_setCell' _ (w.heap.size + 1 + 1) (.int .i64 0)).block g2 (hr1.lt g2 hg2).2 (fun e' => by have := (hrow.lt g2 hg2).1; cases e'; omega)
   have hone4 : tL (((W.setCell ⟨w.heap.size + 1, 0, none⟩ (.slice (some ⟨g', 0, none⟩) (3 + 1) cap')).setCell ⟨w.heap.size + 1 + 1, 0, none⟩ (.int .i64 0)).putObj D (.deferred none)) (.slice (some ⟨g', 0, none⟩) (3 + 1) cap') := ab3 hone2 fun g2 hg2 => World.putObj_heap_other (by
     intro e'
     rcases hr2.2 with ⟨h, _⟩ | ⟨g3, cap3, cur3, h, _, q2, _⟩
     · cases h
     · cases h
       cases hg2
       have e2 : g' = D := e'
       subst e2
       rw [hK'] at q2
       cases q2)
   refine ⟨.tuple #[.slice (some ⟨g', 0, none⟩) 4 cap', .int .i64 0], ?_, (hB9.trans (((hB.setCell (p := ⟨w.heap.size + 1, 0, none⟩) (by simp) _).setCell (p := ⟨w.heap.size + 1 + 1, 0, none⟩) (by simp) _).mono (by omega))).trans (belowK_b (w := w9) (by omega) _ D _ _ (by omega) hK' rfl rfl), .inl ⟨hgood.out, _, rfl, hr4, hone4⟩⟩
   simp [results, Tryz.f121, go_sem, hd4, hd5]
 case stop =>
   rintro D c' pre W hD hpre ⟨⟨rfl, hbad⟩, ⟨h4, h5⟩, hB⟩ hK
   have hc4 := h4.cell
   have hc5 := h5.cell
   replace hbad := Tw.Hid.mk hbad
   gi_wp2
   refine ⟨by simp, .inl ⟨_, _, rfl, run_takeDeferred hK, ?_⟩⟩
   have hd4 := cell_kept hc4 (grownBy_putObj' _ D (.deferred none)) (fun r e => by cases e; exact ⟨_, hK, rfl⟩)
   have hd5 := cell_kept hc5 (grownBy_putObj' _ D (.deferred none)) (fun r e => by cases e; exact ⟨_, hK, rfl⟩)
   refine ⟨.tuple #[.slice none 0 0, .int .i64 220], ?_, (hB9.trans (hB.mono (by omega))).trans (belowK_b (w := w9) (by omega) W D _ _ (by omega) hK rfl rfl), .inr ⟨hbad.out, rfl⟩⟩
   simp [results, Tryz.f121, go_sem, hd4, hd5]
end Go.Proofs.YtaekhhlgnbhnpaaGreat
set_option maxRecDepth 10000
namespace Go.Proofs.YtaekhhlgnbhnpaaGreat
open Go Go.Tw Go.Proofs Go.Gf
def ab4 (n:Nat) (l:List Int) (e:Int):fF:=⟨.tup [(fU 3 n (bK l)).v,aC e],(fU 3 n (bK l)).rows⟩
def aiL (k r c w:Int) (bs:List UInt8):fF:=if gD k r c w bs=0 then ⟨.tup [.tree 4 4 (bK (fM bs)) false,aC 0],[]⟩ else ab4 0 [] (gD k r c w bs)
theorem axU (k r c w:Int) (v:AV) (bs:List UInt8) (x:List AV) (hv:aZ v bs.length (aL bs++x)) (hn:bs.length≤1000000000000):aR ayS 121 [aA k r c w,v] (aiL k r c w bs):=by
 have hp:=hv.plain
 unfold aiL
 cases h:bG k r c w with
 | false =>
  have he:gD k r c w bs=2:=by simp [gD,h]
  rw [if_neg (by rw [he];decide),he]
  refine aX Tryz.func121 aB (h:=?_);unfold Tryz.f121
  have me:aF.empty.next=0:=rfl
  simp only [↓pre,zae,aey,aM,aBd,simprocAttr,aA,h,me,azx,aJ];repeat' ((first | refine cU (fun _ => ?_) (fun _ => ?_) | refine cO (fun _ => ?_) (fun _ => ?_) | refine cV (fun _ => ?_) (fun _ => ?_) | refine cQ (fun _ => ?_) (fun _ => ?_) | refine cS (fun _ => ?_) (fun _ => ?_) | refine cM (fun _ => ?_) (fun _ => ?_) | refine aH (sP _ _ _ _) (by first | rfl | simp only [aA,aD, *]) ?_ | refine aG (sP _ _ _ _) (by first | rfl | simp only [aA,aD, *]) (by intro k;first | rfl | simp only [ *,zaa]) ?_) <;> simp only [↓pre,zae,aey,aM,aBd,simprocAttr,aA,h,me,azx,aJ, *])
  rfl
 | true =>
  by_cases hl:bs.length=8
  ·have he:gD k r c w bs=if qY w (fM bs)=true then 0 else 220:=by simp [gD,h,hl]
   refine ⟨by kernel_rfl,fun W I vs hI hsz hvs => ?_⟩
   rcases hv.form with ⟨_,h0⟩ | ⟨_,_,_,h0⟩ | ⟨cc,f,rfl,hcc⟩
   ·omega
   ·omega
   simp only [bC,VR] at hvs
   obtain ⟨⟨v1,h1,ps,rfl,hps,_,⟨p0,hp0,rfl⟩,⟨p1,hp1,rfl⟩,⟨p2,hp2,rfl⟩,⟨p3,hp3,rfl⟩,_⟩,⟨v2,h2,g,o,cap,rfl,hIg,⟨hc1,hc2⟩,_,_,hcells⟩,_⟩:=hvs
   have hps':ps = #[.int .i64 k,.int .i64 r,.int .i64 c,.int .i64 w]:=by
    match ps,hps,hp0,hp1,hp2,hp3 with
    | ⟨[a,b,d,e]⟩,_,hp0,hp1,hp2,hp3=>simp at hp0 hp1 hp2 hp3;simp [hp0,hp1,hp2,hp3]
   subst hps'
   rw [hl] at h2 hc1
   have hvs':vs = #[.agg #[.int .i64 k,.int .i64 r,.int .i64 c,.int .i64 w],.slice (some ⟨g,o,none⟩) 8 cap]:=by
    match vs,hsz,h1,h2 with
    | ⟨[a,b]⟩,_,h1,h2=>simp at h1 h2;simp [h1,h2]
   subst hvs'
   have hcs:∀ j,j < 8→W.cell? ⟨g,o+j,none⟩=some (.int .u8 (bs.getD j 0).toNat):=fun j hj=>by
    have hj2:=iE (bs:=bs) (x:=x) (i:=j) (a:=bs.getD j 0) (by rw [azp,azj (by omega)];rfl)
    obtain ⟨u,q1,q2⟩:=gQ hcells hj2
    simp only [VR] at q2
    rw [q2] at q1
    exact q1
   refine (callsIn_wide.1 (apK Fence.wide ⟨rfl⟩ h g o cap (by omega) bs hl W (hI g hIg) hcs)).mono fun e W' hq => ?_
   obtain ⟨hB,hq⟩:=hq
   have hnoWr:∀ g,¬ Wr cZ aF.empty g:=by
    rintro g (⟨b,kk,o,q1,_⟩ | q1)
    ·simp [aF.empty] at q1
    ·exact q9 q1
   have hS:∀ I':Nat→Prop,(∀ g,I' g→g < W'.heap.size)→SR ayS W' I' cZ (dT ayS aF.empty []):=fun I' hI'=>⟨fun b k g o h=>by simp [dT,gO,aF.empty] at h,fun b b' k k' g o o' h=>by simp [dT,gO,aF.empty] at h,hI',jH.none⟩
   have hSt:∀ I':Nat→Prop,(∀ g,I g→I' g)→(∀ g,I' g→I g∨W.heap.size≤g)→cL W I cZ aF.empty W' I' cZ (dT ayS aF.empty []):=fun I' q1 q2=>⟨hB.os,hB.tape,hB.output,hB.size,fun g hg _=>hB.block g hg,fun g y hy=>by rw [tR (hB.block g (zF hy))];exact hy,q1,fun g hg=>(q2 g hg).imp id .inr,fun _ _ h=>h,fun b h1 h2=>absurd h1 h2,fun g hg=>by
    rcases hg with ⟨b,kk,o,q1,_⟩ | q1
    ·simp [dT,gO,aF.empty] at q1
    ·exact absurd q1 q9,ay7 _⟩
   rcases hq with ⟨hr,v,rfl,hown,_⟩ | ⟨hr,rfl⟩
   ·rw [if_pos (by rw [he,if_pos hr])]
    rcases hown.2 with ⟨rfl,h0⟩ | ⟨g2,cap2,cur,rfl,q1,q2,q3,q4,q5,q6⟩
    ·omega
    refine ⟨_,(fun y=>I y∨y=g2),cZ,rfl, ?_,hS _ ?_,hSt _ (fun y hy => .inl hy) ?_⟩
    ·simp only [VR,bC]
     refine ⟨_,rfl,rfl,⟨_,rfl,g2,0,cap2,rfl,.inr rfl,⟨ay7 _,q3⟩,(fun h=>by cases h), ?_, ?_⟩,⟨_,rfl,rfl⟩,trivial⟩
     ·intro a ha
      obtain ⟨z,_,rfl⟩:=azm.1 ha
      rfl
     ·refine j6.2 fun j a hj => ?_
      unfold bK at hj
      rw [azl] at hj
      obtain ⟨z,hz,rfl⟩:=ayR hj
      refine ⟨.int .i64 z, ?_,by simp only [aC,VR]⟩
      have hjl:=(ay5.1 hz).1
      have hdl:=adr bs
      have h6:=congrArg (fun l:List Value=>l[j]?) q6
      simp only [azl,hz,az3,azD] at h6
      rw [aBQ (by omega),aAi] at h6
      rw [azn,cell_of_row _ _ _ _ _ _ q2]
      exact h6
    ·rintro y (hy | rfl)
     ·exact aza (hI y hy) hB.size
     ·exact vU q2
    ·rintro y (hy | rfl)
     ·exact .inl hy
     ·exact .inr q1
   ·have he':gD k r c w bs=220:=by rw [he,hr];rfl
    rw [if_neg (by rw [he'];decide),he']
    refine ⟨_,I,cZ,rfl, ?_,hS _ (fun y hy=>aza (hI y hy) hB.size),hSt _ (fun _ h=>h) (fun _ h => .inl h)⟩
    simp only [ab4,fU,if_true,VR,bC,aN,aC]
    exact ⟨_,rfl,rfl,⟨_,rfl,rfl⟩,⟨_,rfl,rfl⟩,trivial⟩
  ·have hl':¬ ((bs.length:Nat):Int)=8:=by omega
   have he:gD k r c w bs=220:=by simp [gD,h,hl]
   replace hl:=Hid.mk hl
   rw [if_neg (by rw [he];decide),he]
   refine aX Tryz.func121 aB (h:=?_);unfold Tryz.f121
   have me:aF.empty.next=0:=rfl
   simp only [↓pre,zae,aey,aM,aBd,simprocAttr,aA,h,me,hv.len',hl',aJ];repeat' ((first | refine cU (fun _ => ?_) (fun _ => ?_) | refine cO (fun _ => ?_) (fun _ => ?_) | refine cV (fun _ => ?_) (fun _ => ?_) | refine cQ (fun _ => ?_) (fun _ => ?_) | refine cS (fun _ => ?_) (fun _ => ?_) | refine cM (fun _ => ?_) (fun _ => ?_) | refine aH (sP _ _ _ _) (by first | rfl | simp only [aA,aD, *]) ?_ | refine aG (sP _ _ _ _) (by first | rfl | simp only [aA,aD, *]) (by intro k;first | rfl | simp only [ *,zaa]) ?_) <;> simp only [↓pre,zae,aey,aM,aBd,simprocAttr,aA,h,me,hv.len',hl',aJ, *])
   rfl
def y7 (k r c w:Int) (bs:List UInt8):AV:=if gD k r c w bs=0 then .tup [.tree 4 4 (bK (fM bs)) false,aC 0] else .tup [aN,aC (gD k r c w bs)]
theorem apL (k r c w:Int) (v:AV) (bs:List UInt8) (x:List AV) (hv:aZ v bs.length (aL bs++x)) (hn:bs.length≤1000000000000):aR ayS 121 [aA k r c w,v] ⟨y7 k r c w bs,[]⟩:=by
 have h:=axU k r c w v bs x hv hn
 unfold aiL at h
 unfold y7
 split at h
 ·rename_i h1
  rw [if_pos h1]
  exact h
 ·rename_i h1
  rw [if_neg h1]
  exact h
theorem apM {k r c w:Int} {bs:List UInt8} (h:gD k r c w bs=0):(fM bs).length=4:=by
 rw [adr]
 unfold gD at h
 split at h
 ·split at h
  ·omega
  ·omega
 ·omega
theorem axV {k r c w:Int} {bs:List UInt8} (h:gD k r c w bs=0):aZ (.tree 4 4 (bK (fM bs)) false) (fM bs).length (bK (fM bs)):=by
 rw [apM h]
 exact ⟨.inr (.inr ⟨_,_,rfl,ay7 _⟩)⟩
theorem apN (k r c w:Int) (bs:List UInt8):∃ a,y7 k r c w bs = .tup [a,aC (gD k r c w bs)]∧(∀ j,shift j a=a)∧eH a:=by
 unfold y7
 split
 ·rename_i h
  have:=axV h
  rw [h]
  exact ⟨_,rfl,fun j=>cH this j,kT this⟩
 ·exact ⟨_,rfl,fun j=>rfl,bN _⟩
def nK (k r c w:Int) (L:List (List UInt8)) (row:Int):Int:=if jS k r c w L row=0 then jE k r c w L (gV k r c w L row) 0 (cK (dC k r c w L row)).toNat else jS k r c w L row
def dJ (k r c w:Int) (L:List (List UInt8)) (row:Int):List UInt8:=if nK k r c w L row=0 then jT k r c w L (gV k r c w L row) 0 (cK (dC k r c w L row)).toNat else []
theorem afR (k r c w:Int) (L:List (List UInt8)) (row:Int):afx k r c w L row = .tup [kX (dJ k r c w L row),aC (nK k r c w L row)]:=by
 have h0:kX []=aN:=rfl
 unfold dJ
 unfold afx yV nK
 by_cases h:jS k r c w L row=0
 ·rw [if_pos h,if_pos h]
  by_cases h2:jE k r c w L (gV k r c w L row) 0 (cK (dC k r c w L row)).toNat=0
  ·rw [if_pos h2,if_pos h2,h2]
  ·rw [if_neg h2,if_neg h2,h0]
 ·rw [if_neg h,if_neg h,if_neg h,h0]
theorem aat (k r c w:Int) (L:List (List UInt8)) (row:Int):(dJ k r c w L row).length≤32768:=by
 unfold dJ
 split
 ·rename_i h
  unfold nK at h
  split at h
  ·rename_i h2
   obtain ⟨_,_,_,_,_,hl0,hl1⟩:=afw h2
   unfold jT
   rw [pJ]
   omega
  ·contradiction
 ·simp
theorem afS (b:List UInt8):aZ (kX b) b.length (aL b++[]):=yT b
def jV (k r c w:Int) (L:List (List UInt8)):Int:=if nK k r c w L 0=0 then gD k r c w (dJ k r c w L 0) else nK k r c w L 0
def eM (k r c w:Int) (L:List (List UInt8)):List Int:=fM (dJ k r c w L 0)
def tN (k r c w:Int) (L:List (List UInt8)):AV:=if jV k r c w L=0 then .tup [.tree 4 4 (bK (eM k r c w L)) false,aC 0] else .tup [aN,aC (jV k r c w L)]
theorem aiM (k r c w:Int) (v:AV) (L:List (List UInt8)) (cells:List AV) (hv:fQ v L cells):aR ayS 48 [dD k r c w v] ⟨tN k r c w L,[]⟩:=by
 refine d6 ?_
 have hp:=hv.rd.plain
 have hf:=b6 hv.rd
 have ho:=bQ hv.rd
 have hob:=afy k r c w 0 v L cells hv
 rw [afR] at hob
 have hTr:=afS (dJ k r c w L 0)
 have hbl:=aat k r c w L 0
 have hdb:=apL k r c w _ _ [] hTr (by omega)
 have p2:=hTr.plain
 have f2:=b6 hTr
 have o2:=bQ hTr
 have s2:=cH hTr
 unfold tN jV eM
 unfold dD at hob ⊢
 simp only [aC] at hob
 generalize kX (dJ k r c w L 0)=TV at *
 replace hbl:=Hid.mk hbl
 replace hTr:=Hid.mk hTr
 by_cases hE:nK k r c w L 0=0
 ·rw [if_pos hE]
  rw [hE] at hob
  obtain ⟨a,ha,hsh,hid⟩:=apN k r c w (dJ k r c w L 0)
  have hz:=fun m=>eW hid (bN (.int .i64 (gD k r c w (dJ k r c w L 0)))) 1 m
  rw [show (if gD k r c w (dJ k r c w L 0)=0 then AV.tup [.tree 4 4 (bK (fM (dJ k r c w L 0))) false,aC 0] else .tup [aN,aC (gD k r c w (dJ k r c w L 0))])=y7 k r c w (dJ k r c w L 0) from rfl,ha]
  rw [ha] at hdb
  simp only [aC] at hdb
  generalize gD k r c w (dJ k r c w L 0)=BE at *
  replace hz:=Hid.mk hz
  replace ha:=Hid.mk ha
  replace hE:=Hid.mk hE
  refine bI Tryz.func48 aB (h:=?_);unfold Tryz.f48
  simp only [↓pre,zac,rF,simprocAttr,aA,hf,ho,f2,o2,s2,aJ]
  (first | refine aH (hob) (by first | rfl | simp only [aA,aD, *]) ?_ | refine aG (hob) (by first | rfl | simp only [aA,aD, *]) (by intro k;first | rfl | simp only [ *,zaa]) ?_);simp only [↓pre,zac,rF,simprocAttr,aA,hf,ho,f2,o2,s2,aJ,hsh];(first | refine aH (hdb) (by first | rfl | simp only [aA,aD, *]) ?_ | refine aG (hdb) (by first | rfl | simp only [aA,aD, *]) (by intro k;first | rfl | simp only [ *,zaa]) ?_);simp only [↓pre,zac,rF,simprocAttr,aA,hf,ho,f2,o2,s2,aJ,hsh]
  exact ⟨1,hz.out _⟩
 ·rw [if_neg hE,if_neg hE]
  have hz:=fun m=>eW (bN (.slice none 0 0)) (bN (.int .i64 (nK k r c w L 0))) 1 m
  replace hz:=Hid.mk hz
  refine bI Tryz.func48 aB (h:=?_);unfold Tryz.f48
  simp only [↓pre,zac,rF,simprocAttr,aA,hf,ho,f2,o2,s2,aJ]
  (first | refine aH (hob) (by first | rfl | simp only [aA,aD, *]) ?_ | refine aG (hob) (by first | rfl | simp only [aA,aD, *]) (by intro k;first | rfl | simp only [ *,zaa]) ?_);simp only [↓pre,zac,rF,simprocAttr,aA,hf,ho,f2,o2,s2,aJ,hE]
  exact ⟨1,hz.out _⟩
def y8 (k r c w:Int) (L:List (List UInt8)) (b:Int):Int:=if fA k r c w L=0 then (if b < 0∨4≤b then 2 else if jV k r c w L=0 then nK k r c w L ((eM k r c w L).getD b.toNat 0) else jV k r c w L) else fA k r c w L
def enV (k r c w:Int) (L:List (List UInt8)) (b:Int):AV:=if y8 k r c w L b=0 then ab0 k r c w (dJ k r c w L ((eM k r c w L).getD b.toNat 0)) else .tup [aN,aC (y8 k r c w L b)]
theorem apO (k r c w:Int) (bs:List UInt8):∃ a,ab0 k r c w bs = .tup [a,aC (fK k r c w bs)]∧(∀ j,shift j a=a)∧eH a:=⟨_,rfl,fun j=>aaV,kT (dY _ _)⟩
theorem ab5 {k r c w:Int} {L:List (List UInt8)} (h:jV k r c w L=0):(eM k r c w L).length=4:=by
 unfold jV at h
 split at h
 ·exact apM h
 ·contradiction
theorem axW (k r c w b:Int) (v:AV) (L:List (List UInt8)) (cells:List AV) (hv:fQ v L cells):aR ayS 50 [dD k r c w v,aC b] ⟨enV k r c w L b,[]⟩:=by
 refine d6 ?_
 have hp:=hv.rd.plain
 have hf:=b6 hv.rd
 have ho:=bQ hv.rd
 have hck:=abQ k r c w v L cells hv
 have hbk:=aiM k r c w v L cells hv
 unfold enV y8
 unfold tN at hbk
 unfold dD at hck hbk ⊢
 have hn2:=fun m (e:Int)=>eW (bN (.slice none 0 0)) (bN (.int .i64 e)) 1 m
 replace hn2:=Hid.mk hn2
 by_cases hI:fA k r c w L=0
 ·rw [hI] at hck
  simp only [if_pos hI]
  replace hI:=Hid.mk hI
  by_cases h1:b < 0
  ·rw [if_pos (Or.inl h1),if_neg (by decide)]
   refine bI Tryz.func50 aB (h:=?_);unfold Tryz.f50
   simp only [↓pre,zac,gI,simprocAttr,aA,hf,ho,aJ]
   (first | refine aH (hck) (by first | rfl | simp only [aA,aD, *]) ?_ | refine aG (hck) (by first | rfl | simp only [aA,aD, *]) (by intro k;first | rfl | simp only [ *,zaa]) ?_);simp only [↓pre,zac,gI,simprocAttr,aA,hf,ho,aJ,h1]
   exact ⟨1,hn2.out _ _⟩
  ·by_cases h2:4≤b
   ·rw [if_pos (Or.inr h2),if_neg (by decide)]
    refine bI Tryz.func50 aB (h:=?_);unfold Tryz.f50
    simp only [↓pre,zac,gI,simprocAttr,aA,hf,ho,aJ]
    (first | refine aH (hck) (by first | rfl | simp only [aA,aD, *]) ?_ | refine aG (hck) (by first | rfl | simp only [aA,aD, *]) (by intro k;first | rfl | simp only [ *,zaa]) ?_);simp only [↓pre,zac,gI,simprocAttr,aA,hf,ho,aJ,h1,h2]
    exact ⟨1,hn2.out _ _⟩
   ·simp only [if_neg (show ¬ (b < 0∨4≤b) by omega)]
    by_cases hB:jV k r c w L=0
    ·rw [if_pos hB] at hbk
     simp only [if_pos hB]
     obtain ⟨i,rfl⟩:∃ i:Nat,b=(i:Int):=⟨b.toNat,by omega⟩
     rw [Int.toNat_natCast]
     have hil:i < 4:=by omega
     have hbl:=ab5 hB
     obtain ⟨n,hn⟩:∃ n,(eM k r c w L)[i]? = some n:=⟨_,azj (by omega)⟩
     have hn1:(eM k r c w L).getD i 0=n:=by rw [azp,hn];rfl
     rw [hn1]
     have hR4:aZ (.tree 4 4 (bK (eM k r c w L)) false) 4 (bK (eM k r c w L)):=⟨.inr (.inr ⟨_,_,rfl,ay7 _⟩)⟩
     have a1:=nB (x:=[]) hn
     rw [aBi] at a1
     have p4:=hR4.plain
     have f4:=b6 hR4
     have o4:=bQ hR4
     have s4:=cH hR4
     have l4:=fun P t=>hR4.len' (P:=P) (t:=t)
     have d4:=fun P t k=>hR4.addr' (P:=P) (t:=t) (k:=k)
     generalize AV.tree 4 4 (bK (eM k r c w L)) false=RV at *
     generalize bK (eM k r c w L)=RC at *
     have hob:=afy k r c w n v L cells hv
     rw [afR] at hob
     have hTr:=afS (dJ k r c w L n)
     have hol:=aat k r c w L n
     have hdp:=axy k r c w _ _ [] hTr (by omega)
     have p2:=hTr.plain
     have f2:=b6 hTr
     have o2:=bQ hTr
     have s2:=cH hTr
     unfold dD at hob
     simp only [aC] at hob hbk
     generalize kX (dJ k r c w L n)=TV at *
     replace hbl:=Hid.mk hbl
     replace hn:=Hid.mk hn
     replace hn1:=Hid.mk hn1
     replace hB:=Hid.mk hB
     replace hR4:=Hid.mk hR4
     replace hol:=Hid.mk hol
     replace hTr:=Hid.mk hTr
     by_cases hE:nK k r c w L n=0
     ·rw [if_pos hE]
      rw [hE] at hob
      obtain ⟨a,ha,hsh,hid⟩:=apO k r c w (dJ k r c w L n)
      have hz:=fun m=>eW hid (bN (.int .i64 (fK k r c w (dJ k r c w L n)))) 1 m
      rw [ha]
      rw [ha] at hdp
      simp only [aC] at hdp
      generalize fK k r c w (dJ k r c w L n)=PE at *
      replace hz:=Hid.mk hz
      replace ha:=Hid.mk ha
      replace hE:=Hid.mk hE
      refine bI Tryz.func50 aB (h:=?_);unfold Tryz.f50
      simp only [↓pre,zac,gI,simprocAttr,aA,hf,ho,aJ]
      (first | refine aH (hck) (by first | rfl | simp only [aA,aD, *]) ?_ | refine aG (hck) (by first | rfl | simp only [aA,aD, *]) (by intro k;first | rfl | simp only [ *,zaa]) ?_);simp only [↓pre,zac,gI,simprocAttr,aA,hf,ho,aJ,h1,h2,hil,a1,f2,o2,s2,f4,o4,s4,l4,d4,hsh];(first | refine aH (hbk) (by first | rfl | simp only [aA,aD, *]) ?_ | refine aG (hbk) (by first | rfl | simp only [aA,aD, *]) (by intro k;first | rfl | simp only [ *,zaa]) ?_);simp only [↓pre,zac,gI,simprocAttr,aA,hf,ho,aJ,h1,h2,hil,a1,f2,o2,s2,f4,o4,s4,l4,d4,hsh];(first | refine aH (hob) (by first | rfl | simp only [aA,aD, *]) ?_ | refine aG (hob) (by first | rfl | simp only [aA,aD, *]) (by intro k;first | rfl | simp only [ *,zaa]) ?_);simp only [↓pre,zac,gI,simprocAttr,aA,hf,ho,aJ,h1,h2,hil,a1,f2,o2,s2,f4,o4,s4,l4,d4,hsh];(first | refine aH (hdp) (by first | rfl | simp only [aA,aD, *]) ?_ | refine aG (hdp) (by first | rfl | simp only [aA,aD, *]) (by intro k;first | rfl | simp only [ *,zaa]) ?_);simp only [↓pre,zac,gI,simprocAttr,aA,hf,ho,aJ,h1,h2,hil,a1,f2,o2,s2,f4,o4,s4,l4,d4,hsh]
      exact ⟨1,hz.out _⟩
     ·rw [if_neg hE]
      refine bI Tryz.func50 aB (h:=?_);unfold Tryz.f50
      simp only [↓pre,zac,gI,simprocAttr,aA,hf,ho,aJ]
      (first | refine aH (hck) (by first | rfl | simp only [aA,aD, *]) ?_ | refine aG (hck) (by first | rfl | simp only [aA,aD, *]) (by intro k;first | rfl | simp only [ *,zaa]) ?_);simp only [↓pre,zac,gI,simprocAttr,aA,hf,ho,aJ,h1,h2,hil,a1,f2,o2,s2,f4,o4,s4,l4,d4,hE];(first | refine aH (hbk) (by first | rfl | simp only [aA,aD, *]) ?_ | refine aG (hbk) (by first | rfl | simp only [aA,aD, *]) (by intro k;first | rfl | simp only [ *,zaa]) ?_);simp only [↓pre,zac,gI,simprocAttr,aA,hf,ho,aJ,h1,h2,hil,a1,f2,o2,s2,f4,o4,s4,l4,d4,hE];(first | refine aH (hob) (by first | rfl | simp only [aA,aD, *]) ?_ | refine aG (hob) (by first | rfl | simp only [aA,aD, *]) (by intro k;first | rfl | simp only [ *,zaa]) ?_);simp only [↓pre,zac,gI,simprocAttr,aA,hf,ho,aJ,h1,h2,hil,a1,f2,o2,s2,f4,o4,s4,l4,d4,hE]
      exact ⟨1,hn2.out _ _⟩
    ·rw [if_neg hB] at hbk
     simp only [if_neg hB]
     unfold aN at hbk
     simp only [aC] at hbk
     refine bI Tryz.func50 aB (h:=?_);unfold Tryz.f50
     simp only [↓pre,zac,gI,simprocAttr,aA,hf,ho,aJ]
     (first | refine aH (hck) (by first | rfl | simp only [aA,aD, *]) ?_ | refine aG (hck) (by first | rfl | simp only [aA,aD, *]) (by intro k;first | rfl | simp only [ *,zaa]) ?_);simp only [↓pre,zac,gI,simprocAttr,aA,hf,ho,aJ,h1,h2,hB];(first | refine aH (hbk) (by first | rfl | simp only [aA,aD, *]) ?_ | refine aG (hbk) (by first | rfl | simp only [aA,aD, *]) (by intro k;first | rfl | simp only [ *,zaa]) ?_);simp only [↓pre,zac,gI,simprocAttr,aA,hf,ho,aJ,h1,h2,hB]
     exact ⟨1,hn2.out _ _⟩
 ·simp only [if_neg hI]
  refine bI Tryz.func50 aB (h:=?_);unfold Tryz.f50
  simp only [↓pre,zac,gI,simprocAttr,aA,hf,ho,aJ]
  (first | refine aH (hck) (by first | rfl | simp only [aA,aD, *]) ?_ | refine aG (hck) (by first | rfl | simp only [aA,aD, *]) (by intro k;first | rfl | simp only [ *,zaa]) ?_);simp only [↓pre,zac,gI,simprocAttr,aA,hf,ho,aJ,hI]
  exact ⟨1,hn2.out _ _⟩
def lN (l:List UInt8):Nat:=(l.map UInt8.toNat).sum
theorem aiN (l:List UInt8):lN l≤l.length*255:=by
 induction l with
 | nil=>exact ay7 _
 | cons a l ih =>
  have:=a.toNat_lt
  simp only [lN,List.map_cons,List.sum_cons,aAC] at ih ⊢
  omega
theorem apP {l:List UInt8} {i:Nat} {a:UInt8} (h:l[i]? = some a):lN (l.take (i+1))=lN (l.take i)+a.toNat:=by
 unfold lN
 rw [aA6,h]
 simp
def gM (s:ByteArray):Nat:=lN s.data.toList % 4
theorem axX (d:Bool) (m:aF) (s:ByteArray):mM ayS d true m 9 52 (.val (.string s))=some ⟨.tree s.data.toList.length s.data.toList.length (aL s.data.toList) false,m,none⟩:=by
 rw [ad3 (by kernel_rfl) (by kernel_rfl) (by kernel_rfl) (by kernel_rfl)]
 rw [show s.data.toList.length=s.size by cases s;simp [ByteArray.size]]
 rfl
theorem axY (s:ByteArray) (hs:s.size≤1000000000000000):aR ayS 56 [gG s] ⟨.tup [aC (if kI s then (gM s:Nat) else 0),aC (if kI s then 0 else 6)],[]⟩:=by
 have h1:=uR s hs
 cases hn:kI s with
 | false =>
  rw [hn] at h1
  refine aX Tryz.func56 aB (h:=?_);unfold Tryz.f56
  simp only [↓pre,zag,abd,simprocAttr,aA]
  (first | refine aH (h1) (by first | rfl | simp only [aA,aD, *]) ?_ | refine aG (h1) (by first | rfl | simp only [aA,aD, *]) (by intro k;first | rfl | simp only [ *,zaa]) ?_);simp only [↓pre,zag,abd,simprocAttr,aA,azx]
 | true =>
  rw [hn] at h1
  have hl:s.data.toList.length=s.size:=by cases s;simp [ByteArray.size]
  have hcv:=fun d m=>axX d m s
  unfold gM
  generalize s.data.toList=l at *
  have hv:aZ (.tree l.length l.length (aL l) false) l.length (aL l++[]):=⟨.inr (.inr ⟨_,_,by rw [aBi],ay7 _⟩)⟩
  refine aX Tryz.func56 aB (h:=?_);unfold Tryz.f56
  simp only [↓pre,zag,abd,simprocAttr,aA]
  generalize hV:AV.tree l.length l.length (aL l) false=V at *
  replace hV:=Hid.mk hV
  (first | refine aH (h1) (by first | rfl | simp only [aA,aD, *]) ?_ | refine aG (h1) (by first | rfl | simp only [aA,aD, *]) (by intro k;first | rfl | simp only [ *,zaa]) ?_);simp only [↓pre,zag,abd,simprocAttr,aA,hcv,hv.len']
  rw [bS]
  refine bU (fun q e m=>∃ i,q+i=l.length∧e 14=V∧e 15=aC (l.length:Nat)∧e 16=aC (i:Nat)∧e 5=aC (lN (l.take i):Nat)) l.length ⟨0,by omega,rfl,rfl,rfl,rfl⟩ ?_
  rintro q e m ⟨i,hq,e14,e15,e16,e5⟩
  have hlen:l.length≤24:=by
   unfold kI at hn
   rw [decide_eq_true_eq] at hn
   omega
  by_cases hlt:i < l.length
  ·have hlt':((i:Nat):Int) < ((l.length:Nat):Int):=by omega
   obtain ⟨a,ha⟩:∃ a,l[i]? = some a:=⟨_,azj hlt⟩
   have hba:=iE (x:=[]) ha
   rw [aBi] at hba
   have w0:=bY (n:=i) (by omega)
   have hal:=a.toNat_lt
   have hst:=apP ha
   have hsl:=aiN (l.take i)
   have htl:(l.take i).length≤24:=by rw [aBP];omega
   have w1:azv.wrap (a.toNat:Int)=(a.toNat:Int):=cD (by omega)
   have w2:azv.wrap ((lN (l.take i):Int)+(a.toNat:Int))=(lN (l.take (i+1)):Int):=by
    rw [show (lN (l.take i):Int)+(a.toNat:Int)=((lN (l.take (i+1)):Nat):Int) by omega]
    exact cD (by omega)
   replace ha:=Hid.mk ha
   replace hst:=Hid.mk hst
   simp only [↓pre,zag,abd,bE,simprocAttr,aA,e14,e15,e16,e5,hlt',hlt,hv.addr',hba,w0,w1,w2]
   exact ⟨q - 1,by omega,i+1,by omega,rfl,rfl⟩
  ·have hlt':¬ ((i:Nat):Int) < ((l.length:Nat):Int):=by omega
   have hli:l.take i=l:=aA7 (by omega)
   have hm:(lN l:Int).tmod 4=((lN l % 4:Nat):Int):=by rw [Int.tmod_eq_emod_of_nonneg (by omega)];omega
   have w3:azv.wrap ((lN l % 4:Nat):Int)=((lN l % 4:Nat):Int):=cD (by omega)
   rw [hli] at e5
   replace hli:=Hid.mk hli
   simp only [↓pre,zag,abd,simprocAttr,aA,e14,e15,e16,e5,hlt',hm,w3]
def qZ (k r c w:Int) (L:List (List UInt8)) (b:Int):Int:=if y8 k r c w L b=0 then fK k r c w (dJ k r c w L ((eM k r c w L).getD b.toNat 0)) else y8 k r c w L b
def iF (k r c w:Int) (L:List (List UInt8)) (b:Int):List dV:=nJ (dJ k r c w L ((eM k r c w L).getD b.toNat 0))
theorem aiO (k r c w:Int) (L:List (List UInt8)) (b:Int):enV k r c w L b = .tup [bD (if qZ k r c w L b=0 then iF k r c w L b else []).length (dX (if qZ k r c w L b=0 then iF k r c w L b else [])),aC (qZ k r c w L b)]:=by
 unfold enV qZ iF
 split
 ·rfl
 ·rfl
theorem axZ {k r c w:Int} {bs:List UInt8} (h:fK k r c w bs=0):bG k r c w=true∧(bs.length:Int)≤mI k c∧oG w (nJ bs)=true∧fB (nJ bs)=bs.length:=by
 unfold fK at h
 split at h
 ·rename_i h1
  split at h
  ·omega
  ·rename_i h2
   unfold nJ
   split at h
   ·rename_i l hl
    rw [hl]
    split at h
    ·rename_i h3
     exact ⟨h1,by omega,h3,adq hl⟩
    ·omega
   ·omega
 ·omega
theorem afT {k r c w:Int} {L:List (List UInt8)} {b:Int} (h:qZ k r c w L b=0):fA k r c w L=0∧0≤b∧b < 4∧jV k r c w L=0∧oG w (iF k r c w L b)=true∧fB (iF k r c w L b)≤32768∧chk k r c w (iF k r c w L b)=0:=by
 unfold qZ at h
 split at h
 ·rename_i h1
  obtain ⟨g1,g2,g3,g4⟩:=axZ h
  have hl:=aat k r c w L ((eM k r c w L).getD b.toNat 0)
  unfold y8 at h1
  split at h1
  ·rename_i h2
   split at h1
   ·omega
   ·split at h1
    ·rename_i h3
     refine ⟨h2,by omega,by omega,h3,g3,by unfold iF;omega, ?_⟩
     unfold iF chk
     rw [if_pos g1,if_pos g3,if_neg (by omega)]
    ·contradiction
  ·contradiction
 ·contradiction
def xH (k r c w:Int) (L:List (List UInt8)) (s:ByteArray):Int:=if fA k r c w L=0 then (if kI s=true then (if jV k r c w L=0 then qZ k r c w L (gM s:Nat) else jV k r c w L) else 6) else fA k r c w L
def fiV (k r c w:Int) (L:List (List UInt8)) (s:ByteArray):AV:=if xH k r c w L s=0 then .tup [aC (if mG (iF k r c w L (gM s:Nat)) s=true then vO (iF k r c w L (gM s:Nat)) s else 0),aC ((eM k r c w L).getD (gM s) 0),aV (mG (iF k r c w L (gM s:Nat)) s),aC 0] else .tup [aC 0,aC 0,aV false,aC (xH k r c w L s)]
theorem apQ (s:ByteArray):gM s < 4:=Nat.mod_lt _ (by decide)
theorem ax0 (k r c w:Int) (v:AV) (L:List (List UInt8)) (cells:List AV) (hv:fQ v L cells) (s:ByteArray) (hs:s.size≤1000000000000000):aR ayS 52 [dD k r c w v,gG s] ⟨fiV k r c w L s,[]⟩:=by
 have hp:=hv.rd.plain
 have hf:=b6 hv.rd
 have ho:=bQ hv.rd
 have hck:=abQ k r c w v L cells hv
 have hnb:=axY s hs
 have hbk:=aiM k r c w v L cells hv
 have hen:=axW k r c w (gM s:Nat) v L cells hv
 have hbu:=apQ s
 rw [aiO] at hen
 unfold fiV xH
 unfold tN at hbk
 unfold dD at hck hbk hen ⊢
 by_cases hI:fA k r c w L=0
 ·rw [hI] at hck
  simp only [if_pos hI]
  cases hn:kI s with
  | false =>
   rw [hn] at hnb
   simp only [azx,if_false] at hnb ⊢
   rw [if_neg (by decide)]
   replace hI:=Hid.mk hI
   refine aX Tryz.func52 aB (h:=?_);unfold Tryz.f52
   simp only [↓pre,zac,jJ,simprocAttr,aA,hf,ho,aJ]
   (first | refine aH (hck) (by first | rfl | simp only [aA,aD, *]) ?_ | refine aG (hck) (by first | rfl | simp only [aA,aD, *]) (by intro k;first | rfl | simp only [ *,zaa]) ?_);simp only [↓pre,zac,jJ,simprocAttr,aA,hf,ho,aJ];(first | refine aH (hnb) (by first | rfl | simp only [aA,aD, *]) ?_ | refine aG (hnb) (by first | rfl | simp only [aA,aD, *]) (by intro k;first | rfl | simp only [ *,zaa]) ?_);simp only [↓pre,zac,jJ,simprocAttr,aA,hf,ho,aJ]
  | true =>
   rw [hn] at hnb
   simp only [if_true] at hnb ⊢
   by_cases hB:jV k r c w L=0
   ·rw [if_pos hB] at hbk
    simp only [if_pos hB]
    obtain ⟨n,hn1⟩:∃ n,(eM k r c w L)[gM s]? = some n:=⟨_,azj (by rw [ab5 hB];exact hbu)⟩
    have hn2:(eM k r c w L).getD (gM s) 0=n:=by rw [azp,hn1];rfl
    rw [hn2]
    have hR4:aZ (.tree 4 4 (bK (eM k r c w L)) false) 4 (bK (eM k r c w L)):=⟨.inr (.inr ⟨_,_,rfl,ay7 _⟩)⟩
    have a1:=nB (x:=[]) hn1
    rw [aBi] at a1
    have p4:=hR4.plain
    have f4:=b6 hR4
    have o4:=bQ hR4
    have s4:=cH hR4
    have l4:=fun P t=>hR4.len' (P:=P) (t:=t)
    have d4:=fun P t k=>hR4.addr' (P:=P) (t:=t) (k:=k)
    generalize AV.tree 4 4 (bK (eM k r c w L)) false=RV at *
    generalize bK (eM k r c w L)=RC at *
    simp only [aC] at hbk hnb
    replace hI:=Hid.mk hI
    replace hB:=Hid.mk hB
    replace hn1:=Hid.mk hn1
    replace hn2:=Hid.mk hn2
    by_cases hE:qZ k r c w L (gM s:Nat)=0
    ·rw [if_pos hE]
     simp only [if_pos hE] at hen
     obtain ⟨_,_,_,_,_,h5,h6⟩:=afT hE
     have hdf:=axw k r c w _ (iF k r c w L (gM s:Nat)) [] s (by rw [aBi];exact dY _ _) (by omega) (by have:=afM (iF k r c w L (gM s:Nat));omega) hs
     have hnm:yZ k r c w (iF k r c w L (gM s:Nat)) s=0:=by unfold yZ;rw [if_pos h6,hn,if_pos rfl]
     unfold abY at hdf
     rw [if_pos hnm] at hdf
     rw [hE] at hen
     have hTr:=dY (iF k r c w L (gM s:Nat)).length (dX (iF k r c w L (gM s:Nat)))
     have p2:=hTr.plain
     have f2:=b6 hTr
     have o2:=bQ hTr
     have s2:=cH hTr
     generalize bD (iF k r c w L (gM s:Nat)).length (dX (iF k r c w L (gM s:Nat)))=TV at *
     replace hTr:=Hid.mk hTr
     replace hE:=Hid.mk hE
     replace hnm:=Hid.mk hnm
     replace h5:=Hid.mk h5
     replace h6:=Hid.mk h6
     generalize iF k r c w L (gM s:Nat)=EL at *
     simp only [aC] at hen
     cases hq:mG EL s with
     | true =>
      rw [hq] at hdf
      simp only [if_true] at hdf ⊢
      refine aX Tryz.func52 aB (h:=?_);unfold Tryz.f52
      simp only [↓pre,zac,jJ,simprocAttr,aA,hf,ho,aJ]
      (first | refine aH (hck) (by first | rfl | simp only [aA,aD, *]) ?_ | refine aG (hck) (by first | rfl | simp only [aA,aD, *]) (by intro k;first | rfl | simp only [ *,zaa]) ?_);simp only [↓pre,zac,jJ,simprocAttr,aA,hf,ho,aJ,f2,o2,s2,f4,o4,s4,l4,d4,a1,hbu];(first | refine aH (hnb) (by first | rfl | simp only [aA,aD, *]) ?_ | refine aG (hnb) (by first | rfl | simp only [aA,aD, *]) (by intro k;first | rfl | simp only [ *,zaa]) ?_);simp only [↓pre,zac,jJ,simprocAttr,aA,hf,ho,aJ,f2,o2,s2,f4,o4,s4,l4,d4,a1,hbu];(first | refine aH (hbk) (by first | rfl | simp only [aA,aD, *]) ?_ | refine aG (hbk) (by first | rfl | simp only [aA,aD, *]) (by intro k;first | rfl | simp only [ *,zaa]) ?_);simp only [↓pre,zac,jJ,simprocAttr,aA,hf,ho,aJ,f2,o2,s2,f4,o4,s4,l4,d4,a1,hbu];(first | refine aH (hen) (by first | rfl | simp only [aA,aD, *]) ?_ | refine aG (hen) (by first | rfl | simp only [aA,aD, *]) (by intro k;first | rfl | simp only [ *,zaa]) ?_);simp only [↓pre,zac,jJ,simprocAttr,aA,hf,ho,aJ,f2,o2,s2,f4,o4,s4,l4,d4,a1,hbu];(first | refine aH (hdf) (by first | rfl | simp only [aA,aD, *]) ?_ | refine aG (hdf) (by first | rfl | simp only [aA,aD, *]) (by intro k;first | rfl | simp only [ *,zaa]) ?_);simp only [↓pre,zac,jJ,simprocAttr,aA,hf,ho,aJ,f2,o2,s2,f4,o4,s4,l4,d4,a1,hbu]
     | false =>
      rw [hq] at hdf
      simp only [azx,if_false] at hdf ⊢
      refine aX Tryz.func52 aB (h:=?_);unfold Tryz.f52
      simp only [↓pre,zac,jJ,simprocAttr,aA,hf,ho,aJ]
      (first | refine aH (hck) (by first | rfl | simp only [aA,aD, *]) ?_ | refine aG (hck) (by first | rfl | simp only [aA,aD, *]) (by intro k;first | rfl | simp only [ *,zaa]) ?_);simp only [↓pre,zac,jJ,simprocAttr,aA,hf,ho,aJ,f2,o2,s2,f4,o4,s4,l4,d4,a1,hbu];(first | refine aH (hnb) (by first | rfl | simp only [aA,aD, *]) ?_ | refine aG (hnb) (by first | rfl | simp only [aA,aD, *]) (by intro k;first | rfl | simp only [ *,zaa]) ?_);simp only [↓pre,zac,jJ,simprocAttr,aA,hf,ho,aJ,f2,o2,s2,f4,o4,s4,l4,d4,a1,hbu];(first | refine aH (hbk) (by first | rfl | simp only [aA,aD, *]) ?_ | refine aG (hbk) (by first | rfl | simp only [aA,aD, *]) (by intro k;first | rfl | simp only [ *,zaa]) ?_);simp only [↓pre,zac,jJ,simprocAttr,aA,hf,ho,aJ,f2,o2,s2,f4,o4,s4,l4,d4,a1,hbu];(first | refine aH (hen) (by first | rfl | simp only [aA,aD, *]) ?_ | refine aG (hen) (by first | rfl | simp only [aA,aD, *]) (by intro k;first | rfl | simp only [ *,zaa]) ?_);simp only [↓pre,zac,jJ,simprocAttr,aA,hf,ho,aJ,f2,o2,s2,f4,o4,s4,l4,d4,a1,hbu];(first | refine aH (hdf) (by first | rfl | simp only [aA,aD, *]) ?_ | refine aG (hdf) (by first | rfl | simp only [aA,aD, *]) (by intro k;first | rfl | simp only [ *,zaa]) ?_);simp only [↓pre,zac,jJ,simprocAttr,aA,hf,ho,aJ,f2,o2,s2,f4,o4,s4,l4,d4,a1,hbu]
    ·rw [if_neg hE]
     simp only [if_neg hE] at hen
     rw [show bD ([]:List dV).length (dX [])=aN from rfl] at hen
     unfold aN at hen
     simp only [aC] at hen
     refine aX Tryz.func52 aB (h:=?_);unfold Tryz.f52
     simp only [↓pre,zac,jJ,simprocAttr,aA,hf,ho,aJ]
     (first | refine aH (hck) (by first | rfl | simp only [aA,aD, *]) ?_ | refine aG (hck) (by first | rfl | simp only [aA,aD, *]) (by intro k;first | rfl | simp only [ *,zaa]) ?_);simp only [↓pre,zac,jJ,simprocAttr,aA,hf,ho,aJ,f4,o4,s4,l4,d4,a1,hbu,hE];(first | refine aH (hnb) (by first | rfl | simp only [aA,aD, *]) ?_ | refine aG (hnb) (by first | rfl | simp only [aA,aD, *]) (by intro k;first | rfl | simp only [ *,zaa]) ?_);simp only [↓pre,zac,jJ,simprocAttr,aA,hf,ho,aJ,f4,o4,s4,l4,d4,a1,hbu,hE];(first | refine aH (hbk) (by first | rfl | simp only [aA,aD, *]) ?_ | refine aG (hbk) (by first | rfl | simp only [aA,aD, *]) (by intro k;first | rfl | simp only [ *,zaa]) ?_);simp only [↓pre,zac,jJ,simprocAttr,aA,hf,ho,aJ,f4,o4,s4,l4,d4,a1,hbu,hE];(first | refine aH (hen) (by first | rfl | simp only [aA,aD, *]) ?_ | refine aG (hen) (by first | rfl | simp only [aA,aD, *]) (by intro k;first | rfl | simp only [ *,zaa]) ?_);simp only [↓pre,zac,jJ,simprocAttr,aA,hf,ho,aJ,f4,o4,s4,l4,d4,a1,hbu,hE]
   ·rw [if_neg hB] at hbk
    simp only [if_neg hB]
    unfold aN at hbk
    simp only [aC] at hbk hnb
    refine aX Tryz.func52 aB (h:=?_);unfold Tryz.f52
    simp only [↓pre,zac,jJ,simprocAttr,aA,hf,ho,aJ]
    (first | refine aH (hck) (by first | rfl | simp only [aA,aD, *]) ?_ | refine aG (hck) (by first | rfl | simp only [aA,aD, *]) (by intro k;first | rfl | simp only [ *,zaa]) ?_);simp only [↓pre,zac,jJ,simprocAttr,aA,hf,ho,aJ,hB];(first | refine aH (hnb) (by first | rfl | simp only [aA,aD, *]) ?_ | refine aG (hnb) (by first | rfl | simp only [aA,aD, *]) (by intro k;first | rfl | simp only [ *,zaa]) ?_);simp only [↓pre,zac,jJ,simprocAttr,aA,hf,ho,aJ,hB];(first | refine aH (hbk) (by first | rfl | simp only [aA,aD, *]) ?_ | refine aG (hbk) (by first | rfl | simp only [aA,aD, *]) (by intro k;first | rfl | simp only [ *,zaa]) ?_);simp only [↓pre,zac,jJ,simprocAttr,aA,hf,ho,aJ,hB]
 ·simp only [if_neg hI]
  refine aX Tryz.func52 aB (h:=?_);unfold Tryz.f52
  simp only [↓pre,zac,jJ,simprocAttr,aA,hf,ho,aJ]
  (first | refine aH (hck) (by first | rfl | simp only [aA,aD, *]) ?_ | refine aG (hck) (by first | rfl | simp only [aA,aD, *]) (by intro k;first | rfl | simp only [ *,zaa]) ?_);simp only [↓pre,zac,jJ,simprocAttr,aA,hf,ho,aJ,hI]
theorem ax1:aR ayS 46 [] ⟨aV true,[]⟩:=by
 have h1:=abQ 0 0 0 0 aN [] [] ⟨⟨.inl ⟨rfl,rfl⟩⟩,fun i b h=>by simp at h⟩
 have hE:fA 0 0 0 0 []=2:=by
  unfold fA
  rw [if_neg (by decide)]
 rw [hE] at h1
 unfold dD aN at h1
 simp only [aC] at h1
 have h2:aR ayS 120 [.agg [.val (.int .i64 0),.val (.int .i64 0),.val (.int .i64 0),.val (.int .i64 0),.val (.slice none 0 0)]] ⟨.tup [aC 0,aC 2],[]⟩:=by
  refine aX Tryz.func120 aB (h:=?_);unfold Tryz.f120
  simp only [↓pre,zac,ame,simprocAttr,aA,aJ]
  (first | refine aH (h1) (by first | rfl | simp only [aA,aD, *]) ?_ | refine aG (h1) (by first | rfl | simp only [aA,aD, *]) (by intro k;first | rfl | simp only [ *,zaa]) ?_);simp only [↓pre,zac,ame,simprocAttr,aA,aJ]
 simp only [aC] at h2
 refine aX Tryz.func46 aB (h:=?_);unfold Tryz.f46
 simp only [↓pre,zag,amc,simprocAttr,aA]
 (first | refine aH (h2) (by first | rfl | simp only [aA,aD, *]) ?_ | refine aG (h2) (by first | rfl | simp only [aA,aD, *]) (by intro k;first | rfl | simp only [ *,zaa]) ?_);simp only [↓pre,zag,amc,simprocAttr,aA]
theorem ax2 (k r c w:Int) (v:AV) (L:List (List UInt8)) (cells:List AV) (hv:fQ v L cells):aR ayS 47 [dD k r c w v] ⟨aV (bG k r c w && decide (400 < (k+r)*w)),[]⟩:=by
 have hp:=hv.rd.plain
 have hf:=b6 hv.rd
 have ho:=bQ hv.rd
 have h1:=nA k r c w
 have h2:=fun h=>qI k r c w h
 unfold dD
 cases hm:bG k r c w with
 | false =>
  rw [hm] at h1
  replace h2:=Hid.mk h2
  refine aX Tryz.func47 aB (h:=?_);unfold Tryz.f47
  simp only [↓pre,zag,acC,simprocAttr,aA,hf,ho]
  (first | refine aH (h1) (by first | rfl | simp only [aA,aD, *]) ?_ | refine aG (h1) (by first | rfl | simp only [aA,aD, *]) (by intro k;first | rfl | simp only [ *,zaa]) ?_);simp only [↓pre,zag,acC,simprocAttr,aA,hf,ho]
 | true =>
  rw [hm] at h1
  have h2:=h2 hm
  have hb:=ail hm
  have wm:azv.wrap ((k+r)*w)=(k+r)*w:=eD (by omega) (by omega)
  replace hb:=Hid.mk hb
  refine aX Tryz.func47 aB (h:=?_);unfold Tryz.f47
  simp only [↓pre,zag,acC,simprocAttr,aA,hf,ho]
  (first | refine aH (h1) (by first | rfl | simp only [aA,aD, *]) ?_ | refine aG (h1) (by first | rfl | simp only [aA,aD, *]) (by intro k;first | rfl | simp only [ *,zaa]) ?_);simp only [↓pre,zag,acC,simprocAttr,aA,hf,ho,wm];(first | refine aH (h2) (by first | rfl | simp only [aA,aD, *]) ?_ | refine aG (h2) (by first | rfl | simp only [aA,aD, *]) (by intro k;first | rfl | simp only [ *,zaa]) ?_);simp only [↓pre,zag,acC,simprocAttr,aA,hf,ho,wm]
theorem afU:∀ (a:List UInt8),Op.bytesLess a a=false
 | []=>rfl
 | x::a=>by
  simp only [Op.bytesLess,afU a]
  simp
theorem ax3 {l:List dV} {i:Nat} {s:ByteArray} {z:Int} (hs:abZ l) (h:l[i]? = some (s,z)):mG l s=true∧vO l s=z:=by
 have hp:tJ l s=i:=aiE l s i (Nat.le_of_lt (ay5.1 h).1) (fun j e hj he=>hs j i e (s,z) hj he h) (fun e he=>by
  rw [h] at he
  cases he
  exact afU _)
 unfold mG vO
 rw [hp,h]
 exact ⟨decide_eq_true rfl,rfl⟩
theorem ax4 {l:List dV} {s:ByteArray} (h:∀ (i:Nat) (t:ByteArray) (z:Int),l[i]? = some (t,z)→t≠s):mG l s=false:=by
 unfold mG
 split
 ·rename_i e he
  exact decide_eq_false (h _ e.1 e.2 he)
 ·rfl
theorem ax5 {k r c w:Int} {L:List (List UInt8)} {s:ByteArray} (h:xH k r c w L s=0):fA k r c w L=0∧kI s=true∧jV k r c w L=0∧qZ k r c w L (gM s:Nat)=0:=by
 unfold xH at h
 split at h
 ·rename_i h1
  split at h
  ·rename_i h2
   split at h
   ·rename_i h3
    exact ⟨h1,h2,h3,h⟩
   ·contradiction
  ·omega
 ·contradiction
end Go.Proofs.YtaekhhlgnbhnpaaGreat
namespace Go.Proofs.YtaekhhlgnbhnpaaGreat
open Go Go.Tw Go.Proofs
theorem ax6 (x:UInt8) (A B:List UInt8):Op.bytesLess (x::A) (x::B)=Op.bytesLess A B:=by
 have:¬ x < x:=by simp
 simp [Op.bytesLess,this]
theorem aiP:∀ (i:Nat) (A B:List UInt8),(∀ j,j < i→A[j]? = B[j]?)→i≤A.length→i≤B.length→Op.bytesLess A B=Op.bytesLess (A.drop i) (B.drop i)
 | 0,A,B,_,_,_=>rfl
 | i+1,[],B,_,h,_=>by simp at h
 | i+1,x::A,[],_,_,h=>by simp at h
 | i+1,x::A,y::B,h,h1,h2=>by
  have hxy:x=y:=by simpa using h 0 (by omega)
  subst hxy
  rw [ax6,aAH,aAH]
  exact aiP i A B (fun j hj=>by simpa using h (j+1) (by omega)) (by simpa using h1) (by simpa using h2)
theorem aiQ (s:ByteArray):s.data.toList.length=s.size:=by cases s;simp [ByteArray.size]
theorem apR {A B:List UInt8} {i:Nat} (h:∀ j,j < i→A[j]? = B[j]?) (h1:i≤A.length) (h2:i≤B.length) (he:i=A.length∨i=B.length):Op.bytesLess A B=decide (A.length < B.length):=by
 rw [aiP i A B h h1 h2]
 rcases he with he | he
 ·rw [aCi (by omega)]
  by_cases hB:A.length < B.length
  ·obtain ⟨y,hy⟩:∃ y,B[i]? = some y:=⟨_,azj (by omega)⟩
   rw [aBe (by omega)]
   simp [Op.bytesLess,hB]
  ·rw [aCi (by omega)]
   simp [Op.bytesLess,hB]
 ·rw [aCi (l:=B) (by omega)]
  have:¬ A.length < B.length:=by omega
  simp [this]
  cases A.drop i <;> rfl
theorem ax7 {A B:List UInt8} {i:Nat} {x y:UInt8} (h:∀ j,j < i→A[j]? = B[j]?) (h1:A[i]? = some x) (h2:B[i]? = some y) (hne:x≠y):Op.bytesLess A B=decide ((x.toNat:Int) < (y.toNat:Int)):=by
 have hA:i < A.length:=(ay5.1 h1).1
 have hB:i < B.length:=(ay5.1 h2).1
 have ea:A[i]=x:=(ay5.1 h1).2
 have eb:B[i]=y:=(ay5.1 h2).2
 rw [aiP i A B h (by omega) (by omega),aBe hA,aBe hB,ea,eb]
 have:(x == y)=false:=by simp [hne]
 simp [Op.bytesLess,this,UInt8.lt_iff_toNat_lt]
theorem apS {x y:UInt8}:((x.toNat:Int)=(y.toNat:Int))↔x=y:=by
 constructor
 ·intro h;exact UInt8.toNat_inj.1 (by omega)
 ·intro h;rw [h]
theorem ax8 (a b:ByteArray) (ha:a.size≤1000000000000) (hb:b.size≤1000000000000):aR ayS 270 [gG a,gG b] ⟨aV (jU a b),[]⟩:=by
 refine aX Tryz.func270 aB (h:=?_);unfold Tryz.f270
 simp only [↓pre,zae,wK,simprocAttr,aA]
 rw [bS]
 have la:=aiQ a
 have lb:=aiQ b
 refine bU (fun n e m=>∃ i,n+i=a.size∧i≤a.size∧i≤b.size∧e 0=gG a∧e 1=gG b∧e 5=aC (i:Nat)∧∀ j,j < i→a.data.toList[j]? = b.data.toList[j]?) a.size ⟨0,by omega, ?_⟩ ?_
 ·simp [bB.set,jY,aC]
 ·rintro n e m ⟨i,hi,hia,hib,e0,e1,e5,hpre⟩
  replace hpre:=Hid.mk hpre
  replace la:=Hid.mk la
  replace lb:=Hid.mk lb
  by_cases h1:i < a.size
  ·have h1':(i:Int) < (a.size:Nat):=by omega
   by_cases h2:i < b.size
   ·have h2':(i:Int) < (b.size:Nat):=by omega
    obtain ⟨x,hx⟩:∃ x,a.data.toList[i]? = some x:=⟨_,azj (by have:=la.out;omega)⟩
    obtain ⟨y,hy⟩:∃ y,b.data.toList[i]? = some y:=⟨_,azj (by have:=lb.out;omega)⟩
    have n1:¬ (i:Int)=(a.size:Nat):=by omega
    have n2:¬ (i:Int)=(b.size:Nat):=by omega
    by_cases hxy:x=y
    ·have hc:((x.toNat:Int)=(y.toNat:Int)):=apS.2 hxy
     replace hxy:=Hid.mk hxy
     have w1:=bY (n:=i) (by omega)
     simp only [↓pre,zae,wK,simprocAttr,aA,e0,e1,e5,h1',h2',hx,hy,bA,hc,w1];repeat' ((first | refine cU (fun _ => ?_) (fun _ => ?_) | refine cO (fun _ => ?_) (fun _ => ?_) | refine cV (fun _ => ?_) (fun _ => ?_) | refine cQ (fun _ => ?_) (fun _ => ?_) | refine cS (fun _ => ?_) (fun _ => ?_) | refine cM (fun _ => ?_) (fun _ => ?_)) <;> simp only [↓pre,zae,wK,simprocAttr,aA,e0,e1,e5,h1',h2',hx,hy,bA,hc,w1, *])
     refine ⟨n - 1,by omega,i+1,by omega,by omega,by omega,rfl,fun j hj => ?_⟩
     by_cases hji:j=i
     ·rw [hji,hx,hy,hxy.out]
     ·exact hpre.out j (by omega)
    ·have hc:¬ ((x.toNat:Int)=(y.toNat:Int)):=fun h=>hxy (apS.1 h)
     have hr:=ax7 hpre.out hx hy hxy
     replace hxy:=Hid.mk hxy
     simp only [↓pre,zal,wK,simprocAttr,aA,e0,e1,e5,h1',h2',hx,hy,bA,hc,n1,n2,jU,hr];repeat' ((first | refine cU (fun _ => ?_) (fun _ => ?_) | refine cO (fun _ => ?_) (fun _ => ?_) | refine cV (fun _ => ?_) (fun _ => ?_) | refine cQ (fun _ => ?_) (fun _ => ?_) | refine cS (fun _ => ?_) (fun _ => ?_) | refine cM (fun _ => ?_) (fun _ => ?_)) <;> simp only [↓pre,zal,wK,simprocAttr,aA,e0,e1,e5,h1',h2',hx,hy,bA,hc,n1,n2,jU,hr, *])
   ·have h2':¬ (i:Int) < (b.size:Nat):=by omega
    have n1:¬ (i:Int)=(a.size:Nat):=by omega
    have n2:(i:Int)=(b.size:Nat):=by omega
    have hr:=apR hpre.out (by have:=la.out;omega) (by have:=lb.out;omega) (.inr (by have:=lb.out;omega))
    rw [la.out,lb.out] at hr
    have hr2:decide (a.size < b.size)=decide ((a.size:Int) < (b.size:Nat)):=by simp
    rw [hr2] at hr
    replace n2:=Hid.mk n2
    have n3:decide ((i:Int)=(b.size:Nat))=true:=by simpa using n2.out
    simp only [↓pre,zal,wK,simprocAttr,aA,e0,e1,e5,h1',h2',bA,n1,n3,jU,hr];repeat' ((first | refine cU (fun _ => ?_) (fun _ => ?_) | refine cO (fun _ => ?_) (fun _ => ?_) | refine cV (fun _ => ?_) (fun _ => ?_) | refine cQ (fun _ => ?_) (fun _ => ?_) | refine cS (fun _ => ?_) (fun _ => ?_) | refine cM (fun _ => ?_) (fun _ => ?_)) <;> simp only [↓pre,zal,wK,simprocAttr,aA,e0,e1,e5,h1',h2',bA,n1,n3,jU,hr, *])
  ·have h1':¬ (i:Int) < (a.size:Nat):=by omega
   have n2:(i:Int)=(a.size:Nat):=by omega
   have hr:=apR hpre.out (by have:=la.out;omega) (by have:=lb.out;omega) (.inl (by have:=la.out;omega))
   rw [la.out,lb.out] at hr
   have hr2:decide (a.size < b.size)=decide ((a.size:Int) < (b.size:Nat)):=by simp
   rw [hr2] at hr
   replace n2:=Hid.mk n2
   have n3:decide ((i:Int)=(a.size:Nat))=true:=by simpa using n2.out
   simp only [↓pre,zal,wK,simprocAttr,aA,e0,e1,e5,h1',bA,n3,jU,hr];repeat' ((first | refine cU (fun _ => ?_) (fun _ => ?_) | refine cO (fun _ => ?_) (fun _ => ?_) | refine cV (fun _ => ?_) (fun _ => ?_) | refine cQ (fun _ => ?_) (fun _ => ?_) | refine cS (fun _ => ?_) (fun _ => ?_) | refine cM (fun _ => ?_) (fun _ => ?_)) <;> simp only [↓pre,zal,wK,simprocAttr,aA,e0,e1,e5,h1',bA,n3,jU,hr, *])
theorem ab6 (s:ByteArray):aR ayS 215 [gG s] ⟨aV (kI s),[]⟩:=by
 refine aX Tryz.func215 aB (h:=?_);unfold Tryz.f215
 simp only [↓pre,zae,amr,simprocAttr,aA];repeat' ((first | refine cU (fun _ => ?_) (fun _ => ?_) | refine cO (fun _ => ?_) (fun _ => ?_) | refine cV (fun _ => ?_) (fun _ => ?_) | refine cQ (fun _ => ?_) (fun _ => ?_) | refine cS (fun _ => ?_) (fun _ => ?_) | refine cM (fun _ => ?_) (fun _ => ?_)) <;> simp only [↓pre,zae,amr,simprocAttr,aA, *])
 all_goals refine xY ?_
 all_goals unfold kI
 all_goals simp
 all_goals omega
theorem y9 (k r c w:Int) (s:ByteArray) (n:Int):aR ayS 269 [aA k r c w,.agg [gG s,aC n]] ⟨aV (tI w (s,n)),[]⟩:=by
 refine aX Tryz.func269 aB (h:=?_);unfold Tryz.f269
 cases h:kI s with
 | false=>simp only [↓pre,zal,aeH,Bool.false_and,simprocAttr,aA,tI,h];repeat' ((first | refine cU (fun _ => ?_) (fun _ => ?_) | refine cO (fun _ => ?_) (fun _ => ?_) | refine cV (fun _ => ?_) (fun _ => ?_) | refine cQ (fun _ => ?_) (fun _ => ?_) | refine cS (fun _ => ?_) (fun _ => ?_) | refine cM (fun _ => ?_) (fun _ => ?_) | refine aH (ab6 _) (by first | rfl | simp only [aA,aD, *]) ?_ | refine aG (ab6 _) (by first | rfl | simp only [aA,aD, *]) (by intro k;first | rfl | simp only [ *,zaa]) ?_) <;> simp only [↓pre,zal,aeH,Bool.false_and,simprocAttr,aA,tI,h, *])
 | true =>
  simp only [↓pre,zal,aeH,Bool.true_and,simprocAttr,aA,tI,h];repeat' ((first | refine cU (fun _ => ?_) (fun _ => ?_) | refine cO (fun _ => ?_) (fun _ => ?_) | refine cV (fun _ => ?_) (fun _ => ?_) | refine cQ (fun _ => ?_) (fun _ => ?_) | refine cS (fun _ => ?_) (fun _ => ?_) | refine cM (fun _ => ?_) (fun _ => ?_) | refine aH (ab6 _) (by first | rfl | simp only [aA,aD, *]) ?_ | refine aG (ab6 _) (by first | rfl | simp only [aA,aD, *]) (by intro k;first | rfl | simp only [ *,zaa]) ?_) <;> simp only [↓pre,zal,aeH,Bool.true_and,simprocAttr,aA,tI,h, *])
  all_goals refine xY ?_
  all_goals simp
  all_goals omega
theorem afV (a b:ByteArray) (ha:a.size≤1000000000000) (hb:b.size≤1000000000000):aR ayS 270 [gG a,gG b] ⟨.val (.bool (jU a b)),[]⟩:=ax8 a b ha hb
theorem ax9 (k r c w:Int) (v:AV) (l:List dV) (x:List AV) (hv:aZ v l.length (dX l++x)) (hl:fB l≤1000000000000) (hn:l.length≤1000000000000):aR ayS 213 [aA k r c w,v] ⟨aV (oG w l),[]⟩:=by
 refine aX Tryz.func213 aB (h:=?_);unfold Tryz.f213
 have hp:=hv.plain
 simp only [↓pre,zae,sN,simprocAttr,aA]
 rw [bS]
 refine bU (fun n e m=>∃ i,n+i=l.length∧e 1=v∧e 5=aC (i:Nat)∧e 2 = .tptr 0 [aC k,aC r,aC c,aC w]∧∀ j,j < i→mF w l j=true) l.length ⟨0,by omega, ?_⟩ ?_
 ·simp [bB.set,jY,aC]
 ·rintro n e m ⟨i,hi,e1,e5,e2,hok⟩
  replace hok:=Hid.mk hok
  simp only [↓pre,zae,sN,simprocAttr,aA,e1,e5,e2,hv.len']
  refine cO (fun hlt => ?_) (fun hlt => ?_)
  ·have hil:i < l.length:=by omega
   obtain ⟨s,z,hsr⟩:∃ s z,l[i]? = some (s,z):=⟨_,_,azj hil⟩
   obtain ⟨a1,a2,a3,a4⟩:=tH (x:=x) hsr
   have hsz:=aiD hsr
   have w1:=bY (n:=i) (by omega)
   have hbad:mF w l i=false→oG w l=false:=fun hb=>by
    cases hc:oG w l with
    | false=>rfl
    | true=>rw [abX.1 hc i hil] at hb;cases hb
   cases hq:tI w (s,z) with
   | false =>
    have hc:=hbad (by simp [mF,hsr,hq])
    simp only [↓pre,zal,sN,simprocAttr,aA,e1,e5,e2,hv.addr',hv.len',a1,a2,a3,a4,hil,w1,hq,hc];repeat' ((first | refine cU (fun _ => ?_) (fun _ => ?_) | refine cO (fun _ => ?_) (fun _ => ?_) | refine cV (fun _ => ?_) (fun _ => ?_) | refine cQ (fun _ => ?_) (fun _ => ?_) | refine cS (fun _ => ?_) (fun _ => ?_) | refine cM (fun _ => ?_) (fun _ => ?_) | refine aH (y9 _ _ _ _ _ _) (by first | rfl | simp only [aA,aD, *]) ?_ | refine aG (y9 _ _ _ _ _ _) (by first | rfl | simp only [aA,aD, *]) (by intro k;first | rfl | simp only [ *,zaa]) ?_) <;> simp only [↓pre,zal,sN,simprocAttr,aA,e1,e5,e2,hv.addr',hv.len',a1,a2,a3,a4,hil,w1,hq,hc, *])
   | true =>
    rcases Nat.eq_zero_or_pos i with h0 | hpos
    ·have hk:mF w l i=true:=by subst h0;simp [mF,hsr,hq]
     have hz:¬ (0:Int) < (i:Nat):=by omega
     replace h0:=Hid.mk h0
     simp only [↓pre,zal,sN,simprocAttr,aA,e1,e5,e2,hv.addr',hv.len',a1,a2,a3,a4,hil,w1,hz,hq];repeat' ((first | refine cU (fun _ => ?_) (fun _ => ?_) | refine cO (fun _ => ?_) (fun _ => ?_) | refine cV (fun _ => ?_) (fun _ => ?_) | refine cQ (fun _ => ?_) (fun _ => ?_) | refine cS (fun _ => ?_) (fun _ => ?_) | refine cM (fun _ => ?_) (fun _ => ?_) | refine aH (y9 _ _ _ _ _ _) (by first | rfl | simp only [aA,aD, *]) ?_ | refine aG (y9 _ _ _ _ _ _) (by first | rfl | simp only [aA,aD, *]) (by intro k;first | rfl | simp only [ *,zaa]) ?_) <;> simp only [↓pre,zal,sN,simprocAttr,aA,e1,e5,e2,hv.addr',hv.len',a1,a2,a3,a4,hil,w1,hz,hq, *])
     exact ⟨n - 1,by omega,i+1,by omega,rfl,fun j hj=>by have:=h0.out;rw [show j=i by omega];exact hk⟩
    ·obtain ⟨i',hi'⟩:∃ i',i=i'+1:=⟨i - 1,by omega⟩
     obtain ⟨s',z',hsr'⟩:∃ s z,l[i']? = some (s,z):=⟨_,_,azj (by omega)⟩
     obtain ⟨c1,c2,c3,c4⟩:=tH (x:=x) hsr'
     have hsz':=aiD hsr'
     have hil':i' < l.length:=by omega
     have w2:azv.wrap ((i:Int) - 1)=(i':Nat):=by rw [show (i:Int) - 1=(i':Nat) by omega];exact cD (by omega)
     have hp0:(0:Int) < (i:Nat):=by omega
     replace hi':=Hid.mk hi'
     cases hq2:jU s' s with
     | false =>
      have hc:=hbad (by rw [hi'.out] at hsr ⊢;simp [mF,hsr,hsr',hq2])
      simp only [↓pre,zal,sN,simprocAttr,aA,e1,e5,e2,hv.addr',hv.len',a1,a2,a3,a4,hil,w1,c1,c2,c3,c4,hil',w2,hp0,hq,hq2,hc];repeat' ((first | refine cU (fun _ => ?_) (fun _ => ?_) | refine cO (fun _ => ?_) (fun _ => ?_) | refine cV (fun _ => ?_) (fun _ => ?_) | refine cQ (fun _ => ?_) (fun _ => ?_) | refine cS (fun _ => ?_) (fun _ => ?_) | refine cM (fun _ => ?_) (fun _ => ?_) | refine aH (y9 _ _ _ _ _ _) (by first | rfl | simp only [aA,aD, *]) ?_ | refine aH (afV _ _ (by omega) (by omega)) (by first | rfl | simp only [aA,aD, *]) ?_ | refine aG (y9 _ _ _ _ _ _) (by first | rfl | simp only [aA,aD, *]) (by intro k;first | rfl | simp only [ *,zaa]) ?_ | refine aG (afV _ _ (by omega) (by omega)) (by first | rfl | simp only [aA,aD, *]) (by intro k;first | rfl | simp only [ *,zaa]) ?_) <;> simp only [↓pre,zal,sN,simprocAttr,aA,e1,e5,e2,hv.addr',hv.len',a1,a2,a3,a4,hil,w1,c1,c2,c3,c4,hil',w2,hp0,hq,hq2,hc, *])
     | true =>
      have hk:mF w l i=true:=by rw [hi'.out] at hsr ⊢;simp [mF,hsr,hq,hsr',hq2]
      simp only [↓pre,zal,sN,simprocAttr,aA,e1,e5,e2,hv.addr',hv.len',a1,a2,a3,a4,hil,w1,c1,c2,c3,c4,hil',w2,hp0,hq,hq2];repeat' ((first | refine cU (fun _ => ?_) (fun _ => ?_) | refine cO (fun _ => ?_) (fun _ => ?_) | refine cV (fun _ => ?_) (fun _ => ?_) | refine cQ (fun _ => ?_) (fun _ => ?_) | refine cS (fun _ => ?_) (fun _ => ?_) | refine cM (fun _ => ?_) (fun _ => ?_) | refine aH (y9 _ _ _ _ _ _) (by first | rfl | simp only [aA,aD, *]) ?_ | refine aH (afV _ _ (by omega) (by omega)) (by first | rfl | simp only [aA,aD, *]) ?_ | refine aG (y9 _ _ _ _ _ _) (by first | rfl | simp only [aA,aD, *]) (by intro k;first | rfl | simp only [ *,zaa]) ?_ | refine aG (afV _ _ (by omega) (by omega)) (by first | rfl | simp only [aA,aD, *]) (by intro k;first | rfl | simp only [ *,zaa]) ?_) <;> simp only [↓pre,zal,sN,simprocAttr,aA,e1,e5,e2,hv.addr',hv.len',a1,a2,a3,a4,hil,w1,c1,c2,c3,c4,hil',w2,hp0,hq,hq2, *])
      refine ⟨n - 1,by omega,i+1,by omega,rfl,fun j hj => ?_⟩
      by_cases hji:j=i
      ·subst hji;exact hk
      ·exact hok.out j (by omega)
  ·have hall:oG w l=true:=abX.2 fun j hj=>hok.out j (by omega)
   simp only [↓pre,zal,sN,simprocAttr,aA,e1,e5,e2,hall];repeat' ((first | refine cU (fun _ => ?_) (fun _ => ?_) | refine cO (fun _ => ?_) (fun _ => ?_) | refine cV (fun _ => ?_) (fun _ => ?_) | refine cQ (fun _ => ?_) (fun _ => ?_) | refine cS (fun _ => ?_) (fun _ => ?_) | refine cM (fun _ => ?_) (fun _ => ?_)) <;> simp only [↓pre,zal,sN,simprocAttr,aA,e1,e5,e2,hall, *])
theorem aaY {α β:Type} {P:Program} (x:Sem α) (f:α→Sem β):cF P (x.bind f)=(cF P x).bind fun a=>cF P (f a):=by
 induction x with
 | pure a=>rfl
 | program k ih=>exact ih P
 | _=>rfl
theorem aya (s s':ByteArray):(s == s')=decide (s=s'):=by
 rw [Go.beq_toListBytes,agU]
theorem ayb (d:Nat) (s s':ByteArray):cF ayS (aAY (d+1) 9 (.string s) (.string s'))=some (decide (s=s')):=by
 unfold aAY
 simp only [underlying,program,aAL,aAM,aAE,cF,Tryz.underlying9,aya]
theorem ayc (d:Nat) (a b:Int):cF ayS (aAY (d+1) 3 (.int .i64 a) (.int .i64 b))=some (decide (a=b)):=by
 unfold aAY
 simp only [underlying,program,aAL,aAM,aAE,cF,Tryz.underlying3,if_true]
 rfl
theorem ayd (d:Nat) (s s':ByteArray) (a a':Int):cF ayS (aAY (d+2) 85 (.agg #[.string s,.int .i64 a]) (.agg #[.string s',.int .i64 a']))=some (decide (s=s'∧a=a')):=by
 have u:ayS.stoodInHeld 85=false:=by kernel_rfl
 rw [aAY]
 simp only [underlying,program,aAL,aAM,aAE,cF,Tryz.underlying85,u,azx,if_false]
 simp only [List.forIn_toArray,List.forIn_cons,List.forIn_nil,part,isAgg,underlying,program,aAL,aAM,aAE,cF,aaY,Tryz.underlying9,Tryz.underlying3,aAh]
 by_cases h1:s=s' <;> by_cases h2:a=a' <;> simp [cF,aaY,ayb,ayc,aAM,h1,h2,Tryz.underlying3]
theorem aye {x y:Operand} (s s':ByteArray) (a a':Int):dR ayS .neq 85 x y (.agg [.val (.string s),.val (.int .i64 a)]) (.agg [.val (.string s'),.val (.int .i64 a')])=some (.val (.bool (!decide (s=s'∧a=a')))):=by
 have g:ayS.eqGuardType ayS.depth 85=false:=by kernel_rfl
 simp only [dR,i6,pY,aAh,az3,pZ,eqGuard,binOp,program,aAL,aAM,aAE,cF,aaY,g,Op.equal,Op.maxDepth]
 have e:cF ayS (aAY 10000 85 (.agg #[.string s,.int .i64 a]) (.agg #[.string s',.int .i64 a']))=some (decide (s=s'∧a=a')):=ayd 9998 s s' a a'
 simp only [Bool.not_true,azx,if_false,cF,g,Bool.not_false,if_true,aAh,e,az3]
def xI (l l':List dV):Bool:=decide (l=l')
theorem ayf (v v':AV) (l l':List dV) (x x':List AV) (hv:aZ v l.length (dX l++x)) (hv':aZ v' l'.length (dX l'++x')) (hn:l.length≤1000000000000) (hn':l'.length≤1000000000000):aR ayS 55 [v,v'] ⟨aV (xI l l'),[]⟩:=by
 refine aX Tryz.func55 aB (h:=?_);unfold Tryz.f55
 simp only [↓pre,zae,x9,simprocAttr,aA,hv.len',hv'.len']
 refine cQ (fun he => ?_) (fun he => ?_)
 ·have hlen:l.length=l'.length:=by omega
  simp only [↓pre,zae,x9,simprocAttr,aA,hv.len',hv'.len']
  rw [bS]
  refine bU (fun n e m=>∃ i,n+i=l.length∧e 0=v∧e 1=v'∧e 5=aC (i:Nat)∧∀ j,j < i→l[j]? = l'[j]?) l.length ⟨0,by omega, ?_⟩ ?_
  ·simp [bB.set,jY,aC]
  ·rintro n e m ⟨i,hi,e0,e1,e5,hpre⟩
   replace hpre:=Hid.mk hpre
   replace hlen:=Hid.mk hlen
   simp only [↓pre,zae,x9,simprocAttr,aA,e0,e1,e5,hv.len',hv'.len']
   refine cO (fun hlt => ?_) (fun hlt => ?_)
   ·obtain ⟨s,z,hsr⟩:∃ s r,l[i]? = some (s,r):=⟨_,_,azj (by omega)⟩
    obtain ⟨s',z',hsr'⟩:∃ s r,l'[i]? = some (s,r):=⟨_,_,azj (by have:=hlen.out;omega)⟩
    obtain ⟨a1,a2,a3,a4⟩:=tH (x:=x) hsr
    obtain ⟨c1,c2,c3,c4⟩:=tH (x:=x') hsr'
    have hil:i < l.length:=by omega
    have hil':i < l'.length:=by have:=hlen.out;omega
    have w1:=bY (n:=i) (by omega)
    simp only [↓pre,zae,x9,aye,simprocAttr,aA,e0,e1,e5,hv.addr',hv'.addr',a1,a2,a3,a4,c1,c2,c3,c4,hil,hil',w1]
    refine cQ (fun hq => ?_) (fun hq => ?_)
    ·simp only [↓pre,zae,x9,simprocAttr,aA,e0,e1,e5,w1]
     refine ⟨n - 1,by omega,i+1,by omega,rfl,fun j hj => ?_⟩
     by_cases hji:j=i
     ·rw [hji,hsr,hsr',hq.1,hq.2]
     ·exact hpre.out j (by omega)
    ·have hne:xI l l'=false:=by
      unfold xI
      simp only [decide_eq_false_iff_not]
      intro hll
      subst hll
      rw [hsr] at hsr'
      simp only [Option.some.injEq,Prod.mk.injEq] at hsr'
      exact hq hsr'
     simp only [↓pre,zal,x9,simprocAttr,aA,e0,e1,e5,hne]
   ·have hall:xI l l'=true:=by
     unfold xI
     simp only [decide_eq_true_eq]
     refine List.ext_getElem? fun j => ?_
     by_cases hj:j < i
     ·exact hpre.out j hj
     ·have:=hlen.out
      rw [ay3 (by omega),ay3 (by omega)]
    simp only [↓pre,zal,x9,simprocAttr,aA,e0,e1,e5,hall]
 ·have hne:xI l l'=false:=by
   unfold xI
   simp only [decide_eq_false_iff_not]
   intro hll
   subst hll
   exact he rfl
  simp only [↓pre,zal,x9,simprocAttr,aA,hne]
theorem afW {n:Int} {k:Nat} (h:n=(k:Int)) (hk:k≤9223372036854775807):azv.wrap n=(k:Int):=by rw [h];exact cD hk
theorem ayg (k r c w:Int) (v:AV) (bs:List UInt8) (x:List AV) (hv:aZ v bs.length (aL bs++x)) (hn:bs.length≤1000000000):aR ayS 126 [aA k r c w,v] (if fK k r c w bs=0 then vP (nJ bs) 0 else vP [] (fK k r c w bs)):=by
 refine aX Tryz.func126 aB (h:=?_);unfold Tryz.f126
 have hp:=hv.plain
 cases h:bG k r c w with
 | false =>
  have he:fK k r c w bs=2:=by simp [fK,h]
  rw [if_neg (by rw [he];decide),he]
  simp only [↓pre,zal,nS,simprocAttr,aA,h,azx];repeat' ((first | refine cU (fun _ => ?_) (fun _ => ?_) | refine cO (fun _ => ?_) (fun _ => ?_) | refine cV (fun _ => ?_) (fun _ => ?_) | refine cQ (fun _ => ?_) (fun _ => ?_) | refine cS (fun _ => ?_) (fun _ => ?_) | refine cM (fun _ => ?_) (fun _ => ?_) | refine aH (nA _ _ _ _) (by first | rfl | simp only [aA,aD, *]) ?_ | refine aG (nA _ _ _ _) (by first | rfl | simp only [aA,aD, *]) (by intro k;first | rfl | simp only [ *,zaa]) ?_) <;> simp only [↓pre,zal,nS,simprocAttr,aA,h,azx, *])
  rfl
 | true =>
  by_cases hbig:mI k c < (bs.length:Int)
  ·have he:fK k r c w bs=3:=by simp [fK,h,hbig]
   rw [if_neg (by rw [he];decide),he]
   simp only [↓pre,zal,nS,simprocAttr,aA,h,hv.len',hbig];repeat' ((first | refine cU (fun _ => ?_) (fun _ => ?_) | refine cO (fun _ => ?_) (fun _ => ?_) | refine cV (fun _ => ?_) (fun _ => ?_) | refine cQ (fun _ => ?_) (fun _ => ?_) | refine cS (fun _ => ?_) (fun _ => ?_) | refine cM (fun _ => ?_) (fun _ => ?_) | refine aH (nA _ _ _ _) (by first | rfl | simp only [aA,aD, *]) ?_ | refine aH (abq _ _ _ _ h) (by first | rfl | simp only [aA,aD, *]) ?_ | refine aG (nA _ _ _ _) (by first | rfl | simp only [aA,aD, *]) (by intro k;first | rfl | simp only [ *,zaa]) ?_ | refine aG (abq _ _ _ _ h) (by first | rfl | simp only [aA,aD, *]) (by intro k;first | rfl | simp only [ *,zaa]) ?_) <;> simp only [↓pre,zal,nS,simprocAttr,aA,h,hv.len',hbig, *])
   rfl
  ·have hM:(bs.length:Int)≤mI k c:=by omega
   replace hM:=Hid.mk hM
   simp only [↓pre,zal,nS,simprocAttr,aA,h,hv.len',hbig];repeat' ((first | refine cU (fun _ => ?_) (fun _ => ?_) | refine cO (fun _ => ?_) (fun _ => ?_) | refine cV (fun _ => ?_) (fun _ => ?_) | refine cQ (fun _ => ?_) (fun _ => ?_) | refine cS (fun _ => ?_) (fun _ => ?_) | refine cM (fun _ => ?_) (fun _ => ?_) | refine aH (nA _ _ _ _) (by first | rfl | simp only [aA,aD, *]) ?_ | refine aH (abq _ _ _ _ h) (by first | rfl | simp only [aA,aD, *]) ?_ | refine aG (nA _ _ _ _) (by first | rfl | simp only [aA,aD, *]) (by intro k;first | rfl | simp only [ *,zaa]) ?_ | refine aG (abq _ _ _ _ h) (by first | rfl | simp only [aA,aD, *]) (by intro k;first | rfl | simp only [ *,zaa]) ?_) <;> simp only [↓pre,zal,nS,simprocAttr,aA,h,hv.len',hbig, *])
   rw [bS]
   refine bU (fun n e m=>∃ (es:List dV) (i:Nat),n+i=bs.length∧e 1=v∧e 7=aC (i:Nat)∧e 2 = .tptr 0 [aC k,aC r,aC c,aC w]∧Go.Tw.Own m 85 2 (e 6) es.length (dX es)∧kZ bs=(kZ (bs.drop i)).map (es++·)∧fB es=i∧es.length≤fB es) bs.length ⟨[],0,rfl, ?_, ?_, ?_, ?_, ?_, ?_, ?_⟩ ?_
   ·simp [bB.set,jY]
   ·simp [bB.set,aC]
   ·simp [bB.set,aC]
   ·simp [bB.set,dX]
    exact fC
   ·simp
   ·simp [fB]
   ·simp
   ·rintro n e m ⟨es,i,hi,e1,e7,e2,ho,hpar,hlen,hpl⟩
    replace hpar:=Hid.mk hpar
    replace hlen:=Hid.mk hlen
    cases hr:bs.drop i with
    | nil =>
     have hil:i=bs.length:=by
      have:=congrArg List.length hr
      rw [aA9] at this
      simp at this
      omega
     have hpr:kZ bs=some es:=by rw [hpar.out,hr,aiG];simp
     have hpe:fK k r c w bs=if oG w es=true then 0 else 220:=by simp [fK,h,hbig,hpr]
     have hpL:nJ bs=es:=by simp [nJ,hpr]
     have hnum:=apD hpr
     have hlng:=adq hpr
     obtain ⟨av,hlend,hrd⟩:=alv ho (a:=aA k r c w) rfl
     have hck:=ax9 k r c w av es [] (by rw [aBi];exact hrd) (by omega) (by omega)
     replace hpr:=Hid.mk hpr
     replace hlng:=Hid.mk hlng
     replace hr:=Hid.mk hr
     have hlt:¬ (i:Int) < (bs.length:Nat):=by omega
     replace hil:=Hid.mk hil
     simp only [↓pre,zal,nS,simprocAttr,aA,e1,e7,e2,hv.len',hlt];repeat' ((first | refine cU (fun _ => ?_) (fun _ => ?_) | refine cO (fun _ => ?_) (fun _ => ?_) | refine cV (fun _ => ?_) (fun _ => ?_) | refine cQ (fun _ => ?_) (fun _ => ?_) | refine cS (fun _ => ?_) (fun _ => ?_) | refine cM (fun _ => ?_) (fun _ => ?_)) <;> simp only [↓pre,zal,nS,simprocAttr,aA,e1,e7,e2,hv.len',hlt, *])
     refine xX hck hlend rfl rfl ?_
     rw [hpe]
     cases he:oG w es with
     | true =>
      rw [if_pos rfl,if_pos rfl,hpL]
      simp only [↓pre,zal,nS,simprocAttr,aA,e1,e2,he];repeat' ((first | refine cU (fun _ => ?_) (fun _ => ?_) | refine cO (fun _ => ?_) (fun _ => ?_) | refine cV (fun _ => ?_) (fun _ => ?_) | refine cQ (fun _ => ?_) (fun _ => ?_) | refine cS (fun _ => ?_) (fun _ => ?_) | refine cM (fun _ => ?_) (fun _ => ?_)) <;> simp only [↓pre,zal,nS,simprocAttr,aA,e1,e2,he, *])
      rw [ad6 (by kernel_rfl) ho]
      rfl
     | false =>
      simp only [azx,if_false]
      rw [if_neg (by decide)]
      simp only [↓pre,zal,nS,simprocAttr,aA,e1,e2,he,azx];repeat' ((first | refine cU (fun _ => ?_) (fun _ => ?_) | refine cO (fun _ => ?_) (fun _ => ?_) | refine cV (fun _ => ?_) (fun _ => ?_) | refine cQ (fun _ => ?_) (fun _ => ?_) | refine cS (fun _ => ?_) (fun _ => ?_) | refine cM (fun _ => ?_) (fun _ => ?_)) <;> simp only [↓pre,zal,nS,simprocAttr,aA,e1,e2,he,azx, *])
      rfl
    | cons a q =>
     have ha:=a.toNat_lt
     have hlq:bs.length=i+(q.length+1):=by
      have:=congrArg List.length hr
      rw [aA9] at this
      simp at this
      omega
     have hget:∀ j,bs[i+j]? = (a::q)[j]? := fun j=>by rw [←hr,List.getElem?_drop]
     have w1:azv.wrap (a.toNat:Int)=(a.toNat:Int):=cD (by omega)
     have w2:=bY (n:=i) (by omega)
     have w3:azv.wrap (((i+1:Nat):Int)+(a.toNat:Int))=((i+1+a.toNat:Nat):Int):=afW (by omega) (by omega)
     have w4:azv.wrap (((i+1+a.toNat:Nat):Int)+2)=((i+1+a.toNat+2:Nat):Int):=afW (by omega) (by omega)
     have w9:=bY (n:=i+1+a.toNat) (by omega)
     have hlt:(i:Int) < (bs.length:Nat):=by omega
     have hlt0:i < bs.length:=by omega
     have hb0:=iE (bs:=bs) (x:=x) (i:=i) (a:=a) (by have:=hget 0;simpa using this)
     by_cases hbad:q.length < a.toNat+2
     ·have hbad':(bs.length:Int) < ((i+1+a.toNat+2:Nat):Int):=by omega
      have he:fK k r c w bs=220:=by
       have h1:kZ bs=none:=by rw [hpar.out,hr,aiH hbad];rfl
       simp [fK,h,hbig,h1]
      rw [if_neg (by rw [he];decide),he]
      replace hr:=Hid.mk hr
      replace hlq:=Hid.mk hlq
      replace hget:=Hid.mk hget
      simp only [↓pre,zae,nS,bE,azD,simprocAttr,aA,e1,e7,e2,hv.len',hv.addr',hlt,hb0,hlt0,w1,w2,w3,w4,hbad'];repeat' ((first | refine cU (fun _ => ?_) (fun _ => ?_) | refine cO (fun _ => ?_) (fun _ => ?_) | refine cV (fun _ => ?_) (fun _ => ?_) | refine cQ (fun _ => ?_) (fun _ => ?_) | refine cS (fun _ => ?_) (fun _ => ?_) | refine cM (fun _ => ?_) (fun _ => ?_)) <;> simp only [↓pre,zae,nS,bE,azD,simprocAttr,aA,e1,e7,e2,hv.len',hv.addr',hlt,hb0,hlt0,w1,w2,w3,w4,hbad', *])
      rfl
     ·have hbad':¬ (bs.length:Int) < ((i+1+a.toNat+2:Nat):Int):=by omega
      obtain ⟨v1,s1,r1⟩:=hv.slice (P:=ayS) (t:=52) (sz:=1) (lo:=some (i+1)) (hi:=some (i+1+a.toNat)) (by kernel_rfl) (by simp) (by simp only [aAB];omega)
      have r1':aZ v1 a.toNat (aL q++x):=by
       have e1:(some (i+1+a.toNat)).getD bs.length - (some (i+1)).getD 0=a.toNat:=by simp
       rw [e1] at r1
       simp only [aAB,azD] at r1
       rw [qK bs x (i+1) (by omega)] at r1
       have:bs.drop (i+1)=q:=by rw [←aBb,hr];rfl
       rw [this] at r1
       exact r1
      have hcv:=fun (d c:Bool) (m:aF)=>apE (d:=d) (c:=c) (m:=m) r1' (by omega)
      have hsx:=fun d c m lo hi mx=>hv.sliceX (P:=ayS) (m:=m) (t:=52) (d:=d) (c:=c) (lo:=lo) (hi:=hi) (mx:=mx)
      have hi1:q[a.toNat]? = some (q.getD a.toNat 0):=by rw [azp,azj (by omega)];rfl
      have hi2:q[a.toNat+1]? = some (q.getD (a.toNat+1) 0):=by rw [azp,azj (by omega)];rfl
      have hb1:=iE (bs:=bs) (x:=x) (i:=i+1+a.toNat) (a:=q.getD a.toNat 0) (by rw [show i+1+a.toNat=i+(a.toNat+1) by omega,hget];simpa using hi1)
      have hb2:=iE (bs:=bs) (x:=x) (i:=i+1+a.toNat+1) (a:=q.getD (a.toNat+1) 0) (by rw [show i+1+a.toNat+1=i+(a.toNat+1+1) by omega,hget];simpa using hi2)
      have hlt1:i+1+a.toNat < bs.length:=by omega
      have hlt2:i+1+a.toNat+1 < bs.length:=by omega
      generalize hh:q.getD a.toNat 0=x1 at hb1 hi1
      generalize hl:q.getD (a.toNat+1) 0=x2 at hb2 hi2
      have hx1:=x1.toNat_lt
      have hx2:=x2.toNat_lt
      have w5:azv.wrap (x1.toNat:Int)=(x1.toNat:Int):=cD (by omega)
      have w6:azv.wrap (x2.toNat:Int)=(x2.toNat:Int):=cD (by omega)
      have w7:azv.wrap ((x1.toNat:Int)*256)=((x1.toNat*256:Nat):Int):=afW (by omega) (by omega)
      have w8:azv.wrap (((x1.toNat*256:Nat):Int)+(x2.toNat:Int))=((x1.toNat*256+x2.toNat:Nat):Int):=afW (by omega) (by omega)
      have hbT:=fun (m:aF) (s:ByteArray) (z:Int)=>ad7 (P:=ayS) (m:=m) (t:=73) (a := .string s) (b := .int .i64 z) rfl rfl (by kernel_rfl) (by kernel_rfl)
      have hok:=fun m:aF=>hv.slOk (P:=ayS) (m:=m) (t:=52)
      have hent:nI a.toNat q=((nI a.toNat q).1,((x1.toNat*256+x2.toNat:Nat):Int)):=by rw [←hh,←hl];rfl
      replace hlq:=Hid.mk hlq
      replace hh:=Hid.mk hh
      replace hl:=Hid.mk hl
      replace hi1:=Hid.mk hi1
      replace hi2:=Hid.mk hi2
      replace hent:=Hid.mk hent
      replace ho:=Hid.mk ho
      replace hr:=Hid.mk hr
      replace hget:=Hid.mk hget
      simp only [↓pre,zae,nS,bE,lF,az3,aBa,azD,simprocAttr,aA,e1,e7,e2,hv.len',hv.addr',hlt,hb0,hlt0,w1,w2,w3,w4,w9,hbad',s1,hok,hsx,hcv,hb1,hb2,hlt1,hlt2,w5,w6,w7,w8,IntKind.bits,dB,hbT];repeat' ((first | refine cU (fun _ => ?_) (fun _ => ?_) | refine cO (fun _ => ?_) (fun _ => ?_) | refine cV (fun _ => ?_) (fun _ => ?_) | refine cQ (fun _ => ?_) (fun _ => ?_) | refine cS (fun _ => ?_) (fun _ => ?_) | refine cM (fun _ => ?_) (fun _ => ?_)) <;> simp only [↓pre,zae,nS,bE,lF,az3,aBa,azD,simprocAttr,aA,e1,e7,e2,hv.len',hv.addr',hlt,hb0,hlt0,w1,w2,w3,w4,w9,hbad',s1,hok,hsx,hcv,hb1,hb2,hlt1,hlt2,w5,w6,w7,w8,IntKind.bits,dB,hbT, *])
      refine apy ho.out zQ rfl (by have:=hlen.out;have:=hlq.out;omega) (fun v3 m3 ho3 hn3 => ?_)
      refine dE (by kernel_rfl) ?_
      simp only [↓pre,zae,nS,bE,simprocAttr,aA,e1,e2,w4]
      have hsz:=aiJ (n:=a.toNat) (r:=q) (by omega)
      have hlng:fB (es++[nI a.toNat q])=fB es+(3+a.toNat):=by
       rw [apB]
       simp [fB,hsz]
      refine ⟨n - (a.toNat+3),by have:=hlq.out;omega,es++[nI a.toNat q],i+1+a.toNat+2,by have:=hlq.out;omega,rfl, ?_, ?_, ?_, ?_⟩
      ·have hcells:dX (es++[nI a.toNat q])=dX es++[.val (.string (nI a.toNat q).1),.val (.int .i64 ((x1.toNat*256+x2.toNat:Nat):Int))]:=by
        rw [apA,hent.out];simp [dX,aC]
       rw [hcells,aAZ]
       exact ho3
      ·have hd:bs.drop (i+1+a.toNat+2)=q.drop (a.toNat+2):=by
        rw [show i+1+a.toNat+2=i+(1+(a.toNat+2)) by omega,←aBb,hr.out,←aBb];rfl
       rw [hpar.out,hr.out,aiI hbad,hd]
       cases kZ (q.drop (a.toNat+2)) <;> simp
      ·rw [hlng]
       have:=hlen.out
       omega
      ·rw [hlng,aAZ]
       simp only [aAC,aAD]
       omega
theorem apT:∀ (bs:List UInt8) (i:Nat) (a b:UInt8),bs[2*i]? = some a→bs[2*i+1]? = some b→(fM bs)[i]? = some ((a.toNat*256+b.toNat:Nat):Int)
 | [],i,a,b,h,_=>by simp at h
 | [c],i,a,b,_,h=>by
  have:=(ay5.1 h).1
  simp at this
 | c::d::l,0,a,b,h1,h2=>by
  simp at h1 h2
  subst h1
  subst h2
  rfl
 | c::d::l,i+1,a,b,h1,h2=>by
  have e1:2*(i+1)=2*i+1+1:=by omega
  rw [e1] at h1 h2
  exact apT l i a b (by simpa using h1) (by simpa using h2)
def aiR (k r c w:Int) (bs:List UInt8):AV:=if gD k r c w bs=0 then .tup [.tree 4 4 (bK (fM bs)) false,aC 0] else .tup [aN,aC (gD k r c w bs)]
theorem ayh (k r c w:Int) (v:AV) (bs:List UInt8) (x:List AV) (hv:aZ v bs.length (aL bs++x)) (hn:bs.length≤1000000000000):aR ayS 123 [aA k r c w,v] ⟨aiR k r c w bs,[]⟩:=by
 refine d6 ?_
 unfold aiR
 refine bI Tryz.func123 aB (h:=?_);unfold Tryz.f123
 have hp:=hv.plain
 cases h:bG k r c w with
 | false =>
  have he:gD k r c w bs=2:=by simp [gD,h]
  rw [he,if_neg (by decide)]
  simp only [↓pre,zal,sM,simprocAttr,aA,h,azx];repeat' ((first | refine cU (fun _ => ?_) (fun _ => ?_) | refine cO (fun _ => ?_) (fun _ => ?_) | refine cV (fun _ => ?_) (fun _ => ?_) | refine cQ (fun _ => ?_) (fun _ => ?_) | refine cS (fun _ => ?_) (fun _ => ?_) | refine cM (fun _ => ?_) (fun _ => ?_) | refine aH (nA _ _ _ _) (by first | rfl | simp only [aA,aD, *]) ?_ | refine aG (nA _ _ _ _) (by first | rfl | simp only [aA,aD, *]) (by intro k;first | rfl | simp only [ *,zaa]) ?_) <;> simp only [↓pre,zal,sM,simprocAttr,aA,h,azx, *])
  exact ⟨1,eW (bN (.slice none 0 0)) (bN (.int .i64 _)) 1 _⟩
 | true =>
  by_cases hl:bs.length=8
  ·have hl':((bs.length:Nat):Int)=8:=by omega
   replace hl:=Hid.mk hl
   simp only [↓pre,zal,sM,simprocAttr,aA,h,hv.len',hl'];repeat' ((first | refine cU (fun _ => ?_) (fun _ => ?_) | refine cO (fun _ => ?_) (fun _ => ?_) | refine cV (fun _ => ?_) (fun _ => ?_) | refine cQ (fun _ => ?_) (fun _ => ?_) | refine cS (fun _ => ?_) (fun _ => ?_) | refine cM (fun _ => ?_) (fun _ => ?_) | refine aH (nA _ _ _ _) (by first | rfl | simp only [aA,aD, *]) ?_ | refine aG (nA _ _ _ _) (by first | rfl | simp only [aA,aD, *]) (by intro k;first | rfl | simp only [ *,zaa]) ?_) <;> simp only [↓pre,zal,sM,simprocAttr,aA,h,hv.len',hl', *])
   rw [bS]
   refine bU (fun n e m=>∃ i,n+i=4∧e 1=v∧e 7=aC (i:Nat)∧e 2 = .tptr 0 [aC k,aC r,aC c,aC w]∧Go.Tw.Own m 3 1 (e 6) i (bK ((fM bs).take i))∧∀ (j:Nat) (a:Int),j < i→(fM bs)[j]? = some a→0≤a∧a < w) 4 ⟨0,by omega, ?_⟩ ?_
   ·simp [bB.set,jY,aC,bK,hl']
    exact fC
   ·rintro n e m ⟨i,hi,e1,e7,e2,ho,hok⟩
    replace hok:=Hid.mk hok
    by_cases hlt:i < 4
    ·have hlt':(i:Int) < 4:=by omega
     obtain ⟨a,ha⟩:∃ a,bs[2*i]? = some a:=⟨_,azj (by have:=hl.out;omega)⟩
     obtain ⟨b,hb⟩:∃ a,bs[2*i+1]? = some a:=⟨_,azj (by have:=hl.out;omega)⟩
     have a1:=iE (x:=x) ha
     have b1:=iE (x:=x) hb
     have hd:=apT bs i a b ha hb
     have h1:2*i < bs.length:=by have:=hl.out;omega
     have h2:2*i+1 < bs.length:=by have:=hl.out;omega
     have ea:=a.toNat_lt
     have eb:=b.toNat_lt
     have w1:=bY (n:=i) (by omega)
     have w2:azv.wrap (2*(i:Int))=((2*i:Nat):Int):=by rw [←cD (n:=2*i) (by omega)];rfl
     have w3:=bY (n:=2*i) (by omega)
     have w4:azv.wrap (a.toNat:Int)=(a.toNat:Int):=cD (by omega)
     have w5:azv.wrap (b.toNat:Int)=(b.toNat:Int):=cD (by omega)
     have w6:azv.wrap ((a.toNat:Int)*256)=((a.toNat*256:Nat):Int):=by rw [←cD (n:=a.toNat*256) (by omega)];rfl
     have w7:azv.wrap (((a.toNat*256:Nat):Int)+(b.toNat:Int))=((a.toNat*256+b.toNat:Nat):Int):=by rw [←cD (n:=a.toNat*256+b.toNat) (by omega)];rfl
     replace ho:=Hid.mk ho
     by_cases hbw:((a.toNat*256+b.toNat:Nat):Int) < w
     ·have q2:¬ w≤((a.toNat*256+b.toNat:Nat):Int):=by omega
      replace hbw:=Hid.mk hbw
      simp only [↓pre,zae,sM,bE,azD,simprocAttr,aA,e1,e7,e2,hlt',hv.addr',a1,b1,h1,h2,q2,w1,w2,w3,w4,w5,w6,w7];repeat' ((first | refine cU (fun _ => ?_) (fun _ => ?_) | refine cO (fun _ => ?_) (fun _ => ?_) | refine cV (fun _ => ?_) (fun _ => ?_) | refine cQ (fun _ => ?_) (fun _ => ?_) | refine cS (fun _ => ?_) (fun _ => ?_) | refine cM (fun _ => ?_) (fun _ => ?_)) <;> simp only [↓pre,zae,sM,bE,azD,simprocAttr,aA,e1,e7,e2,hlt',hv.addr',a1,b1,h1,h2,q2,w1,w2,w3,w4,w5,w6,w7, *])
      refine pA (kd := .flat) (sz:=1) (y:=8) (zl:=[.int .i64 0]) (by kernel_rfl) ho.out (by kernel_rfl) (by kernel_rfl) (by kernel_rfl) rfl mN rfl (by omega) (by omega) (fun v3 m3 ho3 hn3 => ?_)
      simp only [↓pre,zae,sM,bE,simprocAttr,aA,e1,e7,e2,w1]
      refine ⟨n - 1,by omega,i+1,by omega,rfl, ?_,fun j z hj hjz => ?_⟩
      ·have hcell:bK ((fM bs).take (i+1))=bK ((fM bs).take i)++[.val (.int .i64 ((a.toNat*256+b.toNat:Nat):Int))]:=by
        rw [aA6,hd];simp [bK,aC]
       rw [hcell]
       exact ho3
      ·by_cases hji:j=i
       ·rw [hji,hd] at hjz;cases hjz;exact ⟨by omega,hbw.out⟩
       ·exact hok.out j z (by omega) hjz
     ·have q2:w≤((a.toNat*256+b.toNat:Nat):Int):=by omega
      have he:gD k r c w bs=220:=by simp [gD,h,hl.out,apH hd (fun hc=>hbw hc.2)]
      rw [he,if_neg (by decide)]
      replace hbw:=Hid.mk hbw
      simp only [↓pre,zae,sM,bE,azD,simprocAttr,aA,e1,e7,e2,hlt',hv.addr',a1,b1,h1,h2,q2,w1,w2,w3,w4,w5,w6,w7];repeat' ((first | refine cU (fun _ => ?_) (fun _ => ?_) | refine cO (fun _ => ?_) (fun _ => ?_) | refine cV (fun _ => ?_) (fun _ => ?_) | refine cQ (fun _ => ?_) (fun _ => ?_) | refine cS (fun _ => ?_) (fun _ => ?_) | refine cM (fun _ => ?_) (fun _ => ?_)) <;> simp only [↓pre,zae,sM,bE,azD,simprocAttr,aA,e1,e7,e2,hlt',hv.addr',a1,b1,h1,h2,q2,w1,w2,w3,w4,w5,w6,w7, *])
      exact ⟨1,eW (bN (.slice none 0 0)) (bN (.int .i64 _)) 1 _⟩
    ·have hlt':¬ (i:Int) < 4:=by omega
     have h4:i=4:=by omega
     have hdl:=adr bs
     have ht:(fM bs).take i=fM bs:=aA7 (by have:=hl.out;omega)
     have he:gD k r c w bs=0:=by
      simp only [gD,h,if_true,hl.out]
      rw [if_pos (afP.2 fun j a hja=>hok.out j a (by have:=(ay5.1 hja).1;have:=hl.out;omega) hja)]
     rw [he,if_pos rfl]
     rw [ht,h4] at ho
     simp only [↓pre,zae,sM,bE,simprocAttr,aA,e1,e7,e2,hlt']
     exact ⟨0,by rw [j8,dM,vK ho 0,aAh,dM,gB,i8];rfl⟩
  ·have hl':¬ ((bs.length:Nat):Int)=8:=by omega
   have he:gD k r c w bs=220:=by simp [gD,h,hl]
   replace hl:=Hid.mk hl
   rw [he,if_neg (by decide)]
   simp only [↓pre,zal,sM,simprocAttr,aA,h,hv.len',hl'];repeat' ((first | refine cU (fun _ => ?_) (fun _ => ?_) | refine cO (fun _ => ?_) (fun _ => ?_) | refine cV (fun _ => ?_) (fun _ => ?_) | refine cQ (fun _ => ?_) (fun _ => ?_) | refine cS (fun _ => ?_) (fun _ => ?_) | refine cM (fun _ => ?_) (fun _ => ?_) | refine aH (nA _ _ _ _) (by first | rfl | simp only [aA,aD, *]) ?_ | refine aG (nA _ _ _ _) (by first | rfl | simp only [aA,aD, *]) (by intro k;first | rfl | simp only [ *,zaa]) ?_) <;> simp only [↓pre,zal,sM,simprocAttr,aA,h,hv.len',hl', *])
   exact ⟨1,eW (bN (.slice none 0 0)) (bN (.int .i64 _)) 1 _⟩
theorem ayi (s:ByteArray):aR ayS 128 [gG s] ⟨aC (if kI s=true then 0 else 6),[]⟩:=by
 have h1:=ab6 s
 cases hn:kI s with
 | false =>
  rw [hn] at h1
  rw [if_neg (by decide)]
  refine aX Tryz.func128 aB (h:=?_);unfold Tryz.f128
  simp only [↓pre,zag,aez,simprocAttr,aA]
  (first | refine aH (h1) (by first | rfl | simp only [aA,aD, *]) ?_ | refine aG (h1) (by first | rfl | simp only [aA,aD, *]) (by intro k;first | rfl | simp only [ *,zaa]) ?_);simp only [↓pre,zag,aez,simprocAttr,aA,Bool.not_false]
 | true =>
  rw [hn] at h1
  rw [if_pos rfl]
  refine aX Tryz.func128 aB (h:=?_);unfold Tryz.f128
  simp only [↓pre,zag,aez,simprocAttr,aA]
  (first | refine aH (h1) (by first | rfl | simp only [aA,aD, *]) ?_ | refine aG (h1) (by first | rfl | simp only [aA,aD, *]) (by intro k;first | rfl | simp only [ *,zaa]) ?_);simp only [↓pre,zag,aez,simprocAttr,aA,Bool.not_true]
theorem ayj (s:ByteArray):aR ayS 129 [gG s] ⟨.tup [aC (if kI s=true then (gM s:Nat) else 0),aC (if kI s=true then 0 else 6)],[]⟩:=by
 have h1:=ab6 s
 cases hn:kI s with
 | false =>
  rw [hn] at h1
  rw [if_neg (by decide),if_neg (by decide)]
  refine aX Tryz.func129 aB (h:=?_);unfold Tryz.f129
  simp only [↓pre,zag,abg,bE,lF,simprocAttr,aA,bA]
  (first | refine aH (h1) (by first | rfl | simp only [aA,aD, *]) ?_ | refine aG (h1) (by first | rfl | simp only [aA,aD, *]) (by intro k;first | rfl | simp only [ *,zaa]) ?_);simp only [↓pre,zag,abg,bE,lF,simprocAttr,aA,bA,Bool.not_false]
 | true =>
  rw [hn] at h1
  rw [if_pos rfl,if_pos rfl]
  have hl:=aiQ s
  have hlen:s.size≤24:=by
   unfold kI at hn
   rw [decide_eq_true_eq] at hn
   omega
  unfold gM
  refine aX Tryz.func129 aB (h:=?_);unfold Tryz.f129
  simp only [↓pre,zag,abg,bE,lF,simprocAttr,aA,bA]
  (first | refine aH (h1) (by first | rfl | simp only [aA,aD, *]) ?_ | refine aG (h1) (by first | rfl | simp only [aA,aD, *]) (by intro k;first | rfl | simp only [ *,zaa]) ?_);simp only [↓pre,zag,abg,bE,lF,simprocAttr,aA,bA,Bool.not_true]
  rw [bS]
  refine bU (fun q e m=>∃ i,q+i=s.size∧e 0=gG s∧e 5=aC (i:Nat)∧e 4=aC (lN (s.data.toList.take i):Nat)) s.size ⟨0,by omega,rfl,rfl,rfl⟩ ?_
  rintro q e m ⟨i,hq,e0,e5,e4⟩
  replace hq:=Hid.mk hq
  by_cases hlt:i < s.size
  ·have hlt':((i:Nat):Int) < ((s.size:Nat):Int):=by omega
   obtain ⟨a,ha⟩:∃ a,s.data.toList[i]? = some a:=⟨_,azj (by omega)⟩
   have hal:=a.toNat_lt
   have hsu:=apP ha
   have hle:=aiN (s.data.toList.take i)
   rw [aBP] at hle
   have wi:=bY (n:=i) (by omega)
   have w1:azv.wrap (a.toNat:Int)=(a.toNat:Int):=cD (by omega)
   have w2:azv.wrap (((lN (s.data.toList.take i):Nat):Int)+(a.toNat:Int))=((lN (s.data.toList.take (i+1)):Nat):Int):=by
    rw [hsu,show ((lN (s.data.toList.take i):Nat):Int)+(a.toNat:Int)=((lN (s.data.toList.take i)+a.toNat:Nat):Int) by simp]
    exact cD (by omega)
   replace hsu:=Hid.mk hsu
   replace hle:=Hid.mk hle
   simp only [↓pre,zag,abg,bE,lF,simprocAttr,aA,bA,e0,e5,e4,hlt',ha,w1,w2,wi]
   exact ⟨q - 1,by have:=hq.out;omega,i+1,by have:=hq.out;omega,rfl,rfl⟩
  ·have hlt':¬ ((i:Nat):Int) < ((s.size:Nat):Int):=by omega
   have hi:s.data.toList.take i=s.data.toList:=aA7 (by omega)
   rw [hi] at e4
   have hle:=aiN s.data.toList
   have w3:Int.tmod ((lN s.data.toList:Nat):Int) 4=((lN s.data.toList % 4:Nat):Int):=rfl
   replace hle:=Hid.mk hle
   simp only [↓pre,zag,abg,bE,lF,simprocAttr,aA,bA,e0,e5,e4,hlt',w3]
end Go.Proofs.YtaekhhlgnbhnpaaGreat
namespace Go.Proofs.YtaekhhlgnbhnpaaGreat
open Go Go.Tw Go.Proofs Go.Gf
theorem ayk (k r c w:Int) (v:AV) (bs:List UInt8) (x:List AV) (hv:aZ v bs.length (aL bs++x)) (hn:bs.length≤1000000000):aR ayS 126 [aA k r c w,v] ⟨ab0 k r c w bs,[]⟩:=by
 have h:=ayg k r c w v bs x hv hn
 unfold ab0
 split at h
 ·rename_i hc
  have h2:=uB 0 h (y6 _ _).2
  rw [(y6 _ _).1] at h2
  rw [if_pos hc,hc]
  exact h2
 ·rename_i hc
  have h2:=uB 0 h (y6 _ _).2
  rw [(y6 _ _).1] at h2
  rw [if_neg hc]
  exact h2
theorem apU (k r c w:Int) (L:List (List UInt8)) (row:Int):∃ a,afJ k r c w L row = .tup [a,.val (.int .i64 (nK k r c w L row))]∧aZ a (dJ k r c w L row).length (aL (dJ k r c w L row)++[]):=by
 unfold afJ dJ nK abW
 by_cases h:jS k r c w L row=0
 ·rw [if_pos h,if_pos h]
  by_cases h2:jE k r c w L (gV k r c w L row) 0 (cK (dC k r c w L row)).toNat=0
  ·rw [if_pos h2,if_pos h2,h2]
   refine ⟨_,rfl, ?_⟩
   have hl:(jT k r c w L (gV k r c w L row) 0 (cK (dC k r c w L row)).toNat).length=(cK (dC k r c w L row)).toNat - 0:=by unfold jT;rw [pJ]
   rw [hl,aBi]
   exact dY _ _
  ·rw [if_neg h2,if_neg h2]
   exact ⟨_,rfl,⟨.inl ⟨rfl,rfl⟩⟩⟩
 ·rw [if_neg h,if_neg h,if_neg h]
  exact ⟨_,rfl,⟨.inl ⟨rfl,rfl⟩⟩⟩
theorem ayl {k r c w:Int} {L:List (List UInt8)} {row:Int} (h:¬ fA k r c w L=0):nK k r c w L row=fA k r c w L:=by
 have h1:kG k r c w L row=fA k r c w L:=by unfold kG;rw [if_neg h]
 have h2:jS k r c w L row=fA k r c w L:=by unfold jS;rw [h1,if_neg h]
 unfold nK
 rw [h2,if_neg h]
theorem aym {k r c w:Int} {L:List (List UInt8)} (h:jV k r c w L=0) {i:Nat} {n:Int} (hn:(eM k r c w L)[i]? = some n):0≤n∧n < w:=by
 unfold jV at h
 split at h
 ·unfold gD at h
  split at h
  ·split at h
   ·split at h
    ·rename_i h1
     exact afP.1 h1 i n hn
    ·omega
   ·omega
  ·omega
 ·contradiction
theorem aiS (k r c w:Int) (v:AV) (L:List (List UInt8)) (cells:List AV) (hv:fQ v L cells):aR ayS 49 [dD k r c w v] ⟨tN k r c w L,[]⟩:=by
 refine d6 ?_
 have hp:=hv.rd.plain
 have hf:=b6 hv.rd
 have ho:=bQ hv.rd
 have hck:=aix k r c w v L cells hv
 have hn2:=fun m (e:Int)=>eW (bN (.slice none 0 0)) (bN (.int .i64 e)) 1 m
 replace hn2:=Hid.mk hn2
 by_cases hI:fA k r c w L=0
 ·obtain ⟨hm,_,_⟩:=abR hI
  have hml:=jA.1 hm
  have hob:=apl k r c w 0 v L cells hv (aap hI ⟨by omega,by omega⟩)
  obtain ⟨TV,e1,hTr⟩:=apU k r c w L 0
  rw [e1] at hob
  rw [hI] at hck
  clear e1
  have hbl:=aat k r c w L 0
  have hdb:=ayh k r c w _ _ [] hTr (by omega)
  have p2:=hTr.plain
  have s2:=cH hTr
  unfold tN jV eM
  unfold dD at hob hck ⊢
  simp only [aC] at hob
  replace hbl:=Hid.mk hbl
  replace hTr:=Hid.mk hTr
  replace hml:=Hid.mk hml
  by_cases hE:nK k r c w L 0=0
  ·rw [if_pos hE]
   rw [hE] at hob
   obtain ⟨a,ha,hsh,hid⟩:=apN k r c w (dJ k r c w L 0)
   have hz:=fun m=>eW hid (bN (.int .i64 (gD k r c w (dJ k r c w L 0)))) 1 m
   rw [show (if gD k r c w (dJ k r c w L 0)=0 then AV.tup [.tree 4 4 (bK (fM (dJ k r c w L 0))) false,aC 0] else .tup [aN,aC (gD k r c w (dJ k r c w L 0))])=y7 k r c w (dJ k r c w L 0) from rfl,ha]
   rw [show aiR k r c w (dJ k r c w L 0)=y7 k r c w (dJ k r c w L 0) from rfl,ha] at hdb
   simp only [aC] at hdb
   generalize gD k r c w (dJ k r c w L 0)=BE at *
   replace hz:=Hid.mk hz
   replace ha:=Hid.mk ha
   replace hE:=Hid.mk hE
   refine bI Tryz.func49 aB (h:=?_);unfold Tryz.f49
   simp only [↓pre,zac,wF,simprocAttr,aA,hf,ho,aJ]
   (first | refine aH (hck) (by first | rfl | simp only [aA,aD, *]) ?_ | refine aG (hck) (by first | rfl | simp only [aA,aD, *]) (by intro k;first | rfl | simp only [ *,zaa]) ?_);simp only [↓pre,zac,wF,simprocAttr,aA,hf,ho,aJ,s2,hsh];(first | refine aH (hob) (by first | rfl | simp only [aA,aD, *]) ?_ | refine aG (hob) (by first | rfl | simp only [aA,aD, *]) (by intro k;first | rfl | simp only [ *,zaa]) ?_);simp only [↓pre,zac,wF,simprocAttr,aA,hf,ho,aJ,s2,hsh];(first | refine aH (hdb) (by first | rfl | simp only [aA,aD, *]) ?_ | refine aG (hdb) (by first | rfl | simp only [aA,aD, *]) (by intro k;first | rfl | simp only [ *,zaa]) ?_);simp only [↓pre,zac,wF,simprocAttr,aA,hf,ho,aJ,s2,hsh]
   exact ⟨1,hz.out _⟩
  ·rw [if_neg hE,if_neg hE]
   refine bI Tryz.func49 aB (h:=?_);unfold Tryz.f49
   simp only [↓pre,zac,wF,simprocAttr,aA,hf,ho,aJ]
   (first | refine aH (hck) (by first | rfl | simp only [aA,aD, *]) ?_ | refine aG (hck) (by first | rfl | simp only [aA,aD, *]) (by intro k;first | rfl | simp only [ *,zaa]) ?_);simp only [↓pre,zac,wF,simprocAttr,aA,hf,ho,aJ,s2,hE];(first | refine aH (hob) (by first | rfl | simp only [aA,aD, *]) ?_ | refine aG (hob) (by first | rfl | simp only [aA,aD, *]) (by intro k;first | rfl | simp only [ *,zaa]) ?_);simp only [↓pre,zac,wF,simprocAttr,aA,hf,ho,aJ,s2,hE]
   exact ⟨1,hn2.out _ _⟩
 ·have hB:jV k r c w L=fA k r c w L:=by
   unfold jV
   rw [ayl hI,if_neg hI]
  unfold tN
  rw [hB,if_neg hI]
  unfold dD at hck ⊢
  replace hB:=Hid.mk hB
  refine bI Tryz.func49 aB (h:=?_);unfold Tryz.f49
  simp only [↓pre,zac,wF,simprocAttr,aA,hf,ho,aJ]
  (first | refine aH (hck) (by first | rfl | simp only [aA,aD, *]) ?_ | refine aG (hck) (by first | rfl | simp only [aA,aD, *]) (by intro k;first | rfl | simp only [ *,zaa]) ?_);simp only [↓pre,zac,wF,simprocAttr,aA,hf,ho,aJ,hI]
  exact ⟨1,hn2.out _ _⟩
theorem apV (k r c w b:Int) (v:AV) (L:List (List UInt8)) (cells:List AV) (hv:fQ v L cells):aR ayS 51 [dD k r c w v,aC b] ⟨enV k r c w L b,[]⟩:=by
 refine d6 ?_
 have hp:=hv.rd.plain
 have hf:=b6 hv.rd
 have ho:=bQ hv.rd
 have hck:=aix k r c w v L cells hv
 have hbk:=aiS k r c w v L cells hv
 unfold enV y8
 unfold tN at hbk
 unfold dD at hck hbk ⊢
 have hn2:=fun m (e:Int)=>eW (bN (.slice none 0 0)) (bN (.int .i64 e)) 1 m
 replace hn2:=Hid.mk hn2
 by_cases hI:fA k r c w L=0
 ·rw [hI] at hck
  simp only [if_pos hI]
  replace hI:=Hid.mk hI
  by_cases h1:b < 0
  ·rw [if_pos (Or.inl h1),if_neg (by decide)]
   refine bI Tryz.func51 aB (h:=?_);unfold Tryz.f51
   simp only [↓pre,zac,m8,simprocAttr,aA,hf,ho,aJ]
   (first | refine aH (hck) (by first | rfl | simp only [aA,aD, *]) ?_ | refine aG (hck) (by first | rfl | simp only [aA,aD, *]) (by intro k;first | rfl | simp only [ *,zaa]) ?_);simp only [↓pre,zac,m8,simprocAttr,aA,hf,ho,aJ,h1]
   exact ⟨1,hn2.out _ _⟩
  ·by_cases h2:4≤b
   ·rw [if_pos (Or.inr h2),if_neg (by decide)]
    refine bI Tryz.func51 aB (h:=?_);unfold Tryz.f51
    simp only [↓pre,zac,m8,simprocAttr,aA,hf,ho,aJ]
    (first | refine aH (hck) (by first | rfl | simp only [aA,aD, *]) ?_ | refine aG (hck) (by first | rfl | simp only [aA,aD, *]) (by intro k;first | rfl | simp only [ *,zaa]) ?_);simp only [↓pre,zac,m8,simprocAttr,aA,hf,ho,aJ,h1,h2]
    exact ⟨1,hn2.out _ _⟩
   ·simp only [if_neg (show ¬ (b < 0∨4≤b) by omega)]
    by_cases hB:jV k r c w L=0
    ·rw [if_pos hB] at hbk
     simp only [if_pos hB]
     obtain ⟨i,rfl⟩:∃ i:Nat,b=(i:Int):=⟨b.toNat,by omega⟩
     rw [Int.toNat_natCast]
     have hil:i < 4:=by omega
     have hbl:=ab5 hB
     obtain ⟨n,hn⟩:∃ n,(eM k r c w L)[i]? = some n:=⟨_,azj (by omega)⟩
     have hn1:(eM k r c w L).getD i 0=n:=by rw [azp,hn];rfl
     rw [hn1]
     have hR4:aZ (.tree 4 4 (bK (eM k r c w L)) false) 4 (bK (eM k r c w L)):=⟨.inr (.inr ⟨_,_,rfl,ay7 _⟩)⟩
     have a1:=nB (x:=[]) hn
     rw [aBi] at a1
     have p4:=hR4.plain
     have f4:=b6 hR4
     have o4:=bQ hR4
     have s4:=cH hR4
     have l4:=fun P t=>hR4.len' (P:=P) (t:=t)
     have d4:=fun P t k=>hR4.addr' (P:=P) (t:=t) (k:=k)
     generalize AV.tree 4 4 (bK (eM k r c w L)) false=RV at *
     generalize bK (eM k r c w L)=RC at *
     have hob:=apl k r c w n v L cells hv (aap hI.out (aym hB hn))
     obtain ⟨TV,e1,hTr⟩:=apU k r c w L n
     rw [e1] at hob
     clear e1
     have hol:=aat k r c w L n
     have hdp:=ayk k r c w _ _ [] hTr (by omega)
     have p2:=hTr.plain
     have f2:=b6 hTr
     have o2:=bQ hTr
     have s2:=cH hTr
     unfold dD at hob
     simp only [aC] at hob hbk
     replace hbl:=Hid.mk hbl
     replace hn:=Hid.mk hn
     replace hn1:=Hid.mk hn1
     replace hB:=Hid.mk hB
     replace hR4:=Hid.mk hR4
     replace hol:=Hid.mk hol
     replace hTr:=Hid.mk hTr
     by_cases hE:nK k r c w L n=0
     ·rw [if_pos hE]
      rw [hE] at hob
      obtain ⟨a,ha,hsh,hid⟩:=apO k r c w (dJ k r c w L n)
      have hz:=fun m=>eW hid (bN (.int .i64 (fK k r c w (dJ k r c w L n)))) 1 m
      rw [ha]
      rw [ha] at hdp
      simp only [aC] at hdp
      generalize fK k r c w (dJ k r c w L n)=PE at *
      replace hz:=Hid.mk hz
      replace ha:=Hid.mk ha
      replace hE:=Hid.mk hE
      refine bI Tryz.func51 aB (h:=?_);unfold Tryz.f51
      simp only [↓pre,zac,m8,simprocAttr,aA,hf,ho,aJ]
      (first | refine aH (hck) (by first | rfl | simp only [aA,aD, *]) ?_ | refine aG (hck) (by first | rfl | simp only [aA,aD, *]) (by intro k;first | rfl | simp only [ *,zaa]) ?_);simp only [↓pre,zac,m8,simprocAttr,aA,hf,ho,aJ,h1,h2,hil,a1,f2,o2,s2,f4,o4,s4,l4,d4,hsh];(first | refine aH (hbk) (by first | rfl | simp only [aA,aD, *]) ?_ | refine aG (hbk) (by first | rfl | simp only [aA,aD, *]) (by intro k;first | rfl | simp only [ *,zaa]) ?_);simp only [↓pre,zac,m8,simprocAttr,aA,hf,ho,aJ,h1,h2,hil,a1,f2,o2,s2,f4,o4,s4,l4,d4,hsh];(first | refine aH (hob) (by first | rfl | simp only [aA,aD, *]) ?_ | refine aG (hob) (by first | rfl | simp only [aA,aD, *]) (by intro k;first | rfl | simp only [ *,zaa]) ?_);simp only [↓pre,zac,m8,simprocAttr,aA,hf,ho,aJ,h1,h2,hil,a1,f2,o2,s2,f4,o4,s4,l4,d4,hsh];(first | refine aH (hdp) (by first | rfl | simp only [aA,aD, *]) ?_ | refine aG (hdp) (by first | rfl | simp only [aA,aD, *]) (by intro k;first | rfl | simp only [ *,zaa]) ?_);simp only [↓pre,zac,m8,simprocAttr,aA,hf,ho,aJ,h1,h2,hil,a1,f2,o2,s2,f4,o4,s4,l4,d4,hsh]
      exact ⟨1,hz.out _⟩
     ·rw [if_neg hE]
      refine bI Tryz.func51 aB (h:=?_);unfold Tryz.f51
      simp only [↓pre,zac,m8,simprocAttr,aA,hf,ho,aJ]
      (first | refine aH (hck) (by first | rfl | simp only [aA,aD, *]) ?_ | refine aG (hck) (by first | rfl | simp only [aA,aD, *]) (by intro k;first | rfl | simp only [ *,zaa]) ?_);simp only [↓pre,zac,m8,simprocAttr,aA,hf,ho,aJ,h1,h2,hil,a1,f2,o2,s2,f4,o4,s4,l4,d4,hE];(first | refine aH (hbk) (by first | rfl | simp only [aA,aD, *]) ?_ | refine aG (hbk) (by first | rfl | simp only [aA,aD, *]) (by intro k;first | rfl | simp only [ *,zaa]) ?_);simp only [↓pre,zac,m8,simprocAttr,aA,hf,ho,aJ,h1,h2,hil,a1,f2,o2,s2,f4,o4,s4,l4,d4,hE];(first | refine aH (hob) (by first | rfl | simp only [aA,aD, *]) ?_ | refine aG (hob) (by first | rfl | simp only [aA,aD, *]) (by intro k;first | rfl | simp only [ *,zaa]) ?_);simp only [↓pre,zac,m8,simprocAttr,aA,hf,ho,aJ,h1,h2,hil,a1,f2,o2,s2,f4,o4,s4,l4,d4,hE]
      exact ⟨1,hn2.out _ _⟩
    ·rw [if_neg hB] at hbk
     simp only [if_neg hB]
     unfold aN at hbk
     simp only [aC] at hbk
     refine bI Tryz.func51 aB (h:=?_);unfold Tryz.f51
     simp only [↓pre,zac,m8,simprocAttr,aA,hf,ho,aJ]
     (first | refine aH (hck) (by first | rfl | simp only [aA,aD, *]) ?_ | refine aG (hck) (by first | rfl | simp only [aA,aD, *]) (by intro k;first | rfl | simp only [ *,zaa]) ?_);simp only [↓pre,zac,m8,simprocAttr,aA,hf,ho,aJ,h1,h2,hB];(first | refine aH (hbk) (by first | rfl | simp only [aA,aD, *]) ?_ | refine aG (hbk) (by first | rfl | simp only [aA,aD, *]) (by intro k;first | rfl | simp only [ *,zaa]) ?_);simp only [↓pre,zac,m8,simprocAttr,aA,hf,ho,aJ,h1,h2,hB]
     exact ⟨1,hn2.out _ _⟩
 ·simp only [if_neg hI]
  refine bI Tryz.func51 aB (h:=?_);unfold Tryz.f51
  simp only [↓pre,zac,m8,simprocAttr,aA,hf,ho,aJ]
  (first | refine aH (hck) (by first | rfl | simp only [aA,aD, *]) ?_ | refine aG (hck) (by first | rfl | simp only [aA,aD, *]) (by intro k;first | rfl | simp only [ *,zaa]) ?_);simp only [↓pre,zac,m8,simprocAttr,aA,hf,ho,aJ,hI]
  exact ⟨1,hn2.out _ _⟩
def ads (s:ByteArray) (a:Int) (e:dV):Int:=if e.1=s then e.2 else a
def scn (l:List dV) (s:ByteArray):Int:=l.foldl (ads s) (-1)
theorem afX (s:ByteArray):∀ (l:List dV) (a:Int),(∀ e∈l,e.1≠s)→l.foldl (ads s) a=a
 | [],_,_=>rfl
 | e::l,a,h=>by
  have h1:ads s a e=a:=by unfold ads;rw [if_neg (h e (by simp))]
  rw [List.foldl_cons,h1]
  exact afX s l a fun x hx=>h x (by simp [hx])
theorem ayn {l:List dV} {s:ByteArray} (hs:abZ l):scn l s=if mG l s=true then vO l s else -1:=by
 by_cases h:∃ (i:Nat) (z:Int),l[i]? = some (s,z)
 ·obtain ⟨i,z,hi⟩:=h
  obtain ⟨h1,h2⟩:=ax3 hs hi
  rw [if_pos h1,h2]
  have hil:=(ay5.1 hi).1
  have hne:∀ j t y,j≠i→l[j]? = some (t,y)→t≠s:=fun j t y hj hy he=>by
   rcases Nat.lt_or_ge j i with h | h
   ·have:=hs j i _ _ h hy hi
    rw [he] at this
    rw [show jU s s=false from afU _] at this
    cases this
   ·have:=hs i j _ _ (by omega) hi hy
    rw [he] at this
    rw [show jU s s=false from afU _] at this
    cases this
  have hsp:l=l.take i++(s,z)::l.drop (i+1):=by
   rw [azj hil] at hi
   rw [←aAR hi,←aBe hil,List.take_append_drop]
  have hA:∀ e∈l.take i,e.1≠s:=fun e he=>by
   obtain ⟨j,hj,rfl⟩:=List.getElem_of_mem he
   rw [aBP] at hj
   exact hne j _ _ (by omega) (by rw [azj (by omega),List.getElem_take])
  have hB:∀ e∈l.drop (i+1),e.1≠s:=fun e he=>by
   obtain ⟨j,hj,rfl⟩:=List.getElem_of_mem he
   rw [aA9] at hj
   exact hne (i+1+j) _ _ (by omega) (by rw [azj (by omega),List.getElem_drop])
  unfold scn
  rw [hsp,List.foldl_append,afX s _ _ hA,List.foldl_cons,afX s _ _ hB]
  unfold ads
  rw [if_pos rfl]
 ·have hno:∀ (i:Nat) (t:ByteArray) (z:Int),l[i]? = some (t,z)→t≠s:=fun i t z hi he=>h ⟨i,z,he ▸ hi⟩
  rw [ax4 hno,if_neg (by decide)]
  refine afX s l _ fun e he => ?_
  obtain ⟨j,hj,rfl⟩:=List.getElem_of_mem he
  exact hno j _ _ (by rw [azj hj])
theorem ayo {l:List dV} {s t:ByteArray} {i:Nat} {z:Int} (h:l[i]? = some (t,z)):scn (l.take (i+1)) s=if t=s then z else scn (l.take i) s:=by
 unfold scn
 rw [aA6,h,List.foldl_append]
 rfl
def fiR (k r c w:Int) (L:List (List UInt8)) (s:ByteArray):Int:=if mG (iF k r c w L (gM s:Nat)) s=true then vO (iF k r c w L (gM s:Nat)) s else -1
def fiW (k r c w:Int) (L:List (List UInt8)) (s:ByteArray):AV:=if xH k r c w L s=0 then .tup [.agg [aC (fiR k r c w L s),aC ((eM k r c w L).getD (gM s) 0)],aC 0] else .tup [.agg [aC 0,aC 0],aC (xH k r c w L s)]
def iQ:Nat→Bool:=fun d=>d != 4 && d != 11
theorem ayp (k r c w:Int) (v:AV) (L:List (List UInt8)) (cells:List AV) (hv:fQ v L cells) (s:ByteArray):aR ayS 53 [dD k r c w v,gG s] ⟨fiW k r c w L s,[]⟩:=by
 have hp:=hv.rd.plain
 have hf:=b6 hv.rd
 have ho:=bQ hv.rd
 have hck:=aix k r c w v L cells hv
 have hnm:=ayi s
 have hbu:=ayj s
 have hbk:=aiS k r c w v L cells hv
 have hen:=apV k r c w (gM s:Nat) v L cells hv
 rw [aiO] at hen
 unfold tN at hbk
 unfold fiW xH fiR
 unfold dD at hck hbk hen ⊢
 by_cases hI:fA k r c w L=0
 ·rw [hI] at hck
  rw [if_pos hI]
  replace hI:=Hid.mk hI
  cases hn:kI s with
  | false =>
   rw [hn,if_neg (by decide)] at hnm
   rw [if_neg (show ¬ false=true by decide),if_neg (show ¬ (6:Int)=0 by decide)]
   clear hbu hen hbk
   refine aX Tryz.func53 iQ (h:=?_);unfold Tryz.f53
   simp only [↓pre,zaf,iQ,simprocAttr,aA,bne,aBS,aJ,hf,ho]
   (first | refine aH (hck) (by first | rfl | simp only [aA,aD, *]) ?_ | refine aG (hck) (by first | rfl | simp only [aA,aD, *]) (by intro k;first | rfl | simp only [ *,zaa]) ?_);simp only [↓pre,zaf,iQ,simprocAttr,aA,bne,aBS,aJ,hf,ho];(first | refine aH (hnm) (by first | rfl | simp only [aA,aD, *]) ?_ | refine aG (hnm) (by first | rfl | simp only [aA,aD, *]) (by intro k;first | rfl | simp only [ *,zaa]) ?_);simp only [↓pre,zaf,iQ,simprocAttr,aA,bne,aBS,aJ,hf,ho]
  | true =>
   rw [hn,if_pos rfl] at hnm
   rw [hn,if_pos rfl,if_pos rfl] at hbu
   rw [if_pos rfl]
   by_cases hB:jV k r c w L=0
   ·rw [if_pos hB] at hbk ⊢
    have hbl:=ab5 hB
    have hb4:=apQ s
    obtain ⟨n,hbn⟩:∃ n,(eM k r c w L)[gM s]? = some n:=⟨_,azj (by omega)⟩
    have hn1:(eM k r c w L).getD (gM s) 0=n:=by rw [azp,hbn];rfl
    have hR4:aZ (.tree 4 4 (bK (eM k r c w L)) false) 4 (bK (eM k r c w L)):=⟨.inr (.inr ⟨_,_,rfl,ay7 _⟩)⟩
    have a1:=nB (x:=[]) hbn
    rw [aBi] at a1
    have s4:=cH hR4
    have d4:=fun P t k=>hR4.addr' (P:=P) (t:=t) (k:=k)
    rw [hn1]
    generalize AV.tree 4 4 (bK (eM k r c w L)) false=RV at *
    generalize bK (eM k r c w L)=RC at *
    simp only [aC] at hbu hbk hen
    by_cases hE:qZ k r c w L (gM s:Nat)=0
    ·obtain ⟨_,_,_,_,hok,hlg,_⟩:=afT hE
     rw [if_pos hE]
     rw [hE,if_pos rfl] at hen
     rw [←ayn (apw hok)]
     have hnl:=afM (iF k r c w L (gM s:Nat))
     have hL:=dY (iF k r c w L (gM s:Nat)).length (dX (iF k r c w L (gM s:Nat)))
     have hat:=fun (i:Nat) (t:ByteArray) (z:Int) (h:(iF k r c w L (gM s:Nat))[i]? = some (t,z))=>tH (x:=[]) h
     simp only [aBi] at hat
     have sL:=cH hL
     generalize iF k r c w L (gM s:Nat)=l at *
     generalize bD l.length (dX l)=LV at *
     replace hok:=Hid.mk hok
     replace hlg:=Hid.mk hlg
     replace hat:=Hid.mk hat
     replace hE:=Hid.mk hE
     replace hB:=Hid.mk hB
     replace hbl:=Hid.mk hbl
     replace hbn:=Hid.mk hbn
     replace hn1:=Hid.mk hn1
     refine aX Tryz.func53 iQ (h:=?_);unfold Tryz.f53
     simp only [↓pre,zaf,iQ,simprocAttr,aA,bne,aBS,aJ,hf,ho]
     (first | refine aH (hck) (by first | rfl | simp only [aA,aD, *]) ?_ | refine aG (hck) (by first | rfl | simp only [aA,aD, *]) (by intro k;first | rfl | simp only [ *,zaa]) ?_);simp only [↓pre,zaf,iQ,simprocAttr,aA,bne,aBS,aJ,hf,ho,s4,d4,hb4,a1,sL];(first | refine aH (hnm) (by first | rfl | simp only [aA,aD, *]) ?_ | refine aG (hnm) (by first | rfl | simp only [aA,aD, *]) (by intro k;first | rfl | simp only [ *,zaa]) ?_);simp only [↓pre,zaf,iQ,simprocAttr,aA,bne,aBS,aJ,hf,ho,s4,d4,hb4,a1,sL];(first | refine aH (hbu) (by first | rfl | simp only [aA,aD, *]) ?_ | refine aG (hbu) (by first | rfl | simp only [aA,aD, *]) (by intro k;first | rfl | simp only [ *,zaa]) ?_);simp only [↓pre,zaf,iQ,simprocAttr,aA,bne,aBS,aJ,hf,ho,s4,d4,hb4,a1,sL];(first | refine aH (hbk) (by first | rfl | simp only [aA,aD, *]) ?_ | refine aG (hbk) (by first | rfl | simp only [aA,aD, *]) (by intro k;first | rfl | simp only [ *,zaa]) ?_);simp only [↓pre,zaf,iQ,simprocAttr,aA,bne,aBS,aJ,hf,ho,s4,d4,hb4,a1,sL];(first | refine aH (hen) (by first | rfl | simp only [aA,aD, *]) ?_ | refine aG (hen) (by first | rfl | simp only [aA,aD, *]) (by intro k;first | rfl | simp only [ *,zaa]) ?_);simp only [↓pre,zaf,iQ,simprocAttr,aA,bne,aBS,aJ,hf,ho,s4,d4,hb4,a1,sL]
     rw [bS]
     refine bU (fun q e m=>∃ i,q+i=l.length∧e 1=gG s∧e 4 = .ptr 0 0∧e 10=LV∧e 11 = .ptr 1 0∧e 12=aC (i:Nat)∧Hid (m.at_ 0=some ⟨[.val (.int .i64 0),.val (.int .i64 0)],79,.var,true⟩∧m.at_ 1=some ⟨[.val (.int .i64 (scn (l.take i) s)),.val (.int .i64 n)],79,.var,true⟩)) l.length ⟨0,by omega,rfl,rfl,rfl,rfl,rfl,⟨by simp [aO,aT,bX,bM,a8],by simp [aO,aT,bX,bM,a8,scn]⟩⟩ ?_
     rintro q e m ⟨i,hq,e1,e4,e10,e11,e12,hJ⟩
     replace hq:=Hid.mk hq
     obtain ⟨m0,m1⟩:=hJ.out
     clear hJ
     by_cases hlt:i < l.length
     ·have hlt':((i:Nat):Int) < ((l.length:Nat):Int):=by omega
      have wi:=bY (n:=i) (by have:=hlg.out;omega)
      obtain ⟨t,z,htz⟩:∃ t z,l[i]? = some (t,z):=⟨_,_,azj hlt⟩
      obtain ⟨b1,b2,b3,b4⟩:=hat.out i t z htz
      have hsc:=ayo (s:=s) htz
      replace htz:=Hid.mk htz
      by_cases hts:t=s
      ·rw [if_pos hts] at hsc
       replace hsc:=Hid.mk hsc
       simp only [↓pre,zaf,iQ,simprocAttr,aA,bne,aBS,aJ,hf,ho,e1,e4,e10,e11,e12,hL.len',hlt',hlt,hL.addr',b1,b2,b3,b4,hts,m0,m1,wi]
       exact ⟨q - 1,by have:=hq.out;omega,i+1,by have:=hq.out;omega,rfl,⟨by rw [hsc.out]⟩⟩
      ·rw [if_neg hts] at hsc
       replace hsc:=Hid.mk hsc
       simp only [↓pre,zaf,iQ,simprocAttr,aA,bne,aBS,aJ,hf,ho,e1,e4,e10,e11,e12,hL.len',hlt',hlt,hL.addr',b1,b2,b3,b4,hts,m0,m1,wi]
       exact ⟨q - 1,by have:=hq.out;omega,i+1,by have:=hq.out;omega,rfl,⟨by rw [hsc.out]⟩⟩
     ·have hlt':¬ ((i:Nat):Int) < ((l.length:Nat):Int):=by omega
      have hi:l.take i=l:=aA7 (by omega)
      rw [hi] at m1
      replace hi:=Hid.mk hi
      simp only [↓pre,zaf,iQ,simprocAttr,aA,bne,aBS,aJ,hf,ho,e1,e4,e10,e11,e12,hL.len',hlt',m0,m1]
    ·rw [if_neg hE]
     rw [if_neg hE] at hen
     simp only [aAD,dX] at hen
     rw [show bD 0 ([]:List AV) = .val (.slice none 0 0) from rfl] at hen
     refine aX Tryz.func53 iQ (h:=?_);unfold Tryz.f53
     simp only [↓pre,zaf,iQ,simprocAttr,aA,bne,aBS,aJ,hf,ho]
     (first | refine aH (hck) (by first | rfl | simp only [aA,aD, *]) ?_ | refine aG (hck) (by first | rfl | simp only [aA,aD, *]) (by intro k;first | rfl | simp only [ *,zaa]) ?_);simp only [↓pre,zaf,iQ,simprocAttr,aA,bne,aBS,aJ,hf,ho,s4,d4,hb4,a1,hE];(first | refine aH (hnm) (by first | rfl | simp only [aA,aD, *]) ?_ | refine aG (hnm) (by first | rfl | simp only [aA,aD, *]) (by intro k;first | rfl | simp only [ *,zaa]) ?_);simp only [↓pre,zaf,iQ,simprocAttr,aA,bne,aBS,aJ,hf,ho,s4,d4,hb4,a1,hE];(first | refine aH (hbu) (by first | rfl | simp only [aA,aD, *]) ?_ | refine aG (hbu) (by first | rfl | simp only [aA,aD, *]) (by intro k;first | rfl | simp only [ *,zaa]) ?_);simp only [↓pre,zaf,iQ,simprocAttr,aA,bne,aBS,aJ,hf,ho,s4,d4,hb4,a1,hE];(first | refine aH (hbk) (by first | rfl | simp only [aA,aD, *]) ?_ | refine aG (hbk) (by first | rfl | simp only [aA,aD, *]) (by intro k;first | rfl | simp only [ *,zaa]) ?_);simp only [↓pre,zaf,iQ,simprocAttr,aA,bne,aBS,aJ,hf,ho,s4,d4,hb4,a1,hE];(first | refine aH (hen) (by first | rfl | simp only [aA,aD, *]) ?_ | refine aG (hen) (by first | rfl | simp only [aA,aD, *]) (by intro k;first | rfl | simp only [ *,zaa]) ?_);simp only [↓pre,zaf,iQ,simprocAttr,aA,bne,aBS,aJ,hf,ho,s4,d4,hb4,a1,hE]
   ·rw [if_neg hB,if_neg hB]
    rw [if_neg hB] at hbk
    unfold aN at hbk
    simp only [aC] at hbu hbk
    clear hen
    refine aX Tryz.func53 iQ (h:=?_);unfold Tryz.f53
    simp only [↓pre,zaf,iQ,simprocAttr,aA,bne,aBS,aJ,hf,ho]
    (first | refine aH (hck) (by first | rfl | simp only [aA,aD, *]) ?_ | refine aG (hck) (by first | rfl | simp only [aA,aD, *]) (by intro k;first | rfl | simp only [ *,zaa]) ?_);simp only [↓pre,zaf,iQ,simprocAttr,aA,bne,aBS,aJ,hf,ho,hB];(first | refine aH (hnm) (by first | rfl | simp only [aA,aD, *]) ?_ | refine aG (hnm) (by first | rfl | simp only [aA,aD, *]) (by intro k;first | rfl | simp only [ *,zaa]) ?_);simp only [↓pre,zaf,iQ,simprocAttr,aA,bne,aBS,aJ,hf,ho,hB];(first | refine aH (hbu) (by first | rfl | simp only [aA,aD, *]) ?_ | refine aG (hbu) (by first | rfl | simp only [aA,aD, *]) (by intro k;first | rfl | simp only [ *,zaa]) ?_);simp only [↓pre,zaf,iQ,simprocAttr,aA,bne,aBS,aJ,hf,ho,hB];(first | refine aH (hbk) (by first | rfl | simp only [aA,aD, *]) ?_ | refine aG (hbk) (by first | rfl | simp only [aA,aD, *]) (by intro k;first | rfl | simp only [ *,zaa]) ?_);simp only [↓pre,zaf,iQ,simprocAttr,aA,bne,aBS,aJ,hf,ho,hB]
 ·rw [if_neg hI,if_neg hI]
  clear hnm hbu hen hbk
  refine aX Tryz.func53 iQ (h:=?_);unfold Tryz.f53
  simp only [↓pre,zaf,iQ,simprocAttr,aA,bne,aBS,aJ,hf,ho]
  (first | refine aH (hck) (by first | rfl | simp only [aA,aD, *]) ?_ | refine aG (hck) (by first | rfl | simp only [aA,aD, *]) (by intro k;first | rfl | simp only [ *,zaa]) ?_);simp only [↓pre,zaf,iQ,simprocAttr,aA,bne,aBS,aJ,hf,ho,hI]
theorem ayq (k r c w:Int) (v:AV) (bs:List UInt8) (x:List AV) (hv:aZ v bs.length (aL bs++x)) (h:bG k r c w=true) (hl:bs.length=8) (hr:qY w (fM bs)=true):aR ayS 121 [aA k r c w,v] (ab4 4 (fM bs) 0):=by
 refine ⟨by kernel_rfl,fun W I vs hI hsz hvs => ?_⟩
 rcases hv.form with ⟨_,h0⟩ | ⟨_,_,_,h0⟩ | ⟨cc,f,rfl,hcc⟩
 ·omega
 ·omega
 simp only [bC,VR] at hvs
 obtain ⟨⟨v1,h1,ps,rfl,hps,_,⟨p0,hp0,rfl⟩,⟨p1,hp1,rfl⟩,⟨p2,hp2,rfl⟩,⟨p3,hp3,rfl⟩,_⟩,⟨v2,h2,g,o,cap,rfl,hIg,⟨hc1,hc2⟩,_,_,hcells⟩,_⟩:=hvs
 have hps':ps = #[.int .i64 k,.int .i64 r,.int .i64 c,.int .i64 w]:=by
  match ps,hps,hp0,hp1,hp2,hp3 with
  | ⟨[a,b,d,e]⟩,_,hp0,hp1,hp2,hp3=>simp at hp0 hp1 hp2 hp3;simp [hp0,hp1,hp2,hp3]
 subst hps'
 rw [hl] at h2 hc1
 have hvs':vs = #[.agg #[.int .i64 k,.int .i64 r,.int .i64 c,.int .i64 w],.slice (some ⟨g,o,none⟩) 8 cap]:=by
  match vs,hsz,h1,h2 with
  | ⟨[a,b]⟩,_,h1,h2=>simp at h1 h2;simp [h1,h2]
 subst hvs'
 have hcs:∀ j,j < 8→W.cell? ⟨g,o+j,none⟩=some (.int .u8 (bs.getD j 0).toNat):=fun j hj=>by
  have hj2:=iE (bs:=bs) (x:=x) (i:=j) (a:=bs.getD j 0) (by rw [azp,azj (by omega)];rfl)
  obtain ⟨u,q1,q2⟩:=gQ hcells hj2
  simp only [VR] at q2
  rw [q2] at q1
  exact q1
 refine (callsIn_wide.1 (apK Fence.wide ⟨rfl⟩ h g o cap (by omega) bs hl W (hI g hIg) hcs)).mono fun e W' hq => ?_
 obtain ⟨hB,hq⟩:=hq
 have hk4:bP ayS 3 = .flat:=by kernel_rfl
 have hM:dT ayS aF.empty (ab4 4 (fM bs) 0).rows=aF.empty.push ⟨bK (fM bs),3,.flat,true⟩:=by
  simp [ab4,fU,dT,gO,hk4]
 rcases hq with ⟨_,v,rfl,hown,hone⟩ | ⟨hr',_⟩
 ·rcases hown.2 with ⟨rfl,h0⟩ | ⟨g2,cap2,cur,rfl,q1,q2,q3,q4,q5,q6⟩
  ·omega
  have hI2:¬ I g2:=fun hg=>by have:=hI g2 hg;omega
  have hfz:∀ j,W'.frozen? ⟨g2,j,none⟩=false:=fun j=>by simp [World.frozen?,q2]
  have hat:∀ b kk,(aF.empty.push ⟨bK (fM bs),3,.flat,true⟩).at_ b=some kk→b=0∧kk=⟨bK (fM bs),3,.flat,true⟩:=fun b kk hb=>by
   rw [aT] at hb
   split at hb
   ·rename_i e
    exact ⟨e,(aAR hb).symm⟩
   ·simp [aF.empty] at hb
  have hmm:¬ (aF.empty.push ⟨bK (fM bs),3,.flat,true⟩).mm.has g2:=fun hh=>q9 hh
  rw [hM]
  refine ⟨_,I,mZ cZ 0 (g2,0),rfl, ?_,⟨fun b kk g' o' h1 h2 => ?_,fun b b' kk kk' g' o1 o2 h1 h2 _ _ _=>(hat b kk h1).1.trans (hat b' kk' h2).1.symm,fun y hy=>aza (hI y hy) hB.size,jH.none⟩, ?_⟩
  ·simp only [ab4,fU,VR,bC]
   rw [if_neg (by decide)]
   simp only [VR]
   refine ⟨_,rfl,rfl,⟨_,rfl,g2,0,cap2,3,cur.size,1,tS _ _ _,rfl,⟨ay7 _,q3⟩,(fun h=>by cases h), ?_, ?_, ?_⟩,⟨_,rfl,rfl⟩,trivial⟩
   ·simp [World.shape?,q2]
   ·kernel_rfl
   ·rw [q5];omega
  ·obtain ⟨rfl,rfl⟩:=hat b kk h1
   rw [tS] at h2
   cases h2
   refine ⟨?_,⟨cur,_,q2, ?_⟩,fun _=>⟨hI2,fun j hj=>by rw [hfz] at hj;cases hj⟩,(fun h=>by cases h),fun _ arr ty fr ha u hu => ?_,fun _ _ j=>hfz j⟩
   ·intro a ha
    obtain ⟨z,_,rfl⟩:=azm.1 ha
    rfl
   ·refine j6.2 fun j a hj => ?_
    unfold bK at hj
    rw [azl] at hj
    obtain ⟨z,hz,rfl⟩:=ayR hj
    refine ⟨.int .i64 z, ?_,by simp only [aC,VR]⟩
    have hjl:=(ay5.1 hz).1
    have hdl:=adr bs
    have h6:=congrArg (fun l:List Value=>l[j]?) q6
    simp only [azl,hz,az3,azD] at h6
    rw [aBQ (by omega),aAi] at h6
    rw [azn]
    exact h6
   ·exact hone g2 4 cap2 rfl arr ty fr ha u hu
  ·refine ⟨hB.os,hB.tape,hB.output,hB.size,fun g hg _=>hB.block g hg,fun g y hy=>by rw [tR (hB.block g (zF hy))];exact hy,fun _ h=>h,fun _ h => .inl h,fun _ _ h=>by simp [cZ] at h,fun b _ h2 => ?_,fun g hg => ?_,aAz _⟩
   ·refine ⟨aAz _, ?_⟩
    rw [bM]
    by_cases e:b=0
    ·subst e;exact Nat.zero_lt_succ _
    ·simp [mZ,e,cZ] at h2
   ·rcases hg with ⟨b,kk,o',h1,_,h3⟩ | hg
    ·obtain ⟨rfl,rfl⟩:=hat b kk h1
     rw [tS] at h3
     cases h3
     exact .inr q1
    ·exact (q9 hg).elim
 ·rw [hr] at hr'
  cases hr'
end Go.Proofs.YtaekhhlgnbhnpaaGreat