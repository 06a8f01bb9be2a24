import Derived.Test.YtgcicholalgbiaaGreatLrcG23
import Derived.Test.YtgcicholalgbiaaGreatLrcG08
import Derived.Test.YtgcicholalgbiaaGreatLrcG15
import Derived.Shelf.GgSortFunc.RowK
import Derived.Test.YtgcicholalgbiaaGreatLrcG22
set_option linter.unusedVariables false
set_option linter.unusedSimpArgs false
set_option maxRecDepth 10000
namespace Go.Proofs.YtgcicholalgbiaaGreat
open Go Go.Tw Go.Proofs Go.Sort
theorem putCells_map (off:Nat) (d:Array Int) (c:Array Value):putCells (Value.int .i64) off d c=putCells id off (d.map (Value.int .i64)) c:=by
 unfold putCells
 apply Array.ext (by simp)
 intro i h1 h2
 simp only [Array.getElem_mapIdx,Array.size_map]
 split
 ·rename_i h
  have h3:i - off < d.size:=by omega
  have h4:i - off < (d.map (Value.int .i64)).size:=by simpa using h3
  rw [getElem!_pos d (i - off) h3,getElem!_pos (d.map (Value.int .i64)) (i - off) h4,Array.getElem_map]
  rfl
 ·rfl
theorem putRow_map (w:World) (g o:Nat) (d:Array Int):putRow (Value.int .i64) w g o d=putRow id w g o (d.map (Value.int .i64)):=by
 unfold putRow
 rw [show putCells (Value.int .i64) o d=putCells id o (d.map (Value.int .i64)) from funext (putCells_map o d)]
theorem putRow_cells (w:World) (g o:Nat) (d0 d:Array Int) (hH:Holds (Value.int .i64) w g o d0) (hs:d.size=d0.size):putRow (Value.int .i64) w g o d=w.setCells g o (d.map (Value.int .i64)).toList:=by
 have hself:putRow id w g o (d0.map (Value.int .i64))=w:=by rw [←putRow_map];exact putRow_self _ w g o d0 hH
 have hsc:=setCells_putRow w g o (d.map (Value.int .i64)).toList 0 (d0.map (Value.int .i64)) (by simp [hs])
 rw [hself,Nat.add_zero] at hsc
 rw [hsc,putRow_map]
 congr 1
 refine Go.Sort.ext_get! (by simp [hs]) fun t ht => ?_
 have ht1:t < d.size:=by simpa using ht
 have ht2:t < (d0.map (Value.int .i64)).size:=by simp;omega
 rw [Go.Sort.get_setMany _ _ _ t ht2,if_pos ⟨Nat.zero_le _,by simpa using ht1⟩,Nat.sub_zero]
 simp [ht1]
section
variable {P:Program} {w:World} {I:Nat→Prop} {ρ:Real} {m:Mem}
theorem SR_heapI (hS:SR P w I ρ m) {w':World} (h:w'.heap=w.heap):SR P w' I ρ m:=by
 have hk:Keeps w w' I I:=⟨fun _ h=>h,fun g _=>by rw [h],fun g x hx=>by unfold World.shape? at *;rw [h];exact hx⟩
 exact ⟨fun b k g o h1 h2=>BR_keep hk (fun _ _ h=>h) (hS.blk b k g o h1 h2) (by rw [h]) (fun hw=>((hS.blk b k g o h1 h2).wr hw).1),hS.inj,fun g hg=>by rw [h];exact hS.lt g hg,hS.mms.keep hk (fun _ _ h=>h) (fun g _=>⟨by rw [h],fun h=>h⟩)⟩
theorem grow_oldI {w:World} {os:Array Obj} {g:Nat} (hg:g < w.heap.size):(grow w os).heap[g]? = w.heap[g]? := by
 show (w.heap++os)[g]? = _
 rw [Array.getElem?_append_left hg]
theorem SR_growI (hS:SR P w I ρ m) (os:Array Obj):SR P (grow w os) I ρ m∧Step w I ρ m (grow w os) I ρ m:=by
 have hk:Keeps w (grow w os) I I:=⟨fun _ h=>h,fun g hg=>grow_oldI (hS.lt g hg),fun g x hx=>by rw [shape_same (grow_oldI (shape_lt hx))];exact hx⟩
 have hsz:w.heap.size≤(grow w os).heap.size:=by show _≤(w.heap++os).size;simp
 refine ⟨⟨fun b k g o h1 h2=>BR_keep hk (fun _ _ h=>h) (hS.blk b k g o h1 h2) (grow_oldI (hS.ltb h1 h2)) (fun hw=>((hS.blk b k g o h1 h2).wr hw).1),hS.inj,fun g hg=>Nat.lt_of_lt_of_le (hS.lt g hg) hsz,hS.mms.keep hk (fun _ _ h=>h) (fun g hg=>⟨grow_oldI (hS.mms.lt hg),fun h=>h⟩)⟩,⟨rfl,rfl,rfl,hsz,fun g hg _=>grow_oldI hg,hk.shape,fun _ h=>h,fun _ h => .inl h,fun _ _ h=>h,fun b h1 h2=>absurd h1 h2,fun _ h => .inl h,Nat.le_refl _⟩⟩
def intK (L:List Int):Blk:=⟨intsA L,3,.flat,true⟩
theorem intsA_at (L:List Int) (i:Nat) (n:Int) (h:L[i]? = some n):(intsA L)[i]? = some (intV n):=by
 unfold intsA
 rw [List.getElem?_map,h]
 rfl
theorem ints_hold {b g o:Nat} {L:List Int} (hS:SR Tryz.prog w I ρ m) (hb:m.at_ b=some (intK L)) (hbg:ρ b=some (g,o)):Holds (Value.int .i64) w g o L.toArray:=by
 have hB:=hS.blk b _ g o hb hbg
 obtain ⟨arr,fr,hh,hcells⟩:=hB.cells
 intro j hj
 have hj2:j < L.length:=by simpa using hj
 refine ⟨?_,hB.nostr rfl (by kernel_rfl) _⟩
 obtain ⟨u,q1,q2⟩:=VRs_at hcells (intsA_at L j L[j] (List.getElem?_eq_getElem hj2))
 simp only [intV,VR] at q2
 subst q2
 have e:L.toArray[j]! = L[j]:=by rw [getElem!_pos L.toArray j hj];simp
 rw [e,cell_of_row _ _ _ _ _ _ hh]
 exact q1
theorem ints_written {b g o : Nat} {L Z : List Int} (hS : SR Tryz.prog w I ρ m) (hb : m.at_ b = some (intK L)) (hbg : ρ b = some (g, o)) (hl : Z.length = L.length) (nd : Nat) :
   SR Tryz.prog (putRow (Value.int .i64) (Go.Sort.ahead w nd) g o Z.toArray) I ρ (m.put b (some (intK Z))) ∧ Step w I ρ m (putRow (Value.int .i64) (Go.Sort.ahead w nd) g o Z.toArray) I ρ (m.put b (some (intK Z))) := by
 have hH := ints_hold hS hb hbg
 have hB := hS.blk b _ g o hb hbg
 obtain ⟨arr, fr, hh, hcells⟩ := hB.cells
 rw [putRow_cells (Go.Sort.ahead w nd) g o L.toArray Z.toArray hH (by simp [hl])]
 have S1 : SR Tryz.prog (Go.Sort.ahead w nd) I ρ m := SR_heapI hS rfl
 have T1 : Step w I ρ m (Go.Sort.ahead w nd) I ρ m := ⟨rfl, rfl, rfl, Nat.le_refl _, fun _ _ _ => rfl, fun _ _ h => h, fun _ h => h, fun _ h => .inl h, fun _ _ h => h, fun b h1 h2 => absurd h1 h2, fun _ h => .inl h, Nat.le_refl _⟩
 have e : (Z.toArray.map (Value.int .i64)).toList = Z.map (Value.int .i64) := by simp
 rw [e]
 obtain ⟨S2, T2⟩ := SR_write (k' := intK Z) S1 hb rfl hbg (vs := Z.map (Value.int .i64)) (p := o) ⟨rfl, rfl, fun c hc => by
     obtain ⟨x, hx, rfl⟩ := List.mem_map.1 hc
     rfl⟩ (fun v hv => by
     obtain ⟨x, hx, rfl⟩ := List.mem_map.1 hv
     rfl) (fun arr0 fr0 e0 e1 arr' e2 e3 => by
     have e0' : w.heap[g]? = some (.cells arr0 3 fr0) := e0
     rw [hh] at e0'
     cases e0'
     simp only [intK, if_true] at hcells ⊢
     refine VRs_iff.2 fun j c hj => ?_
     unfold intsA at hj
     rw [List.getElem?_map, Option.map_eq_some_iff] at hj
     obtain ⟨x, hx, rfl⟩ := hj
     have hjl := (List.getElem?_eq_some_iff.1 hx).1
     obtain ⟨u, q1, _⟩ := VRs_at hcells (intsA_at L j L[j] (List.getElem?_eq_getElem (by omega)))
     have hja := (Array.getElem?_eq_some_iff.1 q1).1
     refine ⟨.int .i64 x, ?_, by simp only [intV, VR]⟩
     rw [e3, if_pos ⟨by omega, by simp; omega, by omega⟩, show o + j - o = j by omega, List.getElem?_map, hx]
     rfl)
 exact ⟨S2, T1.trans T2⟩
end
theorem compact_len (L:List Int):(Lib.compact L).length≤L.length:=by
 unfold Lib.compact Lib.compactUpTo
 rw [List.length_map]
 exact Nat.le_trans (List.length_filter_le _ _) (by simp)
theorem getA (L:List Int) (i:Nat) (h:i < L.length):L.toArray[i]! = L[i]:=by rw [getElem!_pos L.toArray i (by simpa using h)];simp
theorem mem_compact (L:List Int) (x:Int):x∈Lib.compact L↔x∈L:=by
 unfold Lib.compact Lib.compactUpTo
 constructor
 ·intro h
  obtain ⟨j,hj,rfl⟩:=List.mem_map.1 h
  have hl:=List.mem_range.1 (List.mem_filter.1 hj).1
  rw [getA L j hl]
  exact List.getElem_mem hl
 ·intro h
  obtain ⟨j,hj,rfl⟩:=List.mem_iff_getElem.1 h
  have main:∀ (j:Nat) (hj:j < L.length),∃ k,k≤j∧Lib.keeps L.toArray k=true∧L.toArray[k]! = L.toArray[j]! := by
   intro j
   induction j with
   | zero=>exact fun _=>⟨0,Nat.le_refl _,by simp [Lib.keeps],rfl⟩
   | succ j ih =>
    intro hj
    by_cases he:L.toArray[j+1]! = L.toArray[j]!
    ·obtain ⟨k,h1,h2,h3⟩:=ih (by omega)
     exact ⟨k,by omega,h2,by rw [h3,he]⟩
    ·exact ⟨j+1,Nat.le_refl _,Lib.keeps_pos (by simpa using he),rfl⟩
  obtain ⟨k,h1,h2,h3⟩:=main j hj
  exact List.mem_map.2 ⟨k,List.mem_filter.2 ⟨List.mem_range.2 (by omega),h2⟩,by rw [h3,getA L j hj]⟩
theorem compact_lt (L:List Int) (hs:L.Pairwise (·≤·)):(Lib.compact L).Pairwise (· < ·):=by
 unfold Lib.compact Lib.compactUpTo
 rw [List.pairwise_map]
 have h0:((List.range L.length).filter (Lib.keeps L.toArray)).Pairwise (· < ·):=List.Pairwise.filter _ List.pairwise_lt_range
 refine (List.pairwise_iff_forall_sublist.2 fun {i j} hsub => ?_)
 have hij:i < j:=List.pairwise_iff_forall_sublist.1 h0 hsub
 have hi:=hsub.subset (List.mem_cons_self)
 have hj:=hsub.subset (List.mem_cons_of_mem _ (List.mem_cons_self))
 have hjl:=List.mem_range.1 (List.mem_filter.1 hj).1
 have hk:=(List.mem_filter.1 hj).2
 have hne:L.toArray[j]! ≠ L.toArray[j - 1]! := by
  unfold Lib.keeps at hk
  rcases of_decide_eq_true hk with h | h
  ·omega
  ·exact h
 have hp:=List.pairwise_iff_getElem.1 hs
 rw [getA L j hjl,getA L (j - 1) (by omega)] at hne
 rw [getA L i (by omega),getA L j hjl]
 have h1:=hp (j - 1) j (by omega) hjl (by omega)
 rcases Nat.lt_or_ge i (j - 1) with h | h
 ·have h2:=hp i (j - 1) (by omega) (by omega) h
  omega
 ·obtain rfl:i=j - 1:=by omega
  omega
def srtI (L:List Int):List Int:=L.mergeSort fun x y=>decide (x≤y)
theorem srtI_mem (L:List Int) (x:Int):x∈srtI L↔x∈L:=(List.mergeSort_perm L _).mem_iff
theorem srtI_le (L:List Int):(srtI L).Pairwise (·≤·):=(List.pairwise_mergeSort (le:=fun x y:Int=>decide (x≤y)) (fun a b c h1 h2=>by simp at *;omega) (fun a b=>by simp;omega) L).imp fun h=>by simpa using h
theorem srtI_len (L:List Int):(srtI L).length=L.length:=List.length_mergeSort L
theorem sort_ints (m : Mem) (b c : Nat) (f : Bool) (L : List Int) (hb : m.at_ b = some (intK L)) (hlen : L.length ≤ 1000000000) :
   OSpec Tryz.prog 40 [.sl b 0 L.length c f] m (fun v m' => v = undefA ∧ m' = m.put b (some (intK (srtI L)))) := by
 refine ⟨by kernel_rfl, fun w I ρ vs hS hsz hv hfree => ?_⟩
 have hsz1 : vs.size = 1 := hsz
 obtain ⟨v0, hv0, h0⟩ := VRs_at hv (j := 0) rfl
 simp only [VR] at h0
 obtain ⟨g, o, cap, ty, n, s, hbg, rfl, ⟨hc1, hc2⟩, _, hsh, hsz3, hfit⟩ := h0
 have hvs : vs = #[.slice (some ⟨g, o + 0, none⟩) L.length cap] := by
   apply Array.ext (by simpa using hsz1)
   intro i h1 h2
   have : i = 0 := by simp at h2; omega
   subst this
   simp only [Array.getElem?_eq_getElem h1, Option.some.injEq] at hv0
   simpa using hv0
 obtain ⟨arr, fr, hh, _⟩ := (hS.blk b _ g o hb hbg).cells
 have hcon := Go.Proofs.Any.slices_Sort_int sortInts g o cap L w (ints_hold hS hb hbg) (heap_lt hh) (by omega)
 change Calls Tryz.prog 40 _ _ _ at hcon
 rw [hvs, Nat.add_zero]
 refine hcon.mono ?_
 rintro en w' ⟨rfl, nd, os, rfl⟩
 obtain ⟨S2, T2⟩ := ints_written hS hb hbg (Z := srtI L) (srtI_len L) nd
 obtain ⟨S3, T3⟩ := SR_growI S2 os
 exact ⟨.tuple #[], undefA, _, I, ρ, rfl, ⟨rfl, rfl⟩, by simp only [undefA, VR], S3, T2.trans T3, hfree⟩
theorem compact_ints (m : Mem) (b c : Nat) (f : Bool) (L : List Int) (hb : m.at_ b = some (intK L)) (hlen : L.length ≤ 1000000000) :
   OSpec Tryz.prog 41 [.sl b 0 L.length c f] m (fun v m' => v = .sl b 0 (Lib.compact L).length c f ∧ m' = m.put b (some (intK (Lib.compact L ++ List.replicate (L.length - (Lib.compact L).length) 0)))) := by
 refine ⟨by kernel_rfl, fun w I ρ vs hS hsz hv hfree => ?_⟩
 have hsz1 : vs.size = 1 := hsz
 obtain ⟨v0, hv0, h0⟩ := VRs_at hv (j := 0) rfl
 have h00 := h0
 simp only [VR] at h0
 obtain ⟨g, o, cap, ty, n, s, hbg, rfl, ⟨hc1, hc2⟩, hfu, hsh, hsz3, hfit⟩ := h0
 have hvs : vs = #[.slice (some ⟨g, o + 0, none⟩) L.length cap] := by
   apply Array.ext (by simpa using hsz1)
   intro i h1 h2
   have : i = 0 := by simp at h2; omega
   subst this
   simp only [Array.getElem?_eq_getElem h1, Option.some.injEq] at hv0
   simpa using hv0
 have hcl : (Lib.compact L).length ≤ L.length := compact_len L
 have hcon := Go.Proofs.Any.slices_Compact_int compactInts g o cap L w (ints_hold hS hb hbg) (by omega) (by omega)
 change Calls Tryz.prog 41 _ _ _ at hcon
 rw [hvs, Nat.add_zero]
 refine hcon.mono ?_
 rintro en w' ⟨rfl, nd, rfl⟩
 obtain ⟨S2, T2⟩ := ints_written hS hb hbg (Z := Lib.compact L ++ List.replicate (L.length - (Lib.compact L).length) 0) (by rw [List.length_append, List.length_replicate]; omega) nd
 refine ⟨_, _, _, I, ρ, rfl, ⟨rfl, rfl⟩, ?_, S2, T2, hfree⟩
 simp only [VR]
 refine ⟨g, o, cap, ty, n, s, hbg, by rw [Nat.add_zero], ⟨by omega, hc2⟩, hfu, ?_, hsz3, hfit⟩
 exact (T2.keeps hS).shape _ _ hsh
end Go.Proofs.YtgcicholalgbiaaGreat
namespace Go.Proofs.YtgcicholalgbiaaGreat
open Go Go.Tw Go.Proofs Go.Gf
theorem take3 {cells:List AV} {i:Nat} {a b c:AV} (h:cells[i]? = some a) (h':cells[i+1]? = some b) (h2:cells[i+2]? = some c):(cells.drop i).take 3=[a,b,c]∧i+3≤cells.length:=by
 obtain ⟨h1,e1⟩:=List.getElem?_eq_some_iff.1 h
 obtain ⟨h3,e3⟩:=List.getElem?_eq_some_iff.1 h'
 obtain ⟨h4,e4⟩:=List.getElem?_eq_some_iff.1 h2
 refine ⟨?_,by omega⟩
 rw [List.drop_eq_getElem_cons h1,List.drop_eq_getElem_cons h3,List.drop_eq_getElem_cons h4,e1,e3,e4]
 rfl
theorem strL_len (k r c w:Int) (L:List (List UInt8)) (row:Int):(strL k r c w L row).length=1+((objL k r c w L row).length+(objS k r c w L row).length):=by
 unfold strL
 rw [List.length_cons,datL_len,List.length_append]
 omega
def rowsI (l:List LiveI):List Int:=Lib.compact (srtI (l.map (·.1)))
def rowsT (l:List LiveI):AV := .tree (rowsI l).length l.length (intsA (rowsI l++List.replicate (l.length - (rowsI l).length) 0)) false
theorem rowsI_len (l:List LiveI):(rowsI l).length≤l.length:=by
 have:=compact_len (srtI (l.map (·.1)))
 rw [srtI_len,List.length_map] at this
 exact this
theorem rowsT_rd (l:List LiveI):RdSl (rowsT l) (rowsI l).length (intsA (rowsI l)++intsA (List.replicate (l.length - (rowsI l).length) 0)):=by
 refine ⟨.inr (.inr ⟨l.length,false, ?_,rowsI_len l⟩)⟩
 unfold rowsT intsA
 rw [List.map_append]
theorem rowsI_mem (l:List LiveI) (n:Int):n∈rowsI l↔∃ x∈l,x.1=n:=by
 unfold rowsI
 rw [mem_compact,srtI_mem,List.mem_map]
theorem rowsI_lt (l:List LiveI):(rowsI l).Pairwise (· < ·):=compact_lt _ (srtI_le _)
abbrev Ent:=ByteArray×Int
def entCells:List Ent→List AV
 | []=>[]
 | e::l=>strV e.1::intV e.2::entCells l
theorem ent_at:∀ {l:List Ent} {x:List AV} {i:Nat} {s:ByteArray} {r:Int},l[i]? = some (s,r)→(entCells l++x)[i*2]? = some (.val (.string s))∧(entCells l++x)[i*2+1]? = some (.val (.int .i64 r))∧((entCells l++x).drop (i*2)).take 2=[.val (.string s),.val (.int .i64 r)]∧i*2+2≤(entCells l++x).length
 | [],x,i,s,r,h=>by simp at h
 | e::l,x,0,s,r,h=>by
  simp at h
  subst h
  simp [entCells,intV]
 | e::l,x,i+1,s,r,h=>by
  have:=ent_at (l:=l) (x:=x) (i:=i) (by simpa using h)
  rw [show (i+1)*2=i*2+2 by omega]
  simpa [entCells] using this
def nameOk (s:ByteArray):Bool:=decide (1≤s.size∧s.size≤24)
def entOk (w:Int) (e:Ent):Bool:=nameOk e.1 && decide (0≤e.2∧e.2 < w)
def longN (l:List Ent):Nat:=(l.map fun e=>3+e.1.size).sum
theorem longN_take {l:List Ent} {i:Nat} {s:ByteArray} {r:Int} (h:l[i]? = some (s,r)):longN (l.take (i+1))=longN (l.take i)+(3+s.size):=by
 unfold longN
 rw [List.take_add_one,h]
 simp
theorem longN_le {l:List Ent} {i:Nat}:longN (l.take i)≤longN l:=by
 unfold longN
 conv=>rhs;rw [←List.take_append_drop i l]
 rw [List.map_append,List.sum_append]
 omega
theorem name_check (s:ByteArray) (hs:s.size≤1000000000000000):FSpec Tryz.prog 145 [strV s] ⟨intV (if nameOk s then 0 else 6),[]⟩:=by
 refine fspec_of_body follows Tryz.func145 (by unfold Tryz.f145;rfl) (by unfold Tryz.f145;simp) onceA (by unfold Tryz.f145;simp) (by kernel_rfl) ?_;unfold Tryz.f145
 simp only [↓pre,simprocAttr,parV,sx,tys145,onceA,postU];repeat' ((first | refine guard_dec (fun _ => ?_) (fun _ => ?_) | refine cond_dec (fun _ => ?_) (fun _ => ?_) | refine guard_ndec (fun _ => ?_) (fun _ => ?_) | refine cond_ndec (fun _ => ?_) (fun _ => ?_) | refine guard_split (fun _ => ?_) (fun _ => ?_) | refine cond_split (fun _ => ?_) (fun _ => ?_)) <;> simp only [↓pre,simprocAttr,parV,sx,tys145,onceA,postU, *])
 all_goals (first | (rw [if_neg (by unfold nameOk;simp;omega)];done) | (rw [if_pos (by unfold nameOk;simp;omega)];done))
theorem name_less (a b:ByteArray):FSpec Tryz.prog 114 [strV a,strV b] ⟨boolV (Op.bytesLess a.data.toList b.data.toList),[]⟩:=by
 refine fspec_of_body follows Tryz.func114 (by unfold Tryz.f114;rfl) (by unfold Tryz.f114;simp) onceA (by unfold Tryz.f114;simp) (by kernel_rfl) ?_;unfold Tryz.f114
 simp only [↓pre,simprocAttr,parV,sx,tys114,onceA,postU,boolV];repeat' ((first | refine guard_dec (fun _ => ?_) (fun _ => ?_) | refine cond_dec (fun _ => ?_) (fun _ => ?_) | refine guard_ndec (fun _ => ?_) (fun _ => ?_) | refine cond_ndec (fun _ => ?_) (fun _ => ?_) | refine guard_split (fun _ => ?_) (fun _ => ?_) | refine cond_split (fun _ => ?_) (fun _ => ?_)) <;> simp only [↓pre,simprocAttr,parV,sx,tys114,onceA,postU,boolV, *])
theorem dir_may (k r c w:Int) (s:ByteArray) (n:Int) (hs:s.size≤1000000000000000):FSpec Tryz.prog 113 [parV k r c w,.agg [strV s,intV n]] ⟨boolV (entOk w (s,n)),[]⟩:=by
 refine fspec_of_body follows Tryz.func113 (by unfold Tryz.f113;rfl) (by unfold Tryz.f113;simp) onceA (by unfold Tryz.f113;simp) (by kernel_rfl) ?_;unfold Tryz.f113
 cases h:nameOk s with
 | false=>simp only [↓pre,simprocAttr,parV,sx,tys113,onceA,postU,boolV,entOk,h,Bool.false_and,Bool.false_eq_true];repeat' ((first | refine guard_dec (fun _ => ?_) (fun _ => ?_) | refine cond_dec (fun _ => ?_) (fun _ => ?_) | refine guard_ndec (fun _ => ?_) (fun _ => ?_) | refine cond_ndec (fun _ => ?_) (fun _ => ?_) | refine guard_split (fun _ => ?_) (fun _ => ?_) | refine cond_split (fun _ => ?_) (fun _ => ?_) | refine call_plain (name_check _ hs) (by first | rfl | simp only [parV,plQ, *]) ?_ | refine call_pure (name_check _ hs) (by first | rfl | simp only [parV,plQ, *]) (by intro k;first | rfl | simp only [sq,sr, *]) ?_) <;> simp only [↓pre,simprocAttr,parV,sx,tys113,onceA,postU,boolV,entOk,h,Bool.false_and,Bool.false_eq_true, *])
 | true =>
  simp only [↓pre,simprocAttr,parV,sx,tys113,onceA,postU,boolV,entOk,h,Bool.true_and];repeat' ((first | refine guard_dec (fun _ => ?_) (fun _ => ?_) | refine cond_dec (fun _ => ?_) (fun _ => ?_) | refine guard_ndec (fun _ => ?_) (fun _ => ?_) | refine cond_ndec (fun _ => ?_) (fun _ => ?_) | refine guard_split (fun _ => ?_) (fun _ => ?_) | refine cond_split (fun _ => ?_) (fun _ => ?_) | refine call_plain (name_check _ hs) (by first | rfl | simp only [parV,plQ, *]) ?_ | refine call_pure (name_check _ hs) (by first | rfl | simp only [parV,plQ, *]) (by intro k;first | rfl | simp only [sq,sr, *]) ?_) <;> simp only [↓pre,simprocAttr,parV,sx,tys113,onceA,postU,boolV,entOk,h,Bool.true_and, *])
  all_goals refine bool_fin ?_
  all_goals simp
  all_goals omega
theorem dir_long (v:AV) (l:List Ent) (x:List AV) (hv:RdSl v l.length (entCells l++x)) (hl:longN l≤1000000000000) (hn:l.length≤1000000000000):FSpec Tryz.prog 115 [v] ⟨intV (longN l),[]⟩:=by
 refine fspec_of_body follows Tryz.func115 (by unfold Tryz.f115;rfl) (by unfold Tryz.f115;simp) onceA (by unfold Tryz.f115;simp) (by kernel_rfl) ?_;unfold Tryz.f115
 simp only [↓pre,simprocAttr,parV,sx,tys115,onceA,postU,hv.len',Option.isSome_some]
 rw [codeW_loop]
 refine loop_intro (fun n e m=>∃ i,n+i=l.length∧e 6=v∧e 7=intV (l.length:Nat)∧e 8=intV (i:Nat)∧e 3=intV (longN (l.take i):Nat)) l.length ⟨0,by omega, ?_⟩ ?_
 ·simp [Env.set,longN,entryE,intV]
 ·rintro n e m ⟨i,hi,e6,e7,e8,e3⟩
  simp only [↓pre,simprocAttr,parV,sx,tys115,onceA,postU,e6,e7,e8,e3]
  refine cond_dec (fun hlt => ?_) (fun hlt => ?_)
  ·obtain ⟨s,r,hsr⟩:∃ s r,l[i]? = some (s,r):=⟨_,_,List.getElem?_eq_getElem (by omega)⟩
   obtain ⟨a1,a2,a3,a4⟩:=ent_at (x:=x) hsr
   have hil:i < l.length:=by omega
   have b1:=longN_take hsr
   have b2:=longN_le (l:=l) (i:=i+1)
   have w1:=wrap_succ (n:=i) (by omega)
   have w2:IntKind.i64.wrap (3+(s.size:Int))=((3+s.size:Nat):Int):=by rw [←wrap_nat (n:=3+s.size) (by omega)];rfl
   have w3:IntKind.i64.wrap ((longN (l.take i):Int)+((3+s.size:Nat):Int))=(longN (l.take (i+1)):Int):=by rw [b1,←wrap_nat (n:=longN (l.take i)+(3+s.size)) (by omega)];rfl
   simp only [↓pre,simprocAttr,parV,sx,tys115,onceA,postU,e6,e7,e8,e3,hv.addr',Option.isSome_some,a1,a2,a3,a4,hil,w1,w2,w3,allocE,storeE,Nat.lt_irrefl]
   exact ⟨n - 1,by omega,i+1,by omega,rfl,rfl⟩
  ·have:l.take i=l:=List.take_of_length_le (by omega)
   simp only [↓pre,simprocAttr,parV,sx,tys115,onceA,postU,e6,e7,e8,e3,this]
def lessB (a b:ByteArray):Bool:=Op.bytesLess a.data.toList b.data.toList
def okAt (w:Int) (l:List Ent) (i:Nat):Bool:=match l[i]? with
 | some e=>entOk w e && (match i with | 0=>true | j+1=>match l[j]? with | some d=>lessB d.1 e.1 | none=>true)
 | none=>true
def entsOk (w:Int) (l:List Ent):Bool:=(List.range l.length).all (okAt w l)
theorem entsOk_of {w:Int} {l:List Ent}:entsOk w l=true↔∀ i,i < l.length→okAt w l i=true:=by
 unfold entsOk
 rw [List.all_eq_true]
 exact ⟨fun h i hi=>h i (List.mem_range.2 hi),fun h i hi=>h i (List.mem_range.1 hi)⟩
def chk (k r c w:Int) (l:List Ent):Int:=if mayB k r c w=true then (if entsOk w l=true then (if mI k c < (longN l:Int) then 3 else 0) else 220) else 2
theorem size_le {l:List Ent} {i:Nat} {s:ByteArray} {r:Int} (h:l[i]? = some (s,r)):s.size≤longN l:=by
 have:=longN_take h
 have:=longN_le (l:=l) (i:=i+1)
 omega
theorem name_less' (a b:ByteArray):FSpec Tryz.prog 114 [strV a,strV b] ⟨boolV (lessB a b),[]⟩:=name_less a b
theorem dir_Check (k r c w:Int) (v:AV) (l:List Ent) (x:List AV) (hv:RdSl v l.length (entCells l++x)) (hl:longN l≤1000000000000) (hn:l.length≤1000000000000):FSpec Tryz.prog 77 [parV k r c w,v] ⟨intV (chk k r c w l),[]⟩:=by
 refine fspec_of_body follows Tryz.func77 (by unfold Tryz.f77;rfl) (by unfold Tryz.f77;simp) onceA (by unfold Tryz.f77;simp) (by kernel_rfl) ?_;unfold Tryz.f77
 cases h:mayB k r c w with
 | false=>simp only [↓pre,simprocAttr,parV,sx,tys77,onceA,postU,chk,h,Bool.false_eq_true];repeat' ((first | refine guard_dec (fun _ => ?_) (fun _ => ?_) | refine cond_dec (fun _ => ?_) (fun _ => ?_) | refine guard_ndec (fun _ => ?_) (fun _ => ?_) | refine cond_ndec (fun _ => ?_) (fun _ => ?_) | refine guard_split (fun _ => ?_) (fun _ => ?_) | refine cond_split (fun _ => ?_) (fun _ => ?_) | refine call_plain (layout_Most _ _ _ _) (by first | rfl | simp only [parV,plQ, *]) ?_ | refine call_pure (layout_Most _ _ _ _) (by first | rfl | simp only [parV,plQ, *]) (by intro k;first | rfl | simp only [sq,sr, *]) ?_) <;> simp only [↓pre,simprocAttr,parV,sx,tys77,onceA,postU,chk,h,Bool.false_eq_true, *])
 | true =>
  have hp:=hv.plain
  simp only [↓pre,simprocAttr,parV,sx,tys77,onceA,postU,h,hv.len'];repeat' ((first | refine guard_dec (fun _ => ?_) (fun _ => ?_) | refine cond_dec (fun _ => ?_) (fun _ => ?_) | refine guard_ndec (fun _ => ?_) (fun _ => ?_) | refine cond_ndec (fun _ => ?_) (fun _ => ?_) | refine guard_split (fun _ => ?_) (fun _ => ?_) | refine cond_split (fun _ => ?_) (fun _ => ?_) | refine call_plain (layout_Most _ _ _ _) (by first | rfl | simp only [parV,plQ, *]) ?_ | refine call_pure (layout_Most _ _ _ _) (by first | rfl | simp only [parV,plQ, *]) (by intro k;first | rfl | simp only [sq,sr, *]) ?_) <;> simp only [↓pre,simprocAttr,parV,sx,tys77,onceA,postU,h,hv.len', *])
  rw [codeW_loop]
  refine loop_intro (fun n e m=>∃ i,n+i=l.length∧e 17=v∧e 1=v∧e 18=intV (l.length:Nat)∧e 19=intV (i:Nat)∧e 2 = .tptr 0 [intV k,intV r,intV c,intV w]∧e 5=intV (mI k c)∧∀ j,j < i→okAt w l j=true) l.length ⟨0,by omega, ?_⟩ ?_
  ·simp [Env.set,entryE,intV]
  ·rintro n e m ⟨i,hi,e17,e1,e18,e19,e2,e5,hok⟩
   replace hok:=Hid.mk hok
   simp only [↓pre,simprocAttr,parV,sx,tys77,onceA,postU,e17,e1,e18,e19,e2,e5]
   refine cond_dec (fun hlt => ?_) (fun hlt => ?_)
   ·have hil:i < l.length:=by omega
    obtain ⟨s,z,hsr⟩:∃ s z,l[i]? = some (s,z):=⟨_,_,List.getElem?_eq_getElem hil⟩
    obtain ⟨a1,a2,a3,a4⟩:=ent_at (x:=x) hsr
    have hsz:=size_le hsr
    have w1:=wrap_succ (n:=i) (by omega)
    have hbad:okAt w l i=false→chk k r c w l=220:=fun hb=>by
     have:¬ entsOk w l=true:=fun hc=>by rw [entsOk_of.1 hc i hil] at hb;cases hb
     simp [chk,h,this]
    cases hq:entOk w (s,z) with
    | false =>
     have hc:=hbad (by simp [okAt,hsr,hq])
     simp only [↓pre,simprocAttr,parV,sx,tys77,onceA,postU,e17,e1,e18,e19,e2,e5,hv.addr',a1,a2,a3,a4,hil,w1,allocE,storeE,boolV,hq,hc];repeat' ((first | refine guard_dec (fun _ => ?_) (fun _ => ?_) | refine cond_dec (fun _ => ?_) (fun _ => ?_) | refine guard_ndec (fun _ => ?_) (fun _ => ?_) | refine cond_ndec (fun _ => ?_) (fun _ => ?_) | refine guard_split (fun _ => ?_) (fun _ => ?_) | refine cond_split (fun _ => ?_) (fun _ => ?_) | refine call_plain (dir_may _ _ _ _ _ _ (by omega)) (by first | rfl | simp only [parV,plQ, *]) ?_ | refine call_pure (dir_may _ _ _ _ _ _ (by omega)) (by first | rfl | simp only [parV,plQ, *]) (by intro k;first | rfl | simp only [sq,sr, *]) ?_) <;> simp only [↓pre,simprocAttr,parV,sx,tys77,onceA,postU,e17,e1,e18,e19,e2,e5,hv.addr',a1,a2,a3,a4,hil,w1,allocE,storeE,boolV,hq,hc, *])
    | true =>
     rcases Nat.eq_zero_or_pos i with h0 | hpos
     ·have hk:okAt w l i=true:=by subst h0;simp [okAt,hsr,hq]
      have hz:¬ (0:Int) < (i:Nat):=by omega
      replace h0:=Hid.mk h0
      simp only [↓pre,simprocAttr,parV,sx,tys77,onceA,postU,e17,e1,e18,e19,e2,e5,hv.addr',a1,a2,a3,a4,hil,w1,hz,allocE,storeE,boolV,hq];repeat' ((first | refine guard_dec (fun _ => ?_) (fun _ => ?_) | refine cond_dec (fun _ => ?_) (fun _ => ?_) | refine guard_ndec (fun _ => ?_) (fun _ => ?_) | refine cond_ndec (fun _ => ?_) (fun _ => ?_) | refine guard_split (fun _ => ?_) (fun _ => ?_) | refine cond_split (fun _ => ?_) (fun _ => ?_) | refine call_plain (dir_may _ _ _ _ _ _ (by omega)) (by first | rfl | simp only [parV,plQ, *]) ?_ | refine call_pure (dir_may _ _ _ _ _ _ (by omega)) (by first | rfl | simp only [parV,plQ, *]) (by intro k;first | rfl | simp only [sq,sr, *]) ?_) <;> simp only [↓pre,simprocAttr,parV,sx,tys77,onceA,postU,e17,e1,e18,e19,e2,e5,hv.addr',a1,a2,a3,a4,hil,w1,hz,allocE,storeE,boolV,hq, *])
      exact ⟨n - 1,by omega,i+1,by omega,rfl,fun j hj=>by have:=h0.out;rw [show j=i by omega];exact hk⟩
     ·obtain ⟨i',hi'⟩:∃ i',i=i'+1:=⟨i - 1,by omega⟩
      obtain ⟨s',z',hsr'⟩:∃ s z,l[i']? = some (s,z):=⟨_,_,List.getElem?_eq_getElem (by omega)⟩
      obtain ⟨c1,c2,c3,c4⟩:=ent_at (x:=x) hsr'
      have hil':i' < l.length:=by omega
      have w2:IntKind.i64.wrap ((i:Int) - 1)=(i':Nat):=by rw [show (i:Int) - 1=(i':Nat) by omega];exact wrap_nat (by omega)
      have hp0:(0:Int) < (i:Nat):=by omega
      replace hi':=Hid.mk hi'
      cases hq2:lessB s' s with
      | false =>
       have hc:=hbad (by rw [hi'.out] at hsr ⊢;simp [okAt,hsr,hsr',hq2])
       simp only [↓pre,simprocAttr,parV,sx,tys77,onceA,postU,e17,e1,e18,e19,e2,e5,hv.addr',a1,a2,a3,a4,hil,w1,c1,c2,c3,c4,hil',w2,hp0,allocE,storeE,boolV,hq,hq2,hc];repeat' ((first | refine guard_dec (fun _ => ?_) (fun _ => ?_) | refine cond_dec (fun _ => ?_) (fun _ => ?_) | refine guard_ndec (fun _ => ?_) (fun _ => ?_) | refine cond_ndec (fun _ => ?_) (fun _ => ?_) | refine guard_split (fun _ => ?_) (fun _ => ?_) | refine cond_split (fun _ => ?_) (fun _ => ?_) | refine call_plain (dir_may _ _ _ _ _ _ (by omega)) (by first | rfl | simp only [parV,plQ, *]) ?_ | refine call_plain (name_less' _ _) (by first | rfl | simp only [parV,plQ, *]) ?_ | refine call_pure (dir_may _ _ _ _ _ _ (by omega)) (by first | rfl | simp only [parV,plQ, *]) (by intro k;first | rfl | simp only [sq,sr, *]) ?_ | refine call_pure (name_less' _ _) (by first | rfl | simp only [parV,plQ, *]) (by intro k;first | rfl | simp only [sq,sr, *]) ?_) <;> simp only [↓pre,simprocAttr,parV,sx,tys77,onceA,postU,e17,e1,e18,e19,e2,e5,hv.addr',a1,a2,a3,a4,hil,w1,c1,c2,c3,c4,hil',w2,hp0,allocE,storeE,boolV,hq,hq2,hc, *])
      | true =>
       have hk:okAt w l i=true:=by rw [hi'.out] at hsr ⊢;simp [okAt,hsr,hq,hsr',hq2]
       simp only [↓pre,simprocAttr,parV,sx,tys77,onceA,postU,e17,e1,e18,e19,e2,e5,hv.addr',a1,a2,a3,a4,hil,w1,c1,c2,c3,c4,hil',w2,hp0,allocE,storeE,boolV,hq,hq2];repeat' ((first | refine guard_dec (fun _ => ?_) (fun _ => ?_) | refine cond_dec (fun _ => ?_) (fun _ => ?_) | refine guard_ndec (fun _ => ?_) (fun _ => ?_) | refine cond_ndec (fun _ => ?_) (fun _ => ?_) | refine guard_split (fun _ => ?_) (fun _ => ?_) | refine cond_split (fun _ => ?_) (fun _ => ?_) | refine call_plain (dir_may _ _ _ _ _ _ (by omega)) (by first | rfl | simp only [parV,plQ, *]) ?_ | refine call_plain (name_less' _ _) (by first | rfl | simp only [parV,plQ, *]) ?_ | refine call_pure (dir_may _ _ _ _ _ _ (by omega)) (by first | rfl | simp only [parV,plQ, *]) (by intro k;first | rfl | simp only [sq,sr, *]) ?_ | refine call_pure (name_less' _ _) (by first | rfl | simp only [parV,plQ, *]) (by intro k;first | rfl | simp only [sq,sr, *]) ?_) <;> simp only [↓pre,simprocAttr,parV,sx,tys77,onceA,postU,e17,e1,e18,e19,e2,e5,hv.addr',a1,a2,a3,a4,hil,w1,c1,c2,c3,c4,hil',w2,hp0,allocE,storeE,boolV,hq,hq2, *])
       refine ⟨n - 1,by omega,i+1,by omega,rfl,fun j hj => ?_⟩
       by_cases hji:j=i
       ·subst hji;exact hk
       ·exact hok.out j (by omega)
   ·have hall:entsOk w l=true:=entsOk_of.2 fun j hj=>hok.out j (by omega)
    simp only [↓pre,simprocAttr,parV,sx,tys77,onceA,postU,e17,e1,e18,e19,e2,e5,chk,h,hall];repeat' ((first | refine guard_dec (fun _ => ?_) (fun _ => ?_) | refine cond_dec (fun _ => ?_) (fun _ => ?_) | refine guard_ndec (fun _ => ?_) (fun _ => ?_) | refine cond_ndec (fun _ => ?_) (fun _ => ?_) | refine guard_split (fun _ => ?_) (fun _ => ?_) | refine cond_split (fun _ => ?_) (fun _ => ?_) | refine call_plain (dir_long _ _ _ hv hl hn) (by first | rfl | simp only [parV,plQ, *]) ?_ | refine call_pure (dir_long _ _ _ hv hl hn) (by first | rfl | simp only [parV,plQ, *]) (by intro k;first | rfl | simp only [sq,sr, *]) ?_) <;> simp only [↓pre,simprocAttr,parV,sx,tys77,onceA,postU,e17,e1,e18,e19,e2,e5,chk,h,hall, *])
end Go.Proofs.YtgcicholalgbiaaGreat