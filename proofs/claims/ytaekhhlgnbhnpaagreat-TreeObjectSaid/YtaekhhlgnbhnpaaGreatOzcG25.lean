import Derived.Test.YtaekhhlgnbhnpaaGreatOzcG24
import Derived.Test.YtaekhhlgnbhnpaaGreatOzcG08
import Derived.Test.YtaekhhlgnbhnpaaGreatOzcG15
import Derived.Shelf.GgSortFunc.RowK
import Derived.Test.YtaekhhlgnbhnpaaGreatOzcG23
import Derived.Test.YtaekhhlgnbhnpaaGreatOzcG21
set_option linter.unusedVariables false
set_option linter.unusedSimpArgs false
set_option maxRecDepth 10000
namespace Go.Proofs.YtaekhhlgnbhnpaaGreat
open Go Go.Tw Go.Proofs Go.Sort
theorem av3 (off:Nat) (d:Array Int) (c:Array Value):putCells (Value.int .i64) off d c=putCells id off (d.map (Value.int .i64)) c:=by
 unfold putCells
 apply Array.ext (by simp)
 intro i h1 h2
 simp only [Array.getElem_mapIdx,Array.size_map]
 split
 ·rename_i h
  have h3:i - off < d.size:=by omega
  have h4:i - off < (d.map (Value.int .i64)).size:=by simpa using h3
  rw [getElem!_pos d (i - off) h3,getElem!_pos (d.map (Value.int .i64)) (i - off) h4,Array.getElem_map]
  rfl
 ·rfl
theorem aoB (w:World) (g o:Nat) (d:Array Int):putRow (Value.int .i64) w g o d=putRow id w g o (d.map (Value.int .i64)):=by
 unfold putRow
 rw [show putCells (Value.int .i64) o d=putCells id o (d.map (Value.int .i64)) from funext (av3 o d)]
theorem av5 (w:World) (g o:Nat) (d0 d:Array Int) (hH:Holds (Value.int .i64) w g o d0) (hs:d.size=d0.size):putRow (Value.int .i64) w g o d=w.setCells g o (d.map (Value.int .i64)).toList:=by
 have hself:putRow id w g o (d0.map (Value.int .i64))=w:=by rw [←aoB];exact putRow_self _ w g o d0 hH
 have hsc:=setCells_putRow w g o (d.map (Value.int .i64)).toList 0 (d0.map (Value.int .i64)) (by simp [hs])
 rw [hself,Nat.add_zero] at hsc
 rw [hsc,aoB]
 congr 1
 refine Go.Sort.ext_get! (by simp [hs]) fun t ht => ?_
 have ht1:t < d.size:=by simpa using ht
 have ht2:t < (d0.map (Value.int .i64)).size:=by simp;omega
 rw [Go.Sort.get_setMany _ _ _ t ht2,if_pos ⟨Nat.zero_le _,by simpa using ht1⟩,Nat.sub_zero]
 simp [ht1]
section
variable {P:Program} {w:World} {I:Nat→Prop} {ρ:cK} {m:aF}
theorem av6 (hS:SR P w I ρ m) {w':World} (h:w'.heap=w.heap):SR P w' I ρ m:=by
 have hk:gT w w' I I:=⟨fun _ h=>h,fun g _=>by rw [h],fun g x hx=>by unfold World.shape? at *;rw [h];exact hx⟩
 exact ⟨fun b k g o h1 h2=>pQ hk (fun _ _ h=>h) (hS.blk b k g o h1 h2) (by rw [h]) (fun hw=>((hS.blk b k g o h1 h2).wr hw).1),hS.inj,fun g hg=>by rw [h];exact hS.lt g hg,hS.mms.keep hk (fun _ _ h=>h) (fun g _=>⟨by rw [h],fun h=>h⟩)⟩
theorem ac6 {w:World} {os:Array Obj} {g:Nat} (hg:g < w.heap.size):(grow w os).heap[g]? = w.heap[g]? := by
 show (w.heap++os)[g]? = _
 rw [Array.getElem?_append_left hg]
theorem av7 (hS:SR P w I ρ m) (os:Array Obj):SR P (grow w os) I ρ m∧cP w I ρ m (grow w os) I ρ m:=by
 have hk:gT w (grow w os) I I:=⟨fun _ h=>h,fun g hg=>ac6 (hS.lt g hg),fun g x hx=>by rw [uB (ac6 (aar hx))];exact hx⟩
 have hsz:w.heap.size≤(grow w os).heap.size:=by show _≤(w.heap++os).size;simp
 refine ⟨⟨fun b k g o h1 h2=>pQ hk (fun _ _ h=>h) (hS.blk b k g o h1 h2) (ac6 (hS.ltb h1 h2)) (fun hw=>((hS.blk b k g o h1 h2).wr hw).1),hS.inj,fun g hg=>Nat.lt_of_lt_of_le (hS.lt g hg) hsz,hS.mms.keep hk (fun _ _ h=>h) (fun g hg=>⟨ac6 (hS.mms.lt hg),fun h=>h⟩)⟩,⟨rfl,rfl,rfl,hsz,fun g hg _=>ac6 hg,hk.shape,fun _ h=>h,fun _ h => .inl h,fun _ _ h=>h,fun b h1 h2=>absurd h1 h2,fun _ h => .inl h,Nat.le_refl _⟩⟩
def sY (L:List Int):eP:=⟨cC L,3,.flat,true⟩
theorem aoC (L:List Int) (i:Nat) (n:Int) (h:L[i]? = some n):(cC L)[i]? = some (aD n):=by
 unfold cC
 rw [List.getElem?_map,h]
 rfl
theorem ahF {b g o:Nat} {L:List Int} (hS:SR Tryz.prog w I ρ m) (hb:m.at_ b=some (sY L)) (hbg:ρ b=some (g,o)):Holds (Value.int .i64) w g o L.toArray:=by
 have hB:=hS.blk b _ g o hb hbg
 obtain ⟨arr,fr,hh,hcells⟩:=hB.cells
 intro j hj
 have hj2:j < L.length:=by simpa using hj
 refine ⟨?_,hB.nostr rfl (by kernel_rfl) _⟩
 obtain ⟨u,q1,q2⟩:=fY hcells (aoC L j L[j] (List.getElem?_eq_getElem hj2))
 simp only [aD,VR] at q2
 subst q2
 have e:L.toArray[j]! = L[j]:=by rw [getElem!_pos L.toArray j hj];simp
 rw [e,cell_of_row _ _ _ _ _ _ hh]
 exact q1
theorem aoD {b g o : Nat} {L Z : List Int} (hS : SR Tryz.prog w I ρ m) (hb : m.at_ b = some (sY L)) (hbg : ρ b = some (g, o)) (hl : Z.length = L.length) (nd : Nat) :
   SR Tryz.prog (putRow (Value.int .i64) (Go.Sort.ahead w nd) g o Z.toArray) I ρ (m.put b (some (sY Z))) ∧ cP w I ρ m (putRow (Value.int .i64) (Go.Sort.ahead w nd) g o Z.toArray) I ρ (m.put b (some (sY Z))) := by
 have hH := ahF hS hb hbg
 have hB := hS.blk b _ g o hb hbg
 obtain ⟨arr, fr, hh, hcells⟩ := hB.cells
 rw [av5 (Go.Sort.ahead w nd) g o L.toArray Z.toArray hH (by simp [hl])]
 have S1 : SR Tryz.prog (Go.Sort.ahead w nd) I ρ m := av6 hS rfl
 have T1 : cP w I ρ m (Go.Sort.ahead w nd) I ρ m := ⟨rfl, rfl, rfl, Nat.le_refl _, fun _ _ _ => rfl, fun _ _ h => h, fun _ h => h, fun _ h => .inl h, fun _ _ h => h, fun b h1 h2 => absurd h1 h2, fun _ h => .inl h, Nat.le_refl _⟩
 have e : (Z.toArray.map (Value.int .i64)).toList = Z.map (Value.int .i64) := by simp
 rw [e]
 obtain ⟨S2, T2⟩ := wV (k' := sY Z) S1 hb rfl hbg (vs := Z.map (Value.int .i64)) (p := o) ⟨rfl, rfl, fun c hc => by
     obtain ⟨x, hx, rfl⟩ := List.mem_map.1 hc
     rfl⟩ (fun v hv => by
     obtain ⟨x, hx, rfl⟩ := List.mem_map.1 hv
     rfl) (fun arr0 fr0 e0 e1 arr' e2 e3 => by
     have e0' : w.heap[g]? = some (.cells arr0 3 fr0) := e0
     rw [hh] at e0'
     cases e0'
     simp only [sY, if_true] at hcells ⊢
     refine j2.2 fun j c hj => ?_
     unfold cC at hj
     rw [List.getElem?_map, Option.map_eq_some_iff] at hj
     obtain ⟨x, hx, rfl⟩ := hj
     have hjl := (List.getElem?_eq_some_iff.1 hx).1
     obtain ⟨u, q1, _⟩ := fY hcells (aoC L j L[j] (List.getElem?_eq_getElem (by omega)))
     have hja := (Array.getElem?_eq_some_iff.1 q1).1
     refine ⟨.int .i64 x, ?_, by simp only [aD, VR]⟩
     rw [e3, if_pos ⟨by omega, by simp; omega, by omega⟩, show o + j - o = j by omega, List.getElem?_map, hx]
     rfl)
 exact ⟨S2, T1.trans T2⟩
end
theorem aoE (L:List Int):(Lib.compact L).length≤L.length:=by
 unfold Lib.compact Lib.compactUpTo
 rw [List.length_map]
 exact Nat.le_trans (List.length_filter_le _ _) (by simp)
theorem abM (L:List Int) (i:Nat) (h:i < L.length):L.toArray[i]! = L[i]:=by rw [getElem!_pos L.toArray i (by simpa using h)];simp
theorem av8 (L:List Int) (x:Int):x∈Lib.compact L↔x∈L:=by
 unfold Lib.compact Lib.compactUpTo
 constructor
 ·intro h
  obtain ⟨j,hj,rfl⟩:=List.mem_map.1 h
  have hl:=List.mem_range.1 (List.mem_filter.1 hj).1
  rw [abM L j hl]
  exact List.getElem_mem hl
 ·intro h
  obtain ⟨j,hj,rfl⟩:=List.mem_iff_getElem.1 h
  have main:∀ (j:Nat) (hj:j < L.length),∃ k,k≤j∧Lib.keeps L.toArray k=true∧L.toArray[k]! = L.toArray[j]! := by
   intro j
   induction j with
   | zero=>exact fun _=>⟨0,Nat.le_refl _,by simp [Lib.keeps],rfl⟩
   | succ j ih =>
    intro hj
    by_cases he:L.toArray[j+1]! = L.toArray[j]!
    ·obtain ⟨k,h1,h2,h3⟩:=ih (by omega)
     exact ⟨k,by omega,h2,by rw [h3,he]⟩
    ·exact ⟨j+1,Nat.le_refl _,Lib.keeps_pos (by simpa using he),rfl⟩
  obtain ⟨k,h1,h2,h3⟩:=main j hj
  exact List.mem_map.2 ⟨k,List.mem_filter.2 ⟨List.mem_range.2 (by omega),h2⟩,by rw [h3,abM L j hj]⟩
theorem av9 (L:List Int) (hs:L.Pairwise (·≤·)):(Lib.compact L).Pairwise (· < ·):=by
 unfold Lib.compact Lib.compactUpTo
 rw [List.pairwise_map]
 have h0:((List.range L.length).filter (Lib.keeps L.toArray)).Pairwise (· < ·):=List.Pairwise.filter _ List.pairwise_lt_range
 refine (List.pairwise_iff_forall_sublist.2 fun {i j} hsub => ?_)
 have hij:i < j:=List.pairwise_iff_forall_sublist.1 h0 hsub
 have hi:=hsub.subset (List.mem_cons_self)
 have hj:=hsub.subset (List.mem_cons_of_mem _ (List.mem_cons_self))
 have hjl:=List.mem_range.1 (List.mem_filter.1 hj).1
 have hk:=(List.mem_filter.1 hj).2
 have hne:L.toArray[j]! ≠ L.toArray[j - 1]! := by
  unfold Lib.keeps at hk
  rcases of_decide_eq_true hk with h | h
  ·omega
  ·exact h
 have hp:=List.pairwise_iff_getElem.1 hs
 rw [abM L j hjl,abM L (j - 1) (by omega)] at hne
 rw [abM L i (by omega),abM L j hjl]
 have h1:=hp (j - 1) j (by omega) hjl (by omega)
 rcases Nat.lt_or_ge i (j - 1) with h | h
 ·have h2:=hp i (j - 1) (by omega) (by omega) h
  omega
 ·obtain rfl:i=j - 1:=by omega
  omega
def wQ (L:List Int):List Int:=L.mergeSort fun x y=>decide (x≤y)
theorem awa (L:List Int) (x:Int):x∈wQ L↔x∈L:=(List.mergeSort_perm L _).mem_iff
theorem awb (L:List Int):(wQ L).Pairwise (·≤·):=(List.pairwise_mergeSort (le:=fun x y:Int=>decide (x≤y)) (fun a b c h1 h2=>by simp at *;omega) (fun a b=>by simp;omega) L).imp fun h=>by simpa using h
theorem ae7 (L:List Int):(wQ L).length=L.length:=List.length_mergeSort L
theorem awc (m : aF) (b c : Nat) (f : Bool) (L : List Int) (hb : m.at_ b = some (sY L)) (hlen : L.length ≤ 1000000000) :
   fA Tryz.prog 135 [.sl b 0 L.length c f] m (fun v m' => v = eE ∧ m' = m.put b (some (sY (wQ L)))) := by
 refine ⟨by kernel_rfl, fun w I ρ vs hS hsz hv hfree => ?_⟩
 have hsz1 : vs.size = 1 := hsz
 obtain ⟨v0, hv0, h0⟩ := fY hv (j := 0) rfl
 simp only [VR] at h0
 obtain ⟨g, o, cap, ty, n, s, hbg, rfl, ⟨hc1, hc2⟩, _, hsh, hsz3, hfit⟩ := h0
 have hvs : vs = #[.slice (some ⟨g, o + 0, none⟩) L.length cap] := by
   apply Array.ext (by simpa using hsz1)
   intro i h1 h2
   have : i = 0 := by simp at h2; omega
   subst this
   simp only [Array.getElem?_eq_getElem h1, Option.some.injEq] at hv0
   simpa using hv0
 obtain ⟨arr, fr, hh, _⟩ := (hS.blk b _ g o hb hbg).cells
 have hcon := Go.Proofs.Any.slices_Sort_int avZ g o cap L w (ahF hS hb hbg) (vC hh) (by omega)
 change Calls Tryz.prog 135 _ _ _ at hcon
 rw [hvs, Nat.add_zero]
 refine hcon.mono ?_
 rintro en w' ⟨rfl, nd, os, rfl⟩
 obtain ⟨S2, T2⟩ := aoD hS hb hbg (Z := wQ L) (ae7 L) nd
 obtain ⟨S3, T3⟩ := av7 S2 os
 exact ⟨.tuple #[], eE, _, I, ρ, rfl, ⟨rfl, rfl⟩, by simp only [eE, VR], S3, T2.trans T3, hfree⟩
theorem awd (m : aF) (b c : Nat) (f : Bool) (L : List Int) (hb : m.at_ b = some (sY L)) (hlen : L.length ≤ 1000000000) :
   fA Tryz.prog 136 [.sl b 0 L.length c f] m (fun v m' => v = .sl b 0 (Lib.compact L).length c f ∧ m' = m.put b (some (sY (Lib.compact L ++ List.replicate (L.length - (Lib.compact L).length) 0)))) := by
 refine ⟨by kernel_rfl, fun w I ρ vs hS hsz hv hfree => ?_⟩
 have hsz1 : vs.size = 1 := hsz
 obtain ⟨v0, hv0, h0⟩ := fY hv (j := 0) rfl
 have h00 := h0
 simp only [VR] at h0
 obtain ⟨g, o, cap, ty, n, s, hbg, rfl, ⟨hc1, hc2⟩, hfu, hsh, hsz3, hfit⟩ := h0
 have hvs : vs = #[.slice (some ⟨g, o + 0, none⟩) L.length cap] := by
   apply Array.ext (by simpa using hsz1)
   intro i h1 h2
   have : i = 0 := by simp at h2; omega
   subst this
   simp only [Array.getElem?_eq_getElem h1, Option.some.injEq] at hv0
   simpa using hv0
 have hcl : (Lib.compact L).length ≤ L.length := aoE L
 have hcon := Go.Proofs.Any.slices_Compact_int av1 g o cap L w (ahF hS hb hbg) (by omega) (by omega)
 change Calls Tryz.prog 136 _ _ _ at hcon
 rw [hvs, Nat.add_zero]
 refine hcon.mono ?_
 rintro en w' ⟨rfl, nd, rfl⟩
 obtain ⟨S2, T2⟩ := aoD hS hb hbg (Z := Lib.compact L ++ List.replicate (L.length - (Lib.compact L).length) 0) (by rw [List.length_append, List.length_replicate]; omega) nd
 refine ⟨_, _, _, I, ρ, rfl, ⟨rfl, rfl⟩, ?_, S2, T2, hfree⟩
 simp only [VR]
 refine ⟨g, o, cap, ty, n, s, hbg, by rw [Nat.add_zero], ⟨by omega, hc2⟩, hfu, ?_, hsz3, hfit⟩
 exact (T2.keeps hS).shape _ _ hsh
end Go.Proofs.YtaekhhlgnbhnpaaGreat
namespace Go.Proofs.YtaekhhlgnbhnpaaGreat
open Go Go.Tw Go.Proofs Go.Gf
theorem aoF {cells:List AV} {i:Nat} {a b c:AV} (h:cells[i]? = some a) (h':cells[i+1]? = some b) (h2:cells[i+2]? = some c):(cells.drop i).take 3=[a,b,c]∧i+3≤cells.length:=by
 obtain ⟨h1,e1⟩:=List.getElem?_eq_some_iff.1 h
 obtain ⟨h3,e3⟩:=List.getElem?_eq_some_iff.1 h'
 obtain ⟨h4,e4⟩:=List.getElem?_eq_some_iff.1 h2
 refine ⟨?_,by omega⟩
 rw [List.drop_eq_getElem_cons h1,List.drop_eq_getElem_cons h3,List.drop_eq_getElem_cons h4,e1,e3,e4]
 rfl
theorem ahG (k r c w:Int) (L:List (List UInt8)) (row:Int):(jF k r c w L row).length=1+((g9 k r c w L row).length+(hU k r c w L row).length):=by
 unfold jF
 rw [List.length_cons,ae6,List.length_append]
 omega
def lY (l:List gO):List Int:=Lib.compact (wQ (l.map (·.1)))
def ahH (l:List gO):AV := .tree (lY l).length l.length (cC (lY l++List.replicate (l.length - (lY l).length) 0)) false
theorem aoG (l:List gO):(lY l).length≤l.length:=by
 have:=aoE (wQ (l.map (·.1)))
 rw [ae7,List.length_map] at this
 exact this
theorem awe (l:List gO):bC (ahH l) (lY l).length (cC (lY l)++cC (List.replicate (l.length - (lY l).length) 0)):=by
 refine ⟨.inr (.inr ⟨l.length,false, ?_,aoG l⟩)⟩
 unfold ahH cC
 rw [List.map_append]
theorem awf (l:List gO) (n:Int):n∈lY l↔∃ x∈l,x.1=n:=by
 unfold lY
 rw [av8,awa,List.mem_map]
theorem awg (l:List gO):(lY l).Pairwise (· < ·):=av9 _ (awb _)
theorem awh (k r c w row:Int) (v:AV) (L:List (List UInt8)) (cells:List AV) (hv:gI v L cells) (hE:gM k r c w L row=0):aX Tryz.prog 61 [d5 k r c w v,aD row] ⟨.tup [ahH (jF k r c w L row),aD 0],[]⟩:=by
 refine eA ?_
 have hp:=hv.rd.plain
 have hf:=cM hv.rd
 have ho:=b6 hv.rd
 have hst:=ahE k r c w row v L cells hv
 unfold aaj at hst
 unfold d5 at hst ⊢
 rw [if_pos hE] at hst
 have hlen:(jF k r c w L row).length≤100000:=by
  have h1:=abL hE
  obtain ⟨_,_,_,_,hSl,_,_⟩:=yD hE
  rw [ahG]
  omega
 have hpos:0 < (jF k r c w L row).length:=by rw [ahG];omega
 generalize jF k r c w L row=sl at *
 have hTr:=ac5 sl
 generalize sX sl=TV at *
 have hats:=fun (i:Nat) (x:gO) (hi:sl[i]? = some x)=>ae5 sl i x hi
 have hbl:∀ m (a:Int),eY Tryz.prog m 41 1 [(0,.val (.int .i64 a))]=some ⟨.tree 1 1 [.val (.int .i64 a)] true,m,none⟩:=fun m a=>tI (el:=3) (sz:=1) (z:=[.val (.int .i64 0)]) (by kernel_rfl) (by kernel_rfl) (by kernel_rfl) rfl rfl (by decide)
 have hsr:∀ m (a:Int),eZ Tryz.prog 3 1 m (.tree 1 1 [.val (.int .i64 a)] true)=some ([.val (.int .i64 a)],1):=fun m a=>uD (by simp)
 have s2:=cQ hTr
 simp only [aD] at hst
 replace hE:=aB.mk hE
 replace hTr:=aB.mk hTr
 replace hsr:=aB.mk hsr
 replace hats:=aB.mk hats
 refine bZ follows Tryz.func61 (by unfold Tryz.f61;rfl) (by unfold Tryz.f61;simp) aE (by unfold Tryz.f61;simp) (by kernel_rfl) ?_;unfold Tryz.f61
 simp only [↓pre,simprocAttr,aA,sx,vS,aE,aC,hf,ho,s2,aJ,aK,aG,aH,sr]
 refine aM (hst) (by simp only [aA,aV, *]) ?_;simp only [↓pre,simprocAttr,aA,sx,vS,aE,aC,hf,ho,s2,aJ,aK,aG,aH,hTr.out.len',sr]
 rw [b9]
 refine cA (fun q e m=>∃ i,q+i=sl.length∧e 20=TV∧e 21=aD (sl.length:Nat)∧e 22=aD (i:Nat)∧aB (cY m 3 1 (e 8) i (cC ((sl.take i).map (·.1))))) sl.length ⟨0,by omega,rfl,rfl,rfl,⟨fB⟩⟩ ?_
 rintro q e m ⟨i,hq,e20,e21,e22,hJ⟩
 replace hq:=aB.mk hq
 generalize hv8:e 8=v8 at *
 by_cases hlt:i < sl.length
 ·have hlt':((i:Nat):Int) < ((sl.length:Nat):Int):=by omega
  have wi:=cI (n:=i) (by omega)
  obtain ⟨x,hx⟩:∃ x,sl[i]? = some x:=⟨_,List.getElem?_eq_getElem hlt⟩
  obtain ⟨ha,hb,hc3⟩:=hats.out i x hx
  obtain ⟨ht,htl⟩:=aoF ha hb hc3
  have hcell:cC ((sl.take (i+1)).map (·.1))=cC ((sl.take i).map (·.1))++[.val (.int .i64 x.1)]:=by
   rw [List.take_add_one,hx]
   simp [cC,aD]
  replace hx:=aB.mk hx
  replace hcell:=aB.mk hcell
  simp only [↓pre,simprocAttr,aA,sx,vS,aE,aC,hf,ho,s2,aJ,aK,aG,aH,hv8,e20,e21,e22,hlt',hTr.out.addr',hlt,ht,htl,hbl,sr]
  have hstep:∀ (m2:aF) (K:bY→Prop),m.next≤m2.next→(∀ j kk,m.at_ j=some kk→j < m.next→m2.at_ j=some kk)→(∀ lv' m',cY m' 3 1 lv' (i+1) (cC ((sl.take (i+1)).map (·.1)))→K ⟨lv',m',none⟩)→eG (dW Tryz.prog 3 m2 v8 (.tree 1 1 [.val (.int .i64 x.1)] true)) K:=by
   intro m2 K hn hk hK
   have hown:=hJ.out
   have ho2:cY m2 3 1 v8 i (cC ((sl.take i).map (·.1))):=hown.keep hn fun j kk hj hk2=>by
    rcases hown.form with ⟨h,_⟩ | ⟨b,h,_,hb2,_⟩
    ·rw [h] at hj;simp [cF,aO] at hj
    ·rw [h] at hj
     simp only [cF,Option.some.injEq] at hj
     exact hk j kk hk2 (by omega)
   refine oT (kd := .flat) (sz:=1) (y:=8) (zl:=[.int .i64 0]) (by kernel_rfl) ho2 (by kernel_rfl) (by kernel_rfl) (by kernel_rfl) rfl (hsr.out m2 _) rfl (by omega) (by omega) ?_
   intro lv' m' ho' hn'
   rw [←hcell.out] at ho'
   exact hK _ _ ho'
  refine hstep _ _ (by simp only [aZ,aW];omega) (fun j kk hj hjl=>by rw [aG,if_neg (by omega),aH,if_neg (by omega)];exact hj) ?_
  intro lv' m' ho'
  replace ho':=aB.mk ho'
  clear hstep
  simp only [↓pre,simprocAttr,aA,sx,vS,aE,aC,hf,ho,s2,aJ,aK,aG,aH,hv8,e20,e21,e22,wi,sr]
  exact ⟨q - 1,by have:=hq.out;omega,i+1,by have:=hq.out;omega,rfl,ho'⟩
 ·have hlt':¬ ((i:Nat):Int) < ((sl.length:Nat):Int):=by omega
  have hi:i=sl.length:=by have:=hq.out;omega
  have hown:=hJ.out
  rw [hi,List.take_length] at hown
  obtain ⟨b,rfl,hbm,hbl2,_⟩:∃ b,v8 = .sl b 0 sl.length sl.length false∧m.at_ b=some (sY (sl.map (·.1)))∧b < m.next∧0 < sl.length:=by
   rcases hown.form with ⟨_,h,_⟩ | h
   ·omega
   ·exact h
  have hso:=awc m b sl.length false (sl.map (·.1)) hbm (by rw [List.length_map];omega)
  rw [List.length_map] at hso
  have hso2:=awd (m.put b (some (sY (wQ (sl.map (·.1)))))) b sl.length false (wQ (sl.map (·.1))) (by rw [aG,if_pos rfl]) (by rw [ae7,List.length_map];omega)
  rw [ae7,List.length_map] at hso2
  replace hown:=aB.mk hown
  simp only [↓pre,simprocAttr,aA,sx,vS,aE,aC,hf,ho,s2,aJ,aK,aG,aH,hv8,e20,e21,e22,hlt',sr]
  refine .inr (.inr (.inl ⟨_,_,hso, ?_⟩))
  simp only [↓pre,simprocAttr,aA,sx,vS,aE,aC,hf,ho,s2,aJ,aK,aG,aH,hv8,sr]
  refine .inr (.inr (.inl ⟨_,_,hso2, ?_⟩))
  simp only [↓pre,simprocAttr,aA,sx,vS,aE,aC,hf,ho,s2,aJ,aK,aG,aH,hv8,sr]
  exact ⟨0,by rw [j6,dY,rU (by rw [aG,if_pos rfl];rfl),Option.bind_some,dY,fZ,i7];rfl⟩

theorem aoH (i j:Nat) (a b:Int):dV Tryz.prog .neq 67 (.tmp i) (.tmp j) (.agg [.val (.int .i64 a),.val (.int .i64 b)]) (.agg [.val (.int .i64 a),.val (.int .i64 b)])=some (.val (.bool false)):=by
 have h:tJ Tryz.prog #[.int .i64 a,.int .i64 b] #[.int .i64 a,.int .i64 b] (xF Tryz.prog 67)=if a=a then (if b=b then some true else some false) else some false:=by kernel_rfl
 rw [if_pos rfl,if_pos rfl] at h
 exact (agc (a:=[.val (.int .i64 a),.val (.int .i64 b)]) (b:=[.val (.int .i64 a),.val (.int .i64 b)]) (u:=[.int .i64 a,.int .i64 b]) (v:=[.int .i64 a,.int .i64 b]) rfl rfl (by kernel_rfl) (by kernel_rfl) (by kernel_rfl) h).2
end Go.Proofs.YtaekhhlgnbhnpaaGreat