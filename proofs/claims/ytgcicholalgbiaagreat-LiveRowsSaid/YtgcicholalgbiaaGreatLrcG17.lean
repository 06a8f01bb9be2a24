import Derived.Test.YtgcicholalgbiaaGreatLrcG15
import Derived.Shelf.SlSortCmp.WholeK
import Derived.Shelf.SlicesG.Cmp
import Derived.Test.YtgcicholalgbiaaGreatLrcG16
set_option linter.unusedVariables false
set_option linter.unusedSimpArgs false
set_option maxRecDepth 10000
namespace Go.Proofs.YtgcicholalgbiaaGreat
open Go Go.Proofs Go.Shelf Go.RowKit Go.Lib Go.Sort
def sortTally_ren:Go.Shelf.Ren:=⟨fun | 6=>131 | 15=>67 | 14=>160 | 28=>104 | 29=>105 | 20=>175 | 21=>176 | 22=>177 | 23=>178 | 24=>179 | 25=>180 | 26=>181 | 27=>182 | 46=>192 | 47=>136 | 48=>137 | 49=>193 | 50=>194 | 57=>205 | n=>n,fun | 22=>142 | 24=>146 | 25=>197 | 3=>3 | 39=>117 | 0=>0 | 53=>160 | 55=>162 | 4=>4 | 46=>152 | 45=>151 | 50=>157 | 5=>5 | 9=>9 | 66=>199 | 70=>203 | 76=>223 | 77=>224 | n=>n,fun | n=>n⟩
theorem sortTally:Go.Proofs.SlLaysF0.n6 Tryz.prog sortTally_ren:={
 mixed:=by kernel_rfl
 f6:=⟨Tryz.f131.name,by decide,Tryz.func131.trans (congrArg some (by kernel_rfl))⟩
 f14:=⟨Tryz.f160.name,by decide,Tryz.func160.trans (congrArg some (by kernel_rfl))⟩
 f15:=Tryz.func67.trans (congrArg some (by kernel_rfl))
 f20:=⟨Tryz.f175.name,by decide,Tryz.func175.trans (congrArg some (by kernel_rfl))⟩
 f21:=⟨Tryz.f176.name,by decide,Tryz.func176.trans (congrArg some (by kernel_rfl))⟩
 f22:=⟨Tryz.f177.name,by decide,Tryz.func177.trans (congrArg some (by kernel_rfl))⟩
 f23:=⟨Tryz.f178.name,by decide,Tryz.func178.trans (congrArg some (by kernel_rfl))⟩
 f24:=⟨Tryz.f179.name,by decide,Tryz.func179.trans (congrArg some (by kernel_rfl))⟩
 f25:=⟨Tryz.f180.name,by decide,Tryz.func180.trans (congrArg some (by kernel_rfl))⟩
 f26:=⟨Tryz.f181.name,by decide,Tryz.func181.trans (congrArg some (by kernel_rfl))⟩
 f27:=⟨Tryz.f182.name,by decide,Tryz.func182.trans (congrArg some (by kernel_rfl))⟩
 f28:=Tryz.func104.trans (congrArg some (by kernel_rfl))
 f29:=Tryz.func105.trans (congrArg some (by kernel_rfl))
 f46:=⟨Tryz.f192.name,by decide,Tryz.func192.trans (congrArg some (by kernel_rfl))⟩
 f47:=Tryz.func136.trans (congrArg some (by kernel_rfl))
 f48:=Tryz.func137.trans (congrArg some (by kernel_rfl))
 f49:=⟨Tryz.f193.name,by decide,Tryz.func193.trans (congrArg some (by kernel_rfl))⟩
 f50:=⟨Tryz.f194.name,by decide,Tryz.func194.trans (congrArg some (by kernel_rfl))⟩
 f57:=⟨Tryz.f205.name,by decide,Tryz.func205.trans (congrArg some (by kernel_rfl))⟩
 t0:=Tryz.underlying0
 a0:=Tryz.isAgg0
 z0:=Tryz.sizeOf0
 v0:=Tryz.zeroValue0
 t3:=Tryz.underlying3
 a3:=Tryz.isAgg3
 z3:=Tryz.sizeOf3
 v3:=Tryz.zeroValue3
 t4:=Tryz.underlying4
 a4:=Tryz.isAgg4
 z4:=Tryz.sizeOf4
 v4:=Tryz.zeroValue4
 t5:=Tryz.underlying5
 a5:=Tryz.isAgg5
 z5:=Tryz.sizeOf5
 v5:=Tryz.zeroValue5
 t9:=Tryz.underlying9
 a9:=Tryz.isAgg9
 z9:=Tryz.sizeOf9
 v9:=Tryz.zeroValue9
 t22:=Tryz.underlying142
 a22:=Tryz.isAgg142
 z22:=Tryz.sizeOf142
 v22:=Tryz.zeroValue142
 t25:=Tryz.underlying197
 a25:=Tryz.isAgg197
 z25:=Tryz.sizeOf197
 v25:=Tryz.zeroValue197
 t39:=Tryz.underlying117
 a39:=Tryz.isAgg117
 z39:=Tryz.sizeOf117
 v39:=Tryz.zeroValue117
 t45:=Tryz.underlying151
 a45:=Tryz.isAgg151
 z45:=Tryz.sizeOf151
 v45:=Tryz.zeroValue151
 t46:=Tryz.underlying152
 a46:=Tryz.isAgg152
 z46:=Tryz.sizeOf152
 v46:=Tryz.zeroValue152
 t50:=Tryz.underlying157
 a50:=Tryz.isAgg157
 z50:=Tryz.sizeOf157
 v50:=Tryz.zeroValue157
 t53:=Tryz.underlying160
 a53:=Tryz.isAgg160
 z53:=Tryz.sizeOf160
 v53:=Tryz.zeroValue160
 t55:=Tryz.underlying162
 a55:=Tryz.isAgg162
 z55:=Tryz.sizeOf162
 v55:=Tryz.zeroValue162
 t66:=Tryz.underlying199
 a66:=Tryz.isAgg199
 z66:=Tryz.sizeOf199
 v66:=Tryz.zeroValue199
 t70:=Tryz.underlying203
 a70:=Tryz.isAgg203
 z70:=Tryz.sizeOf203
 v70:=Tryz.zeroValue203
 t76:=Tryz.underlying223
 a76:=Tryz.isAgg223
 z76:=Tryz.sizeOf223
 v76:=Tryz.zeroValue223
 t77:=Tryz.underlying224
 a77:=Tryz.isAgg224
 z77:=Tryz.sizeOf224
 v77:=Tryz.zeroValue224 }
def cmpInt_ren:Go.Shelf.Ren:=⟨fun | 5=>133 | 7=>140 | n=>n,fun | 22=>3 | 3=>3 | 4=>4 | n=>n,fun | n=>n⟩
theorem cmpInt:Go.Proofs.SlLaysC2.n5 Tryz.prog cmpInt_ren:={
 mixed:=by kernel_rfl
 f5:=⟨Tryz.f133.name,by decide,Tryz.func133.trans (congrArg some (by kernel_rfl))⟩
 f7:=⟨Tryz.f140.name,by decide,Tryz.func140.trans (congrArg some (by kernel_rfl))⟩
 t3:=Tryz.underlying3
 a3:=Tryz.isAgg3
 z3:=Tryz.sizeOf3
 v3:=Tryz.zeroValue3
 t4:=Tryz.underlying4
 a4:=Tryz.isAgg4
 z4:=Tryz.sizeOf4
 v4:=Tryz.zeroValue4
 t22:=Tryz.underlying3
 a22:=Tryz.isAgg3
 z22:=Tryz.sizeOf3
 v22:=Tryz.zeroValue3 }
abbrev OneVal:={v:Value // v.oneCell'=true}
instance:Inhabited OneVal:=⟨⟨.bool false,rfl⟩⟩
def encP (x:Int×OneVal):List Value:=[.int .i64 x.1,x.2.1]
theorem sort_clo (x y:Int×OneVal) (W:World):Calls Tryz.prog 132 #[.agg #[.int .i64 x.1,x.2.1],.agg #[.int .i64 y.1,y.2.1]] W fun e w'=>e = .returned (.int .i64 (Lib.compareInt y.1 x.1))∧∃ q os',w'=grow (W.drewN q) os':=by
 have hcon:=fun W'=>AnyG.cmp_Compare_int cmpInt y.1 x.1 W'
 change ∀ W',Calls Tryz.prog 133 _ _ _ at hcon
 generalize Lib.compareInt y.1 x.1=r at hcon ⊢
 go_enter Tryz.func132,Tryz.ntmps132
 go_wp2_with (go_at_call 133;refine (hcon _).mono ?_;rintro e w' ⟨rfl,rfl⟩)
 go_ret
 exact ⟨rfl,0,_,by rw [alloc_eq_grow,alloc_eq_grow,grow_grow];rfl⟩
end Go.Proofs.YtgcicholalgbiaaGreat
namespace Go.Proofs.YtgcicholalgbiaaGreat
open Go Go.Tw Go.Proofs
open Go.Sort
theorem ltP (x y:Int×OneVal):ltOf (fun x y:Int×OneVal=>Lib.compareInt y.1 x.1) x y=decide (y.1 < x.1):=by
 unfold ltOf Lib.compareInt
 by_cases h1:y.1 < x.1
 ·simp [h1]
 ·by_cases h2:x.1 < y.1 <;> simp [h1,h2]
theorem swoP:SWO (ltOf fun x y:Int×OneVal=>Lib.compareInt y.1 x.1) where
 irrefl x:=by rw [ltP];simp
 trans x y z h1 h2:=by rw [ltP] at *;simp at *;omega
 ntrans x y z h1 h2:=by rw [ltP] at *;simp at *;omega
theorem sort_match {β : Type} (L : List (Int × AV)) (V V' : List (Int × β)) (R : AV → β → Prop) (hl : V.length = L.length) (hV : ∀ (i : Nat) (x : Int × AV) (u : Int × β), L[i]? = some x → V[i]? = some u → u.1 = x.1 ∧ R x.2 u.2) (hnd : (L.map (·.1)).Nodup) (hp : V'.Perm V) (hs : V'.Pairwise (fun a b => ¬ a.1 < b.1)) :
   V'.length = (sortL L).length ∧ ∀ (i : Nat) (x : Int × AV) (u : Int × β), (sortL L)[i]? = some x → V'[i]? = some u → u.1 = x.1 ∧ R x.2 u.2 := by
 have hkV : V.map (·.1) = L.map (·.1) := by
   apply List.ext_getElem?
   intro i
   rw [List.getElem?_map, List.getElem?_map]
   by_cases hi : i < L.length
   · have h1 : L[i]? = some L[i] := List.getElem?_eq_getElem hi
     have h2 : V[i]? = some (V[i]'(by omega)) := List.getElem?_eq_getElem (by omega)
     rw [h1, h2]
     simp [(hV i _ _ h1 h2).1]
   · rw [List.getElem?_eq_none (by omega), List.getElem?_eq_none (by omega)]
     rfl
 have hlen : V'.length = (sortL L).length := by rw [hp.length_eq, hl, (sortL_perm L).length_eq]
 have hndV : (V'.map (·.1)).Nodup := by
   rw [(hp.map (·.1)).nodup_iff, hkV]
   exact hnd
 have hpw : (V'.map (·.1)).Pairwise (· > ·) := by
   rw [List.pairwise_map]
   have h2 := List.pairwise_map.1 hndV
   exact (hs.and h2).imp fun {a b} h => by
     have := h.1
     have h3 := h.2
     omega
 have hkeys : V'.map (·.1) = (sortL L).map (·.1) := falls_one (hs := []) (top := 0) hpw (List.pairwise_map.2 (sortL_pw L hnd)) fun v => by
   rw [(hp.map (·.1)).mem_iff, hkV, ((sortL_perm L).map (·.1)).mem_iff]
 refine ⟨hlen, fun i x u hx hu => ?_⟩
 have hk : u.1 = x.1 := by
   have := congrArg (·[i]?) hkeys
   simp only [List.getElem?_map, hx, hu, Option.map_some, Option.some.injEq] at this
   exact this
 refine ⟨hk, ?_⟩
 have hm : u ∈ V := hp.mem_iff.1 (List.mem_of_getElem? hu)
 obtain ⟨j, hj⟩ := List.getElem?_of_mem hm
 have hjl : j < L.length := by rw [← hl]; exact (List.getElem?_eq_some_iff.1 hj).1
 have hLj : L[j]? = some L[j] := List.getElem?_eq_getElem hjl
 obtain ⟨h1, h2⟩ := hV j _ _ hLj hj
 have hmx : x ∈ L := (sortL_perm L).mem_iff.1 (List.mem_of_getElem? hx)
 have : x = L[j] := by
   obtain ⟨k, hkk⟩ := List.getElem?_of_mem hmx
   obtain ⟨hkl, hke⟩ := List.getElem?_eq_some_iff.1 hkk
   have hp := List.pairwise_iff_getElem.1 hnd
   have e : (L[k]).1 = (L[j]).1 := by rw [hke, ← hk, h1]
   rcases Nat.lt_trichotomy j k with hh | hh | hh
   · exact absurd (by rw [List.getElem_map, List.getElem_map]; exact e.symm) (hp j k (by simpa using hjl) (by simpa using hkl) hh)
   · subst hh; exact hke.symm
   · exact absurd (by rw [List.getElem_map, List.getElem_map]; exact e) (hp k j (by simpa using hkl) (by simpa using hjl) hh)
 rw [this]
 exact h2
section
variable {P:Program} {w:World} {I:Nat→Prop} {ρ:Real} {m:Mem}
theorem SR_heap (hS:SR P w I ρ m) {w':World} (h:w'.heap=w.heap):SR P w' I ρ m:=by
 have hk:Keeps w w' I I:=⟨fun _ h=>h,fun g _=>by rw [h],fun g x hx=>by unfold World.shape? at *;rw [h];exact hx⟩
 exact ⟨fun b k g o h1 h2=>BR_keep hk (fun _ _ h=>h) (hS.blk b k g o h1 h2) (by rw [h]) (fun hw=>((hS.blk b k g o h1 h2).wr hw).1),hS.inj,fun g hg=>by rw [h];exact hS.lt g hg,hS.mms.keep hk (fun _ _ h=>h) (fun g _=>⟨by rw [h],fun h=>h⟩)⟩
theorem grow_old {w:World} {os:Array Obj} {g:Nat} (hg:g < w.heap.size):(grow w os).heap[g]? = w.heap[g]? := by
 show (w.heap++os)[g]? = _
 rw [Array.getElem?_append_left hg]
theorem SR_grow (hS:SR P w I ρ m) (os:Array Obj):SR P (grow w os) I ρ m∧Step w I ρ m (grow w os) I ρ m:=by
 have hk:Keeps w (grow w os) I I:=⟨fun _ h=>h,fun g hg=>grow_old (hS.lt g hg),fun g x hx=>by rw [shape_same (grow_old (shape_lt hx))];exact hx⟩
 have hsz:w.heap.size≤(grow w os).heap.size:=by show _≤(w.heap++os).size;simp
 refine ⟨⟨fun b k g o h1 h2=>BR_keep hk (fun _ _ h=>h) (hS.blk b k g o h1 h2) (grow_old (hS.ltb h1 h2)) (fun hw=>((hS.blk b k g o h1 h2).wr hw).1),hS.inj,fun g hg=>Nat.lt_of_lt_of_le (hS.lt g hg) hsz,hS.mms.keep hk (fun _ _ h=>h) (fun g hg=>⟨grow_old (hS.mms.lt hg),fun h=>h⟩)⟩,⟨rfl,rfl,rfl,hsz,fun g hg _=>grow_old hg,hk.shape,fun _ h=>h,fun _ h => .inl h,fun _ _ h=>h,fun b h1 h2=>absurd h1 h2,fun _ h => .inl h,Nat.le_refl _⟩⟩
end
theorem pairsA_at:∀ (L:List (Int×AV)) (i:Nat) (x:Int×AV),L[i]? = some x→(pairsA L)[i*2]? = some (intV x.1)∧(pairsA L)[i*2+1]? = some x.2
 | [],i,x,h=>by simp at h
 | a::L,0,x,h=>by simp at h;subst h;exact ⟨rfl,rfl⟩
 | a::L,i+1,x,h=>by
  have ih:=pairsA_at L i x (by simpa using h)
  have e:pairsA (a::L)=intV a.1::a.2::pairsA L:=rfl
  rw [e,show (i+1)*2=i*2+1+1 by omega]
  simpa using ih
theorem pairsA_len (L:List (Int×AV)):(pairsA L).length=L.length*2:=by
 induction L with
 | nil=>rfl
 | cons a L ih=>simp only [pairsA,List.flatMap_cons,List.length_append,List.length_cons,List.length_nil] at ih ⊢;omega
theorem flatP_at (d:Array (Int×OneVal)) (i:Nat) (x:Int×OneVal) (h:d.toList[i]? = some x):(flatK encP 2 d)[i*2]? = some (.int .i64 x.1)∧(flatK encP 2 d)[i*2+1]? = some x.2.1:=by
 have hi:i < d.size:=by simpa using (List.getElem?_eq_some_iff.1 h).1
 have hx:d[i]! = x:=by
  rw [getElem!_pos d i hi]
  have:=(List.getElem?_eq_some_iff.1 h).2
  simpa using this
 constructor
 ·have h1:i*2 < d.size*2:=by omega
  have:=Go.Sort.get_flatK encP 2 d (i*2) h1
  rw [Nat.mul_div_cancel _ (by decide),Nat.mul_mod_left,hx] at this
  have hs:i*2 < (flatK encP 2 d).size:=by simp;omega
  have e:=getElem!_pos (flatK encP 2 d) (i*2) hs
  rw [e] at this
  rw [Array.getElem?_eq_getElem hs,this]
  rfl
 ·have h1:i*2+1 < d.size*2:=by omega
  have:=Go.Sort.get_flatK encP 2 d (i*2+1) h1
  rw [show (i*2+1) / 2=i by omega,show (i*2+1) % 2=1 by omega,hx] at this
  have hs:i*2+1 < (flatK encP 2 d).size:=by simp;omega
  have e:=getElem!_pos (flatK encP 2 d) (i*2+1) hs
  rw [e] at this
  rw [Array.getElem?_eq_getElem hs,this]
  rfl
theorem sort_spec:SortSpec:=by
 intro m b L hb hnd hlen hone
 refine ⟨by kernel_rfl,fun w I ρ vs hS hsz hv hfree => ?_⟩
 have hsz2:vs.size=2:=hsz
 obtain ⟨v0,hv0,h0⟩:=VRs_at hv (j:=0) rfl
 obtain ⟨v1,hv1,h1⟩:=VRs_at hv (j:=1) rfl
 simp only [VR] at h0 h1
 obtain ⟨g,o,cap,ty,n,s,hbg,rfl,⟨hc1,hc2⟩,_,hsh,hsz3,hfit⟩:=h0
 obtain ⟨caps,rfl,hcs,_⟩:=h1
 have hcaps:caps = #[]:=Array.eq_empty_of_size_eq_zero hcs
 subst hcaps
 have hvs:vs = #[.slice (some ⟨g,o+0,none⟩) L.length cap,.func (.func 132) #[] #[]]:=by
  apply Array.ext (by simpa using hsz2)
  intro i h1 h2
  have:i=0∨i=1:=by simp at h2;omega
  rcases this with rfl | rfl
  ·simp only [Array.getElem?_eq_getElem h1,Option.some.injEq] at hv0;simpa using hv0
  ·simp only [Array.getElem?_eq_getElem h1,Option.some.injEq] at hv1;simpa using hv1
 have hB:=hS.blk b _ g o hb hbg
 obtain ⟨arr,fr,hh,hcells⟩:=hB.cells
 simp only [reduceCtorEq,if_false] at hcells
 have hval:∀ i x,L[i]? = some x→arr[o+i*2]? = some (.int .i64 x.1)∧∃ u:OneVal,arr[o+(i*2+1)]? = some u.1∧VR Tryz.prog w I ρ x.2 u.1:=by
  intro i x hx
  obtain ⟨p1,p2⟩:=pairsA_at L i x hx
  obtain ⟨u1,q1,q2⟩:=VRs_at hcells p1
  obtain ⟨u2,q3,q4⟩:=VRs_at hcells p2
  simp only [intV,VR] at q2
  subst q2
  exact ⟨q1,⟨u2,hB.all1 rfl arr _ fr hh u2 (by simpa using Array.mem_of_getElem? q3)⟩,q3,q4⟩
 obtain ⟨V,hVl,hV⟩:∃ V:List (Int×OneVal),V.length=L.length∧∀ i x u,L[i]? = some x→V[i]? = some u→u.1=x.1∧(arr[o+i*2]? = some (.int .i64 x.1)∧arr[o+(i*2+1)]? = some u.2.1∧VR Tryz.prog w I ρ x.2 u.2.1):=by
  refine ⟨(List.range L.length).map fun i=>((L.getD i default).1,if h:(arr.getD (o+(i*2+1)) undef).oneCell'=true then ⟨_,h⟩ else default),by simp,fun i x u hx hu => ?_⟩
  have hi:=(List.getElem?_eq_some_iff.1 hx).1
  rw [List.getElem?_map,List.getElem?_range hi,Option.map_some,Option.some.injEq] at hu
  obtain ⟨h1,u',h2,h3⟩:=hval i x hx
  have e1:arr.getD (o+(i*2+1)) undef=u'.1:=by rw [Array.getD_eq_getD_getElem?,h2];rfl
  have e2:L.getD i default=x:=by rw [List.getD_eq_getElem?_getD,hx];rfl
  subst hu
  rw [e2]
  have e3:(if h:(arr.getD (o+(i*2+1)) undef).oneCell'=true then (⟨_,h⟩:OneVal) else default)=u':=by
   rw [dif_pos (by rw [e1];exact u'.2)]
   exact Subtype.ext e1
  rw [e3]
  exact ⟨rfl,h1,h2,h3⟩
 have hfl:∀ j,j < L.length*2→arr[o+j]? = (flatK encP 2 V.toArray)[j]? := by
  intro j hj
  obtain ⟨i,hi2⟩:∃ i,j=i*2∨j=i*2+1:=⟨j / 2,by omega⟩
  have hi:i < L.length:=by omega
  have h1:L[i]? = some L[i]:=List.getElem?_eq_getElem hi
  have h2:V[i]? = some (V[i]'(by omega)):=List.getElem?_eq_getElem (by omega)
  obtain ⟨a1,a2,a3,a4⟩:=hV i _ _ h1 h2
  obtain ⟨f1,f2⟩:=flatP_at V.toArray i _ h2
  rcases hi2 with rfl | rfl
  ·rw [a2,f1,a1]
  ·rw [a3,f2]
 have hH:HoldsK encP 2 w g (o+0) V.toArray:=by
  intro j hj
  have hj2:j < L.length*2:=by simpa [hVl] using hj
  refine ⟨?_,hB.nostr rfl (by kernel_rfl) _⟩
  have hsz4:j < (flatK encP 2 V.toArray).size:=hj
  have e:=getElem!_pos (flatK encP 2 V.toArray) j hsz4
  rw [Nat.add_zero,cell_of_row _ _ _ _ _ _ hh,hfl j hj2,Array.getElem?_eq_getElem hsz4,e]
  rfl
 have hcon:=AnyQ.slices_SortFunc sortTally 2 Tryz.isAgg146 Tryz.sizeOf146 encP (fun _=>rfl) (fun x v hv=>by
  simp only [encP,List.mem_cons,List.not_mem_nil,or_false] at hv
  rcases hv with rfl | rfl
  ·rfl
  ·exact x.2.2) (fun x y=>Lib.compareInt y.1 x.1) swoP 132 #[] g (o+0) cap V.toArray w (enters_of Tryz.func132 (by kernel_rfl) rfl) (fun _ _ _ _ x y=>sort_clo x y _) hH (heap_lt hh) (by simp [hVl];omega)
 change Calls Tryz.prog 131 _ _ _ at hcon
 have hVs:V.toArray.size=L.length:=by simpa using hVl
 rw [hVs] at hcon
 rw [hvs]
 refine hcon.mono ?_
 rintro en w' ⟨rfl,d',nd,os,hperm,hsorted,rfl⟩
 have hds:d'.size=L.length:=by rw [hperm.1,hVs]
 have hpm:d'.toList.Perm V:=by
  have h1:=hperm.2.2
  rw [←hds] at h1
  have e1:d'.extract 0 d'.size=d':=by simp
  have e2:V.toArray.extract 0 d'.size=V.toArray:=by rw [hds,←hVs];simp
  rw [e1,e2] at h1
  exact h1
 have hpw:d'.toList.Pairwise (fun a b=>¬ a.1 < b.1):=by
  rw [List.pairwise_iff_getElem]
  intro i j hi hj hij
  have hi':i < d'.size:=by simpa using hi
  have hj':j < d'.size:=by simpa using hj
  have h1:=hsorted i j (Nat.zero_le _) hij (by omega)
  rw [ltP,getElem!_pos d' i hi',getElem!_pos d' j hj'] at h1
  simpa using h1
 obtain ⟨hml,hmt⟩:=sort_match L V d'.toList (fun a u=>VR Tryz.prog w I ρ a u.1) hVl (fun i x u hx hu=>⟨(hV i x u hx hu).1,(hV i x u hx hu).2.2.2⟩) hnd hpm hpw
 have hSl:(sortL L).length=L.length:=(sortL_perm L).length_eq
 have hworld:sortWorldK encP 2 w g (o+0) nd d' os=grow ((Go.Sort.ahead w nd).setCells g (o+0) (flatK encP 2 d').toList) os:=by
  have hsc:=setCells_putRow (Go.Sort.ahead w nd) g (o+0) (flatK encP 2 d').toList 0 (flatK encP 2 V.toArray) (by simp [hds,hVl])
  have hself:putRow id (Go.Sort.ahead w nd) g (o+0) (flatK encP 2 V.toArray)=Go.Sort.ahead w nd:=putRow_self id (Go.Sort.ahead w nd) g (o+0) _ hH
  rw [hself,Nat.add_zero] at hsc
  unfold sortWorldK putRowK
  rw [Nat.add_zero,hsc]
  congr 2
  refine (Go.Sort.ext_get! (by simp [hds,hVl]) fun t ht => ?_).symm
  have ht2:t < (flatK encP 2 V.toArray).size:=by simpa using ht
  have ht3:t < (flatK encP 2 d').size:=by simp [hds,hVl] at ht2 ⊢;exact ht2
  rw [Go.Sort.get_setMany _ _ _ t ht2,if_pos ⟨Nat.zero_le _,by simpa using ht3⟩,Nat.sub_zero,getElem!_pos (flatK encP 2 d').toList t (by simpa using ht3),getElem!_pos (flatK encP 2 d') t ht3]
  simp
 rw [hworld]
 have S1:SR Tryz.prog (Go.Sort.ahead w nd) I ρ m:=SR_heap hS rfl
 have hn:o+L.length*2≤arr.size:=by
  by_cases h0:L.length=0
  ·rw [shape_of_heap hh] at hsh
   cases hsh
   rw [h0]
   have:=hfit
   generalize cap*s=q at this
   omega
  ·have h1:L[L.length - 1]? = some (L[L.length - 1]'(by omega)):=List.getElem?_eq_getElem (by omega)
   obtain ⟨_,u,h2,_⟩:=hval _ _ h1
   have:=(Array.getElem?_eq_some_iff.1 h2).1
   omega
 obtain ⟨S2,T2⟩:=SR_write (k':=⟨pairsA (sortL L),146,.var,true⟩) S1 hb rfl hbg (vs:=(flatK encP 2 d').toList) (p:=o+0) ⟨rfl,rfl,fun c hc=>by
  unfold pairsA at hc
  obtain ⟨x,hx,hc⟩:=List.mem_flatMap.1 hc
  rw [List.mem_cons,List.mem_singleton] at hc
  rcases hc with rfl | rfl
  ·rfl
  ·exact hone x ((sortL_perm L).mem_iff.1 hx)⟩ (fun v hv=>by
  obtain ⟨j,hj⟩:=List.getElem?_of_mem hv
  rw [Array.getElem?_toList] at hj
  have hjs:=(Array.getElem?_eq_some_iff.1 hj).1
  have hj2:j < L.length*2:=by simpa [hds] using hjs
  obtain ⟨i,hi2⟩:∃ i,j=i*2∨j=i*2+1:=⟨j / 2,by omega⟩
  have hi:i < d'.toList.length:=by simp [hds];omega
  obtain ⟨f1,f2⟩:=flatP_at d' i _ (List.getElem?_eq_getElem hi)
  rcases hi2 with rfl | rfl
  ·rw [f1] at hj;cases hj;rfl
  ·rw [f2] at hj;cases hj;exact (d'.toList[i]).2.2) (fun arr0 fr0 e0 _ arr' e1 e2=>by
  have e0':w.heap[g]? = some (.cells arr0 146 fr0):=e0
  rw [hh] at e0'
  cases e0'
  simp only [reduceCtorEq,if_false]
  refine VRs_iff.2 fun j c hj => ?_
  have hjl:j < L.length*2:=by
   have:=(List.getElem?_eq_some_iff.1 hj).1
   rw [pairsA_len,hSl] at this
   exact this
  have hfs:(flatK encP 2 d').toList.length=L.length*2:=by simp [hds]
  have hget:arr'[o+j]? = (flatK encP 2 d')[j]? := by
   rw [e2,if_pos ⟨by omega,by omega,by omega⟩,show o+j - (o+0)=j by omega,Array.getElem?_toList]
  obtain ⟨i,hi2⟩:∃ i,j=i*2∨j=i*2+1:=⟨j / 2,by omega⟩
  have hiS:i < (sortL L).length:=by omega
  have hiD:i < d'.toList.length:=by simp [hds];omega
  have hx:(sortL L)[i]? = some (sortL L)[i]:=List.getElem?_eq_getElem hiS
  have hu:d'.toList[i]? = some d'.toList[i]:=List.getElem?_eq_getElem hiD
  obtain ⟨m1,m2⟩:=hmt i _ _ hx hu
  obtain ⟨p1,p2⟩:=pairsA_at (sortL L) i _ hx
  obtain ⟨f1,f2⟩:=flatP_at d' i _ hu
  have hkeep:Keeps w (Go.Sort.ahead w nd) I I:=⟨fun _ h=>h,fun _ _=>rfl,fun _ _ h=>h⟩
  rcases hi2 with rfl | rfl
  ·rw [p1] at hj
   cases hj
   refine ⟨_,by rw [hget,f1], ?_⟩
   simp only [intV,VR,m1]
  ·rw [p2] at hj
   cases hj
   exact ⟨_,by rw [hget,f2],VR_keep hkeep (fun _ _ h=>h) _ _ m2⟩)
 obtain ⟨S3,T3⟩:=SR_grow S2 os
 have T1:Step w I ρ m (Go.Sort.ahead w nd) I ρ m:=⟨rfl,rfl,rfl,Nat.le_refl _,fun _ _ _=>rfl,fun _ _ h=>h,fun _ h=>h,fun _ h => .inl h,fun _ _ h=>h,fun b h1 h2=>absurd h1 h2,fun _ h => .inl h,Nat.le_refl _⟩
 exact ⟨.tuple #[],undefA,_,I,ρ,rfl,⟨rfl,rfl⟩,by simp only [undefA,VR],S3,T1.trans (T2.trans T3),hfree⟩
end Go.Proofs.YtgcicholalgbiaaGreat