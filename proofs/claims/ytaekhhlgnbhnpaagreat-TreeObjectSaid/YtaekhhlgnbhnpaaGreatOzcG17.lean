import Derived.Test.YtaekhhlgnbhnpaaGreatOzcG16
import Derived.Shelf.SlSortCmp.WholeK
import Derived.Shelf.SlicesG.Cmp
set_option linter.unusedVariables false
set_option linter.unusedSimpArgs false
set_option maxRecDepth 10000
namespace Go.Proofs.YtaekhhlgnbhnpaaGreat
open Go Go.Proofs Go.Shelf Go.RowKit Go.Lib Go.Sort
def asi:Go.Shelf.Ren:=⟨fun | 6=>322 | 15=>219 | 14=>342 | 28=>284 | 29=>285 | 20=>352 | 21=>353 | 22=>354 | 23=>355 | 24=>356 | 25=>357 | 26=>358 | 27=>359 | 46=>360 | 47=>315 | 48=>316 | 49=>361 | 50=>362 | 57=>363 | n=>n,fun | 22=>223 | 24=>226 | 25=>333 | 3=>3 | 39=>235 | 0=>0 | 53=>294 | 55=>296 | 4=>4 | 46=>287 | 45=>286 | 50=>238 | 5=>5 | 9=>9 | 66=>324 | 70=>328 | 76=>347 | 77=>149 | n=>n,fun | n=>n⟩
theorem amh:Go.Proofs.SlLaysF0.n6 Tryz.prog asi:={
 mixed:=by kernel_rfl
 f6:=⟨Tryz.f322.name,by decide,Tryz.func322.trans (congrArg some (by kernel_rfl))⟩
 f14:=⟨Tryz.f342.name,by decide,Tryz.func342.trans (congrArg some (by kernel_rfl))⟩
 f15:=Tryz.func219.trans (congrArg some (by kernel_rfl))
 f20:=⟨Tryz.f352.name,by decide,Tryz.func352.trans (congrArg some (by kernel_rfl))⟩
 f21:=⟨Tryz.f353.name,by decide,Tryz.func353.trans (congrArg some (by kernel_rfl))⟩
 f22:=⟨Tryz.f354.name,by decide,Tryz.func354.trans (congrArg some (by kernel_rfl))⟩
 f23:=⟨Tryz.f355.name,by decide,Tryz.func355.trans (congrArg some (by kernel_rfl))⟩
 f24:=⟨Tryz.f356.name,by decide,Tryz.func356.trans (congrArg some (by kernel_rfl))⟩
 f25:=⟨Tryz.f357.name,by decide,Tryz.func357.trans (congrArg some (by kernel_rfl))⟩
 f26:=⟨Tryz.f358.name,by decide,Tryz.func358.trans (congrArg some (by kernel_rfl))⟩
 f27:=⟨Tryz.f359.name,by decide,Tryz.func359.trans (congrArg some (by kernel_rfl))⟩
 f28:=Tryz.func284.trans (congrArg some (by kernel_rfl))
 f29:=Tryz.func285.trans (congrArg some (by kernel_rfl))
 f46:=⟨Tryz.f360.name,by decide,Tryz.func360.trans (congrArg some (by kernel_rfl))⟩
 f47:=Tryz.func315.trans (congrArg some (by kernel_rfl))
 f48:=Tryz.func316.trans (congrArg some (by kernel_rfl))
 f49:=⟨Tryz.f361.name,by decide,Tryz.func361.trans (congrArg some (by kernel_rfl))⟩
 f50:=⟨Tryz.f362.name,by decide,Tryz.func362.trans (congrArg some (by kernel_rfl))⟩
 f57:=⟨Tryz.f363.name,by decide,Tryz.func363.trans (congrArg some (by kernel_rfl))⟩
 t0:=Tryz.underlying0
 a0:=Tryz.isAgg0
 z0:=Tryz.sizeOf0
 v0:=Tryz.zeroValue0
 t3:=Tryz.underlying3
 a3:=Tryz.isAgg3
 z3:=Tryz.sizeOf3
 v3:=Tryz.zeroValue3
 t4:=Tryz.underlying4
 a4:=Tryz.isAgg4
 z4:=Tryz.sizeOf4
 v4:=Tryz.zeroValue4
 t5:=Tryz.underlying5
 a5:=Tryz.isAgg5
 z5:=Tryz.sizeOf5
 v5:=Tryz.zeroValue5
 t9:=Tryz.underlying9
 a9:=Tryz.isAgg9
 z9:=Tryz.sizeOf9
 v9:=Tryz.zeroValue9
 t22:=Tryz.underlying223
 a22:=Tryz.isAgg223
 z22:=Tryz.sizeOf223
 v22:=Tryz.zeroValue223
 t25:=Tryz.underlying333
 a25:=Tryz.isAgg333
 z25:=Tryz.sizeOf333
 v25:=Tryz.zeroValue333
 t39:=Tryz.underlying235
 a39:=Tryz.isAgg235
 z39:=Tryz.sizeOf235
 v39:=Tryz.zeroValue235
 t45:=Tryz.underlying286
 a45:=Tryz.isAgg286
 z45:=Tryz.sizeOf286
 v45:=Tryz.zeroValue286
 t46:=Tryz.underlying287
 a46:=Tryz.isAgg287
 z46:=Tryz.sizeOf287
 v46:=Tryz.zeroValue287
 t50:=Tryz.underlying238
 a50:=Tryz.isAgg238
 z50:=Tryz.sizeOf238
 v50:=Tryz.zeroValue238
 t53:=Tryz.underlying294
 a53:=Tryz.isAgg294
 z53:=Tryz.sizeOf294
 v53:=Tryz.zeroValue294
 t55:=Tryz.underlying296
 a55:=Tryz.isAgg296
 z55:=Tryz.sizeOf296
 v55:=Tryz.zeroValue296
 t66:=Tryz.underlying324
 a66:=Tryz.isAgg324
 z66:=Tryz.sizeOf324
 v66:=Tryz.zeroValue324
 t70:=Tryz.underlying328
 a70:=Tryz.isAgg328
 z70:=Tryz.sizeOf328
 v70:=Tryz.zeroValue328
 t76:=Tryz.underlying347
 a76:=Tryz.isAgg347
 z76:=Tryz.sizeOf347
 v76:=Tryz.zeroValue347
 t77:=Tryz.underlying149
 a77:=Tryz.isAgg149
 z77:=Tryz.sizeOf149
 v77:=Tryz.zeroValue149 }
def asj:Go.Shelf.Ren:=⟨fun | 5=>324 | 7=>319 | n=>n,fun | 22=>3 | 3=>3 | 4=>4 | n=>n,fun | n=>n⟩
theorem ask:Go.Proofs.SlLaysC2.n5 Tryz.prog asj:={
 mixed:=by kernel_rfl
 f5:=⟨Tryz.f324.name,by decide,Tryz.func324.trans (congrArg some (by kernel_rfl))⟩
 f7:=⟨Tryz.f319.name,by decide,Tryz.func319.trans (congrArg some (by kernel_rfl))⟩
 t3:=Tryz.underlying3
 a3:=Tryz.isAgg3
 z3:=Tryz.sizeOf3
 v3:=Tryz.zeroValue3
 t4:=Tryz.underlying4
 a4:=Tryz.isAgg4
 z4:=Tryz.sizeOf4
 v4:=Tryz.zeroValue4
 t22:=Tryz.underlying3
 a22:=Tryz.isAgg3
 z22:=Tryz.sizeOf3
 v22:=Tryz.zeroValue3 }
abbrev tR:={v:Value // v.oneCell'=true}
instance:Inhabited tR:=⟨⟨.bool false,rfl⟩⟩
def jB (x:Int×tR):List Value:=[.int .i64 x.1,x.2.1]
theorem asl (x y:Int×tR) (W:World):Calls Tryz.prog 323 #[.agg #[.int .i64 x.1,x.2.1],.agg #[.int .i64 y.1,y.2.1]] W fun e w'=>e = .returned (.int .i64 (Lib.compareInt y.1 x.1))∧∃ q os',w'=grow (W.drewN q) os':=by
 have hcon:=fun W'=>AnyG.cmp_Compare_int ask y.1 x.1 W'
 change ∀ W',Calls Tryz.prog 324 _ _ _ at hcon
 generalize Lib.compareInt y.1 x.1=r at hcon ⊢
 go_enter Tryz.func323,Tryz.ntmps323
 go_wp2_with (go_at_call 324;refine (hcon _).mono ?_;rintro e w' ⟨rfl,rfl⟩)
 go_ret
 exact ⟨rfl,0,_,by rw [alloc_eq_grow,alloc_eq_grow,grow_grow];rfl⟩
end Go.Proofs.YtaekhhlgnbhnpaaGreat
namespace Go.Proofs.YtaekhhlgnbhnpaaGreat
open Go Go.Tw Go.Proofs
open Go.Sort
theorem ltP (x y:Int×tR):ltOf (fun x y:Int×tR=>Lib.compareInt y.1 x.1) x y=decide (y.1 < x.1):=by
 unfold ltOf Lib.compareInt
 by_cases h1:y.1 < x.1
 ·simp [h1]
 ·by_cases h2:x.1 < y.1 <;> simp [h1,h2]
theorem asm:SWO (ltOf fun x y:Int×tR=>Lib.compareInt y.1 x.1) where
 irrefl x:=by rw [ltP];simp
 trans x y z h1 h2:=by rw [ltP] at *;simp at *;omega
 ntrans x y z h1 h2:=by rw [ltP] at *;simp at *;omega
theorem asn {β : Type} (L : List (Int × AV)) (V V' : List (Int × β)) (R : AV → β → Prop) (hl : V.length = L.length) (hV : ∀ (i : Nat) (x : Int × AV) (u : Int × β), L[i]? = some x → V[i]? = some u → u.1 = x.1 ∧ R x.2 u.2) (hnd : (L.map (·.1)).Nodup) (hp : V'.Perm V) (hs : V'.Pairwise (fun a b => ¬ a.1 < b.1)) :
   V'.length = (lJ L).length ∧ ∀ (i : Nat) (x : Int × AV) (u : Int × β), (lJ L)[i]? = some x → V'[i]? = some u → u.1 = x.1 ∧ R x.2 u.2 := by
 have hkV : V.map (·.1) = L.map (·.1) := by
   apply List.ext_getElem?
   intro i
   rw [List.getElem?_map, List.getElem?_map]
   by_cases hi : i < L.length
   · have h1 : L[i]? = some L[i] := List.getElem?_eq_getElem hi
     have h2 : V[i]? = some (V[i]'(by omega)) := List.getElem?_eq_getElem (by omega)
     rw [h1, h2]
     simp [(hV i _ _ h1 h2).1]
   · rw [List.getElem?_eq_none (by omega), List.getElem?_eq_none (by omega)]
     rfl
 have hlen : V'.length = (lJ L).length := by rw [hp.length_eq, hl, (xZ L).length_eq]
 have hndV : (V'.map (·.1)).Nodup := by
   rw [(hp.map (·.1)).nodup_iff, hkV]
   exact hnd
 have hpw : (V'.map (·.1)).Pairwise (· > ·) := by
   rw [List.pairwise_map]
   have h2 := List.pairwise_map.1 hndV
   exact (hs.and h2).imp fun {a b} h => by
     have := h.1
     have h3 := h.2
     omega
 have hkeys : V'.map (·.1) = (lJ L).map (·.1) := agC (hs := []) (top := 0) hpw (List.pairwise_map.2 (agI L hnd)) fun v => by
   rw [(hp.map (·.1)).mem_iff, hkV, ((xZ L).map (·.1)).mem_iff]
 refine ⟨hlen, fun i x u hx hu => ?_⟩
 have hk : u.1 = x.1 := by
   have := congrArg (·[i]?) hkeys
   simp only [List.getElem?_map, hx, hu, Option.map_some, Option.some.injEq] at this
   exact this
 refine ⟨hk, ?_⟩
 have hm : u ∈ V := hp.mem_iff.1 (List.mem_of_getElem? hu)
 obtain ⟨j, hj⟩ := List.getElem?_of_mem hm
 have hjl : j < L.length := by rw [← hl]; exact (List.getElem?_eq_some_iff.1 hj).1
 have hLj : L[j]? = some L[j] := List.getElem?_eq_getElem hjl
 obtain ⟨h1, h2⟩ := hV j _ _ hLj hj
 have hmx : x ∈ L := (xZ L).mem_iff.1 (List.mem_of_getElem? hx)
 have : x = L[j] := by
   obtain ⟨k, hkk⟩ := List.getElem?_of_mem hmx
   obtain ⟨hkl, hke⟩ := List.getElem?_eq_some_iff.1 hkk
   have hp := List.pairwise_iff_getElem.1 hnd
   have e : (L[k]).1 = (L[j]).1 := by rw [hke, ← hk, h1]
   rcases Nat.lt_trichotomy j k with hh | hh | hh
   · exact absurd (by rw [List.getElem_map, List.getElem_map]; exact e.symm) (hp j k (by simpa using hjl) (by simpa using hkl) hh)
   · subst hh; exact hke.symm
   · exact absurd (by rw [List.getElem_map, List.getElem_map]; exact e) (hp k j (by simpa using hkl) (by simpa using hjl) hh)
 rw [this]
 exact h2
section
variable {P:Program} {w:World} {I:Nat→Prop} {ρ:cK} {m:aF}
theorem aso (hS:SR P w I ρ m) {w':World} (h:w'.heap=w.heap):SR P w' I ρ m:=by
 have hk:gT w w' I I:=⟨fun _ h=>h,fun g _=>by rw [h],fun g x hx=>by unfold World.shape? at *;rw [h];exact hx⟩
 exact ⟨fun b k g o h1 h2=>pQ hk (fun _ _ h=>h) (hS.blk b k g o h1 h2) (by rw [h]) (fun hw=>((hS.blk b k g o h1 h2).wr hw).1),hS.inj,fun g hg=>by rw [h];exact hS.lt g hg,hS.mms.keep hk (fun _ _ h=>h) (fun g _=>⟨by rw [h],fun h=>h⟩)⟩
theorem acK {w:World} {os:Array Obj} {g:Nat} (hg:g < w.heap.size):(grow w os).heap[g]? = w.heap[g]? := by
 show (w.heap++os)[g]? = _
 rw [Array.getElem?_append_left hg]
theorem asp (hS:SR P w I ρ m) (os:Array Obj):SR P (grow w os) I ρ m∧cP w I ρ m (grow w os) I ρ m:=by
 have hk:gT w (grow w os) I I:=⟨fun _ h=>h,fun g hg=>acK (hS.lt g hg),fun g x hx=>by rw [uB (acK (aar hx))];exact hx⟩
 have hsz:w.heap.size≤(grow w os).heap.size:=by show _≤(w.heap++os).size;simp
 refine ⟨⟨fun b k g o h1 h2=>pQ hk (fun _ _ h=>h) (hS.blk b k g o h1 h2) (acK (hS.ltb h1 h2)) (fun hw=>((hS.blk b k g o h1 h2).wr hw).1),hS.inj,fun g hg=>Nat.lt_of_lt_of_le (hS.lt g hg) hsz,hS.mms.keep hk (fun _ _ h=>h) (fun g hg=>⟨acK (hS.mms.lt hg),fun h=>h⟩)⟩,⟨rfl,rfl,rfl,hsz,fun g hg _=>acK hg,hk.shape,fun _ h=>h,fun _ h => .inl h,fun _ _ h=>h,fun b h1 h2=>absurd h1 h2,fun _ h => .inl h,Nat.le_refl _⟩⟩
end
theorem agK:∀ (L:List (Int×AV)) (i:Nat) (x:Int×AV),L[i]? = some x→(kN L)[i*2]? = some (aD x.1)∧(kN L)[i*2+1]? = some x.2
 | [],i,x,h=>by simp at h
 | a::L,0,x,h=>by simp at h;subst h;exact ⟨rfl,rfl⟩
 | a::L,i+1,x,h=>by
  have ih:=agK L i x (by simpa using h)
  have e:kN (a::L)=aD a.1::a.2::kN L:=rfl
  rw [e,show (i+1)*2=i*2+1+1 by omega]
  simpa using ih
theorem asq (L:List (Int×AV)):(kN L).length=L.length*2:=by
 induction L with
 | nil=>rfl
 | cons a L ih=>simp only [kN,List.flatMap_cons,List.length_append,List.length_cons,List.length_nil] at ih ⊢;omega
theorem agL (d:Array (Int×tR)) (i:Nat) (x:Int×tR) (h:d.toList[i]? = some x):(flatK jB 2 d)[i*2]? = some (.int .i64 x.1)∧(flatK jB 2 d)[i*2+1]? = some x.2.1:=by
 have hi:i < d.size:=by simpa using (List.getElem?_eq_some_iff.1 h).1
 have hx:d[i]! = x:=by
  rw [getElem!_pos d i hi]
  have:=(List.getElem?_eq_some_iff.1 h).2
  simpa using this
 constructor
 ·have h1:i*2 < d.size*2:=by omega
  have:=Go.Sort.get_flatK jB 2 d (i*2) h1
  rw [Nat.mul_div_cancel _ (by decide),Nat.mul_mod_left,hx] at this
  have hs:i*2 < (flatK jB 2 d).size:=by simp;omega
  have e:=getElem!_pos (flatK jB 2 d) (i*2) hs
  rw [e] at this
  rw [Array.getElem?_eq_getElem hs,this]
  rfl
 ·have h1:i*2+1 < d.size*2:=by omega
  have:=Go.Sort.get_flatK jB 2 d (i*2+1) h1
  rw [show (i*2+1) / 2=i by omega,show (i*2+1) % 2=1 by omega,hx] at this
  have hs:i*2+1 < (flatK jB 2 d).size:=by simp;omega
  have e:=getElem!_pos (flatK jB 2 d) (i*2+1) hs
  rw [e] at this
  rw [Array.getElem?_eq_getElem hs,this]
  rfl
theorem asr:ame:=by
 intro m b L hb hnd hlen hone
 refine ⟨by kernel_rfl,fun w I ρ vs hS hsz hv hfree => ?_⟩
 have hsz2:vs.size=2:=hsz
 obtain ⟨v0,hv0,h0⟩:=fY hv (j:=0) rfl
 obtain ⟨v1,hv1,h1⟩:=fY hv (j:=1) rfl
 simp only [VR] at h0 h1
 obtain ⟨g,o,cap,ty,n,s,hbg,rfl,⟨hc1,hc2⟩,_,hsh,hsz3,hfit⟩:=h0
 obtain ⟨caps,rfl,hcs,_⟩:=h1
 have hcaps:caps = #[]:=Array.eq_empty_of_size_eq_zero hcs
 subst hcaps
 have hvs:vs = #[.slice (some ⟨g,o+0,none⟩) L.length cap,.func (.func 323) #[] #[]]:=by
  apply Array.ext (by simpa using hsz2)
  intro i h1 h2
  have:i=0∨i=1:=by simp at h2;omega
  rcases this with rfl | rfl
  ·simp only [Array.getElem?_eq_getElem h1,Option.some.injEq] at hv0;simpa using hv0
  ·simp only [Array.getElem?_eq_getElem h1,Option.some.injEq] at hv1;simpa using hv1
 have hB:=hS.blk b _ g o hb hbg
 obtain ⟨arr,fr,hh,hcells⟩:=hB.cells
 simp only [reduceCtorEq,if_false] at hcells
 have hval:∀ i x,L[i]? = some x→arr[o+i*2]? = some (.int .i64 x.1)∧∃ u:tR,arr[o+(i*2+1)]? = some u.1∧VR Tryz.prog w I ρ x.2 u.1:=by
  intro i x hx
  obtain ⟨p1,p2⟩:=agK L i x hx
  obtain ⟨u1,q1,q2⟩:=fY hcells p1
  obtain ⟨u2,q3,q4⟩:=fY hcells p2
  simp only [aD,VR] at q2
  subst q2
  exact ⟨q1,⟨u2,hB.all1 rfl arr _ fr hh u2 (by simpa using Array.mem_of_getElem? q3)⟩,q3,q4⟩
 obtain ⟨V,hVl,hV⟩:∃ V:List (Int×tR),V.length=L.length∧∀ i x u,L[i]? = some x→V[i]? = some u→u.1=x.1∧(arr[o+i*2]? = some (.int .i64 x.1)∧arr[o+(i*2+1)]? = some u.2.1∧VR Tryz.prog w I ρ x.2 u.2.1):=by
  refine ⟨(List.range L.length).map fun i=>((L.getD i default).1,if h:(arr.getD (o+(i*2+1)) undef).oneCell'=true then ⟨_,h⟩ else default),by simp,fun i x u hx hu => ?_⟩
  have hi:=(List.getElem?_eq_some_iff.1 hx).1
  rw [List.getElem?_map,List.getElem?_range hi,Option.map_some,Option.some.injEq] at hu
  obtain ⟨h1,u',h2,h3⟩:=hval i x hx
  have e1:arr.getD (o+(i*2+1)) undef=u'.1:=by rw [Array.getD_eq_getD_getElem?,h2];rfl
  have e2:L.getD i default=x:=by rw [List.getD_eq_getElem?_getD,hx];rfl
  subst hu
  rw [e2]
  have e3:(if h:(arr.getD (o+(i*2+1)) undef).oneCell'=true then (⟨_,h⟩:tR) else default)=u':=by
   rw [dif_pos (by rw [e1];exact u'.2)]
   exact Subtype.ext e1
  rw [e3]
  exact ⟨rfl,h1,h2,h3⟩
 have hfl:∀ j,j < L.length*2→arr[o+j]? = (flatK jB 2 V.toArray)[j]? := by
  intro j hj
  obtain ⟨i,hi2⟩:∃ i,j=i*2∨j=i*2+1:=⟨j / 2,by omega⟩
  have hi:i < L.length:=by omega
  have h1:L[i]? = some L[i]:=List.getElem?_eq_getElem hi
  have h2:V[i]? = some (V[i]'(by omega)):=List.getElem?_eq_getElem (by omega)
  obtain ⟨a1,a2,a3,a4⟩:=hV i _ _ h1 h2
  obtain ⟨f1,f2⟩:=agL V.toArray i _ h2
  rcases hi2 with rfl | rfl
  ·rw [a2,f1,a1]
  ·rw [a3,f2]
 have hH:HoldsK jB 2 w g (o+0) V.toArray:=by
  intro j hj
  have hj2:j < L.length*2:=by simpa [hVl] using hj
  refine ⟨?_,hB.nostr rfl (by kernel_rfl) _⟩
  have hsz4:j < (flatK jB 2 V.toArray).size:=hj
  have e:=getElem!_pos (flatK jB 2 V.toArray) j hsz4
  rw [Nat.add_zero,cell_of_row _ _ _ _ _ _ hh,hfl j hj2,Array.getElem?_eq_getElem hsz4,e]
  rfl
 have hcon:=AnyQ.slices_SortFunc amh 2 Tryz.isAgg226 Tryz.sizeOf226 jB (fun _=>rfl) (fun x v hv=>by
  simp only [jB,List.mem_cons,List.not_mem_nil,or_false] at hv
  rcases hv with rfl | rfl
  ·rfl
  ·exact x.2.2) (fun x y=>Lib.compareInt y.1 x.1) asm 323 #[] g (o+0) cap V.toArray w (enters_of Tryz.func323 (by kernel_rfl) rfl) (fun _ _ _ _ x y=>asl x y _) hH (vC hh) (by simp [hVl];omega)
 change Calls Tryz.prog 322 _ _ _ at hcon
 have hVs:V.toArray.size=L.length:=by simpa using hVl
 rw [hVs] at hcon
 rw [hvs]
 refine hcon.mono ?_
 rintro en w' ⟨rfl,d',nd,os,hperm,hsorted,rfl⟩
 have hds:d'.size=L.length:=by rw [hperm.1,hVs]
 have hpm:d'.toList.Perm V:=by
  have h1:=hperm.2.2
  rw [←hds] at h1
  have e1:d'.extract 0 d'.size=d':=by simp
  have e2:V.toArray.extract 0 d'.size=V.toArray:=by rw [hds,←hVs];simp
  rw [e1,e2] at h1
  exact h1
 have hpw:d'.toList.Pairwise (fun a b=>¬ a.1 < b.1):=by
  rw [List.pairwise_iff_getElem]
  intro i j hi hj hij
  have hi':i < d'.size:=by simpa using hi
  have hj':j < d'.size:=by simpa using hj
  have h1:=hsorted i j (Nat.zero_le _) hij (by omega)
  rw [ltP,getElem!_pos d' i hi',getElem!_pos d' j hj'] at h1
  simpa using h1
 obtain ⟨hml,hmt⟩:=asn L V d'.toList (fun a u=>VR Tryz.prog w I ρ a u.1) hVl (fun i x u hx hu=>⟨(hV i x u hx hu).1,(hV i x u hx hu).2.2.2⟩) hnd hpm hpw
 have hSl:(lJ L).length=L.length:=(xZ L).length_eq
 have hworld:sortWorldK jB 2 w g (o+0) nd d' os=grow ((Go.Sort.ahead w nd).setCells g (o+0) (flatK jB 2 d').toList) os:=by
  have hsc:=setCells_putRow (Go.Sort.ahead w nd) g (o+0) (flatK jB 2 d').toList 0 (flatK jB 2 V.toArray) (by simp [hds,hVl])
  have hself:putRow id (Go.Sort.ahead w nd) g (o+0) (flatK jB 2 V.toArray)=Go.Sort.ahead w nd:=putRow_self id (Go.Sort.ahead w nd) g (o+0) _ hH
  rw [hself,Nat.add_zero] at hsc
  unfold sortWorldK putRowK
  rw [Nat.add_zero,hsc]
  congr 2
  refine (Go.Sort.ext_get! (by simp [hds,hVl]) fun t ht => ?_).symm
  have ht2:t < (flatK jB 2 V.toArray).size:=by simpa using ht
  have ht3:t < (flatK jB 2 d').size:=by simp [hds,hVl] at ht2 ⊢;exact ht2
  rw [Go.Sort.get_setMany _ _ _ t ht2,if_pos ⟨Nat.zero_le _,by simpa using ht3⟩,Nat.sub_zero,getElem!_pos (flatK jB 2 d').toList t (by simpa using ht3),getElem!_pos (flatK jB 2 d') t ht3]
  simp
 rw [hworld]
 have S1:SR Tryz.prog (Go.Sort.ahead w nd) I ρ m:=aso hS rfl
 have hn:o+L.length*2≤arr.size:=by
  by_cases h0:L.length=0
  ·rw [lO hh] at hsh
   cases hsh
   rw [h0]
   have:=hfit
   generalize cap*s=q at this
   omega
  ·have h1:L[L.length - 1]? = some (L[L.length - 1]'(by omega)):=List.getElem?_eq_getElem (by omega)
   obtain ⟨_,u,h2,_⟩:=hval _ _ h1
   have:=(Array.getElem?_eq_some_iff.1 h2).1
   omega
 obtain ⟨S2,T2⟩:=wV (k':=⟨kN (lJ L),226,.var,true⟩) S1 hb rfl hbg (vs:=(flatK jB 2 d').toList) (p:=o+0) ⟨rfl,rfl,fun c hc=>by
  unfold kN at hc
  obtain ⟨x,hx,hc⟩:=List.mem_flatMap.1 hc
  rw [List.mem_cons,List.mem_singleton] at hc
  rcases hc with rfl | rfl
  ·rfl
  ·exact hone x ((xZ L).mem_iff.1 hx)⟩ (fun v hv=>by
  obtain ⟨j,hj⟩:=List.getElem?_of_mem hv
  rw [Array.getElem?_toList] at hj
  have hjs:=(Array.getElem?_eq_some_iff.1 hj).1
  have hj2:j < L.length*2:=by simpa [hds] using hjs
  obtain ⟨i,hi2⟩:∃ i,j=i*2∨j=i*2+1:=⟨j / 2,by omega⟩
  have hi:i < d'.toList.length:=by simp [hds];omega
  obtain ⟨f1,f2⟩:=agL d' i _ (List.getElem?_eq_getElem hi)
  rcases hi2 with rfl | rfl
  ·rw [f1] at hj;cases hj;rfl
  ·rw [f2] at hj;cases hj;exact (d'.toList[i]).2.2) (fun arr0 fr0 e0 _ arr' e1 e2=>by
  have e0':w.heap[g]? = some (.cells arr0 226 fr0):=e0
  rw [hh] at e0'
  cases e0'
  simp only [reduceCtorEq,if_false]
  refine j2.2 fun j c hj => ?_
  have hjl:j < L.length*2:=by
   have:=(List.getElem?_eq_some_iff.1 hj).1
   rw [asq,hSl] at this
   exact this
  have hfs:(flatK jB 2 d').toList.length=L.length*2:=by simp [hds]
  have hget:arr'[o+j]? = (flatK jB 2 d')[j]? := by
   rw [e2,if_pos ⟨by omega,by omega,by omega⟩,show o+j - (o+0)=j by omega,Array.getElem?_toList]
  obtain ⟨i,hi2⟩:∃ i,j=i*2∨j=i*2+1:=⟨j / 2,by omega⟩
  have hiS:i < (lJ L).length:=by omega
  have hiD:i < d'.toList.length:=by simp [hds];omega
  have hx:(lJ L)[i]? = some (lJ L)[i]:=List.getElem?_eq_getElem hiS
  have hu:d'.toList[i]? = some d'.toList[i]:=List.getElem?_eq_getElem hiD
  obtain ⟨m1,m2⟩:=hmt i _ _ hx hu
  obtain ⟨p1,p2⟩:=agK (lJ L) i _ hx
  obtain ⟨f1,f2⟩:=agL d' i _ hu
  have hkeep:gT w (Go.Sort.ahead w nd) I I:=⟨fun _ h=>h,fun _ _=>rfl,fun _ _ h=>h⟩
  rcases hi2 with rfl | rfl
  ·rw [p1] at hj
   cases hj
   refine ⟨_,by rw [hget,f1], ?_⟩
   simp only [aD,VR,m1]
  ·rw [p2] at hj
   cases hj
   exact ⟨_,by rw [hget,f2],pP hkeep (fun _ _ h=>h) _ _ m2⟩)
 obtain ⟨S3,T3⟩:=asp S2 os
 have T1:cP w I ρ m (Go.Sort.ahead w nd) I ρ m:=⟨rfl,rfl,rfl,Nat.le_refl _,fun _ _ _=>rfl,fun _ _ h=>h,fun _ h=>h,fun _ h => .inl h,fun _ _ h=>h,fun b h1 h2=>absurd h1 h2,fun _ h => .inl h,Nat.le_refl _⟩
 exact ⟨.tuple #[],eE,_,I,ρ,rfl,⟨rfl,rfl⟩,by simp only [eE,VR],S3,T1.trans (T2.trans T3),hfree⟩
end Go.Proofs.YtaekhhlgnbhnpaaGreat