import Derived.Test.YtaekhhlgnbhnpaaGreatQmcG16
import Derived.Shelf.SlSortCmp.WholeK
import Derived.Shelf.SlicesG.Cmp
set_option linter.unusedVariables false
set_option linter.unusedSimpArgs false
set_option maxRecDepth 10000
open Go.Proofs.Tryz
open Array renaming getElem?_eq_getElem→azn,getElem?_eq_some_iff→azB,getElem?_toList→aAl
open Go.Lib renaming compareInt→aBB
open Go.Proofs.Tryz renaming prog→ayU
open Go.Sort renaming ahead→aBE
open List renaming getElem?_map→azo,getElem?_eq_getElem→azm,getElem?_eq_none→ay6,pairwise_map→aBz,mem_of_getElem?→az8,getElem?_of_mem→aBj,getElem?_eq_some_iff→ay8,pairwise_iff_getElem→aBv,getElem_map→aBC
open Nat renaming le_refl→aza,add_zero→aBD
open Option renaming map_some→az6
open Option.some renaming injEq→ay0
namespace Go.Proofs.YtaekhhlgnbhnpaaGreat
open Go Go.Proofs Go.Shelf Go.RowKit Go.Lib Go.Sort
def aud:Go.Shelf.Ren:=⟨fun | 6=>322 | 15=>219 | 14=>342 | 28=>284 | 29=>285 | 20=>352 | 21=>353 | 22=>354 | 23=>355 | 24=>356 | 25=>357 | 26=>358 | 27=>359 | 46=>360 | 47=>315 | 48=>316 | 49=>361 | 50=>362 | 57=>363 | n=>n,fun | 22=>223 | 24=>226 | 25=>333 | 3=>3 | 39=>235 | 0=>0 | 53=>294 | 55=>296 | 4=>4 | 46=>287 | 45=>286 | 50=>238 | 5=>5 | 9=>9 | 66=>324 | 70=>328 | 76=>347 | 77=>149 | n=>n,fun | n=>n⟩
theorem anz:Go.Proofs.SlLaysF0.n6 ayU aud:={
 mixed:=by kernel_rfl
 f6:=⟨Tryz.f322.name,by decide,Tryz.func322.trans (congrArg some (by kernel_rfl))⟩
 f14:=⟨Tryz.f342.name,by decide,Tryz.func342.trans (congrArg some (by kernel_rfl))⟩
 f15:=Tryz.func219.trans (congrArg some (by kernel_rfl))
 f20:=⟨Tryz.f352.name,by decide,Tryz.func352.trans (congrArg some (by kernel_rfl))⟩
 f21:=⟨Tryz.f353.name,by decide,Tryz.func353.trans (congrArg some (by kernel_rfl))⟩
 f22:=⟨Tryz.f354.name,by decide,Tryz.func354.trans (congrArg some (by kernel_rfl))⟩
 f23:=⟨Tryz.f355.name,by decide,Tryz.func355.trans (congrArg some (by kernel_rfl))⟩
 f24:=⟨Tryz.f356.name,by decide,Tryz.func356.trans (congrArg some (by kernel_rfl))⟩
 f25:=⟨Tryz.f357.name,by decide,Tryz.func357.trans (congrArg some (by kernel_rfl))⟩
 f26:=⟨Tryz.f358.name,by decide,Tryz.func358.trans (congrArg some (by kernel_rfl))⟩
 f27:=⟨Tryz.f359.name,by decide,Tryz.func359.trans (congrArg some (by kernel_rfl))⟩
 f28:=Tryz.func284.trans (congrArg some (by kernel_rfl))
 f29:=Tryz.func285.trans (congrArg some (by kernel_rfl))
 f46:=⟨Tryz.f360.name,by decide,Tryz.func360.trans (congrArg some (by kernel_rfl))⟩
 f47:=Tryz.func315.trans (congrArg some (by kernel_rfl))
 f48:=Tryz.func316.trans (congrArg some (by kernel_rfl))
 f49:=⟨Tryz.f361.name,by decide,Tryz.func361.trans (congrArg some (by kernel_rfl))⟩
 f50:=⟨Tryz.f362.name,by decide,Tryz.func362.trans (congrArg some (by kernel_rfl))⟩
 f57:=⟨Tryz.f363.name,by decide,Tryz.func363.trans (congrArg some (by kernel_rfl))⟩
 t0:=Tryz.underlying0
 a0:=Tryz.isAgg0
 z0:=Tryz.sizeOf0
 v0:=Tryz.zeroValue0
 t3:=Tryz.underlying3
 a3:=Tryz.isAgg3
 z3:=Tryz.sizeOf3
 v3:=Tryz.zeroValue3
 t4:=Tryz.underlying4
 a4:=Tryz.isAgg4
 z4:=Tryz.sizeOf4
 v4:=Tryz.zeroValue4
 t5:=Tryz.underlying5
 a5:=Tryz.isAgg5
 z5:=Tryz.sizeOf5
 v5:=Tryz.zeroValue5
 t9:=Tryz.underlying9
 a9:=Tryz.isAgg9
 z9:=Tryz.sizeOf9
 v9:=Tryz.zeroValue9
 t22:=Tryz.underlying223
 a22:=Tryz.isAgg223
 z22:=Tryz.sizeOf223
 v22:=Tryz.zeroValue223
 t25:=Tryz.underlying333
 a25:=Tryz.isAgg333
 z25:=Tryz.sizeOf333
 v25:=Tryz.zeroValue333
 t39:=Tryz.underlying235
 a39:=Tryz.isAgg235
 z39:=Tryz.sizeOf235
 v39:=Tryz.zeroValue235
 t45:=Tryz.underlying286
 a45:=Tryz.isAgg286
 z45:=Tryz.sizeOf286
 v45:=Tryz.zeroValue286
 t46:=Tryz.underlying287
 a46:=Tryz.isAgg287
 z46:=Tryz.sizeOf287
 v46:=Tryz.zeroValue287
 t50:=Tryz.underlying238
 a50:=Tryz.isAgg238
 z50:=Tryz.sizeOf238
 v50:=Tryz.zeroValue238
 t53:=Tryz.underlying294
 a53:=Tryz.isAgg294
 z53:=Tryz.sizeOf294
 v53:=Tryz.zeroValue294
 t55:=Tryz.underlying296
 a55:=Tryz.isAgg296
 z55:=Tryz.sizeOf296
 v55:=Tryz.zeroValue296
 t66:=Tryz.underlying324
 a66:=Tryz.isAgg324
 z66:=Tryz.sizeOf324
 v66:=Tryz.zeroValue324
 t70:=Tryz.underlying328
 a70:=Tryz.isAgg328
 z70:=Tryz.sizeOf328
 v70:=Tryz.zeroValue328
 t76:=Tryz.underlying347
 a76:=Tryz.isAgg347
 z76:=Tryz.sizeOf347
 v76:=Tryz.zeroValue347
 t77:=Tryz.underlying149
 a77:=Tryz.isAgg149
 z77:=Tryz.sizeOf149
 v77:=Tryz.zeroValue149 }
def aue:Go.Shelf.Ren:=⟨fun | 5=>324 | 7=>319 | n=>n,fun | 22=>3 | 3=>3 | 4=>4 | n=>n,fun | n=>n⟩
theorem auf:Go.Proofs.SlLaysC2.n5 ayU aue:={
 mixed:=by kernel_rfl
 f5:=⟨Tryz.f324.name,by decide,Tryz.func324.trans (congrArg some (by kernel_rfl))⟩
 f7:=⟨Tryz.f319.name,by decide,Tryz.func319.trans (congrArg some (by kernel_rfl))⟩
 t3:=Tryz.underlying3
 a3:=Tryz.isAgg3
 z3:=Tryz.sizeOf3
 v3:=Tryz.zeroValue3
 t4:=Tryz.underlying4
 a4:=Tryz.isAgg4
 z4:=Tryz.sizeOf4
 v4:=Tryz.zeroValue4
 t22:=Tryz.underlying3
 a22:=Tryz.isAgg3
 z22:=Tryz.sizeOf3
 v22:=Tryz.zeroValue3 }
abbrev vV:={v:Value // v.oneCell'=true}
instance:Inhabited vV:=⟨⟨.bool false,rfl⟩⟩
def jU (x:Int×vV):List Value:=[.int .i64 x.1,x.2.1]
theorem aug (x y:Int×vV) (W:World):Calls ayU 323 #[.agg #[.int .i64 x.1,x.2.1],.agg #[.int .i64 y.1,y.2.1]] W fun e w'=>e = .returned (.int .i64 (aBB y.1 x.1))∧∃ q b,w'=grow (W.drewN q) b:=by
 have a:=fun c=>AnyG.cmp_Compare_int auf y.1 x.1 c
 change ∀ c,Calls ayU 324 _ _ _ at a;generalize aBB y.1 x.1=r at a ⊢
 go_enter Tryz.func323,Tryz.ntmps323
 go_wp2_with (go_at_call 324;refine (a _).mono ?_;rintro e w' ⟨rfl,rfl⟩)
 go_ret
 exact ⟨rfl,0,_,by rw [alloc_eq_grow,alloc_eq_grow,grow_grow];rfl⟩
end Go.Proofs.YtaekhhlgnbhnpaaGreat
namespace Go.Proofs.YtaekhhlgnbhnpaaGreat
open Go Go.Tw Go.Proofs
open Go.Sort
theorem ltP (x y:Int×vV):ltOf (fun x y:Int×vV=>aBB y.1 x.1) x y=decide (y.1 < x.1):=by
 unfold ltOf aBB;by_cases a:y.1 < x.1
 ·simp [a]
 ·by_cases b:x.1 < y.1 <;> simp [a,b]
theorem auh:SWO (ltOf fun x y:Int×vV=>aBB y.1 x.1) where
 irrefl x:=by rw [ltP];simp
 trans x y z h1 h2:=by rw [ltP] at *;simp at *;omega
 ntrans x y z h1 h2:=by rw [ltP] at *;simp at *;omega
theorem aui {β:Type} (L:List (Int×AV)) (V c:List (Int×β)) (R:AV→β→Prop) (C:V.length=L.length) (E:∀ (i:Nat) (x:Int×AV) (u:Int×β),L[i]? = some x→V[i]? = some u→u.1=x.1∧R x.2 u.2) (l:(L.map (·.1)).Nodup) (f:c.Perm V) (hs:c.Pairwise (fun a b=>¬ a.1 < b.1)) :
 c.length=(mB L).length∧∀ (i:Nat) (x:Int×AV) (u:Int×β),(mB L)[i]? = some x→c[i]? = some u→u.1=x.1∧R x.2 u.2:=by
 have q:V.map (·.1)=L.map (·.1):=by
  apply List.ext_getElem?;intro i;rw [azo,azo];by_cases hi:i < L.length
  ·have t:L[i]? = some L[i]:=azm hi;have m:V[i]? = some (V[i]'(by omega)):=azm (by omega);rw [t,m];simp [(E i _ _ t m).1]
  ·rw [ay6 (by omega),ay6 (by omega)];rfl
 have r:c.length=(mB L).length:=by rw [f.length_eq,C,(aal L).length_eq]
 have n:(c.map (·.1)).Nodup:=by
  rw [(f.map (·.1)).nodup_iff,q];exact l
 have A:(c.map (·.1)).Pairwise (· > ·):=by
  rw [aBz];have m:=aBz.1 n;exact (hs.and m).imp fun {a b} h=>by
   have:=h.1;have I:=h.2;omega
 have d:c.map (·.1)=(mB L).map (·.1):=ahO (hs:=[]) (top:=0) A (aBz.2 (ahU L l)) fun v=>by
  rw [(f.map (·.1)).mem_iff,q,((aal L).map (·.1)).mem_iff]
 refine ⟨r,fun i x u D F => ?_⟩;have G:u.1=x.1:=by
  have:=congrArg (·[i]?) d;simp only [azo,D,F,az6,ay0] at this;exact this
 refine ⟨G, ?_⟩;have H:u∈V:=f.mem_iff.1 (az8 F);obtain ⟨j,B⟩:=aBj H;have g:j < L.length:=by rw [←C];exact (ay8.1 B).1
 have z:L[j]? = some L[j]:=azm g;obtain ⟨t,m⟩:=E j _ _ z B;have y:x∈L:=(aal L).mem_iff.1 (az8 D);have:x=L[j]:=by
  obtain ⟨k,w⟩:=aBj y;obtain ⟨o,s⟩:=ay8.1 w;have f:=aBv.1 l;have e:(L[k]).1=(L[j]).1:=by rw [s,←G,t]
  rcases Nat.lt_trichotomy j k with p | p | p
  ·exact absurd (by rw [aBC,aBC];exact e.symm) (f j k (by simpa using g) (by simpa using o) p)
  ·subst p;exact s.symm
  ·exact absurd (by rw [aBC,aBC];exact e) (f k j (by simpa using o) (by simpa using g) p)
 rw [this];exact m
section
variable {P:Program} {w:World} {I:Nat→Prop} {ρ:cA} {m:aF}
theorem auj (a:SR P w I ρ m) {w':World} (h:w'.heap=w.heap):SR P w' I ρ m:=by
 have e:iL w w' I I:=⟨fun _ h=>h,fun g _=>by rw [h],fun g x f=>by unfold World.shape? at *;rw [h];exact f⟩
 exact ⟨fun b k g o d c=>tY e (fun _ _ h=>h) (a.blk b k g o d c) (by rw [h]) (fun j=>((a.blk b k g o d c).wr j).1),a.inj,fun g i=>by rw [h];exact a.lt g i,a.mms.keep e (fun _ _ h=>h) (fun g _=>⟨by rw [h],fun h=>h⟩)⟩
theorem adz {w:World} {a:Array Obj} {g:Nat} (b:g < w.heap.size):(grow w a).heap[g]? = w.heap[g]? := by
 show (w.heap++a)[g]? = _;rw [Array.getElem?_append_left b]
theorem auk (a:SR P w I ρ m) (d:Array Obj):SR P (grow w d) I ρ m∧cM w I ρ m (grow w d) I ρ m:=by
 have j:iL w (grow w d) I I:=⟨fun _ h=>h,fun g c=>adz (a.lt g c),fun g x l=>by rw [xW (adz (acP l))];exact l⟩
 have e:w.heap.size≤(grow w d).heap.size:=by show _≤(w.heap++d).size;simp
 refine ⟨⟨fun b k g o i f=>tY j (fun _ _ h=>h) (a.blk b k g o i f) (adz (a.ltb i f)) (fun n=>((a.blk b k g o i f).wr n).1),a.inj,fun g c=>Nat.lt_of_lt_of_le (a.lt g c) e,a.mms.keep j (fun _ _ h=>h) (fun g c=>⟨adz (a.mms.lt c),fun h=>h⟩)⟩,⟨rfl,rfl,rfl,e,fun g c _=>adz c,j.shape,fun _ h=>h,fun _ h => .inl h,fun _ _ h=>h,fun b i f=>absurd i f,fun _ h => .inl h,aza _⟩⟩
end
theorem ahW:∀ (L:List (Int×AV)) (i:Nat) (x:Int×AV),L[i]? = some x→(lN L)[i*2]? = some (aB x.1)∧(lN L)[i*2+1]? = some x.2
 | [],i,x,h=>by simp at h
 | a::L,0,x,h=>by simp at h;subst h;exact ⟨rfl,rfl⟩
 | a::L,i+1,x,h=>by
  have b:=ahW L i x (by simpa using h);have e:lN (a::L)=aB a.1::a.2::lN L:=rfl;rw [e,show (i+1)*2=i*2+1+1 by omega];simpa using b
theorem aul (L:List (Int×AV)):(lN L).length=L.length*2:=by
 induction L with
 | nil=>rfl
 | cons a L b=>simp only [List.flatMap_cons,zak,lN,List.length_append] at b ⊢;omega
theorem ahX (d:Array (Int×vV)) (i:Nat) (x:Int×vV) (h:d.toList[i]? = some x):(flatK jU 2 d)[i*2]? = some (.int .i64 x.1)∧(flatK jU 2 d)[i*2+1]? = some x.2.1:=by
 have hi:i < d.size:=by simpa using (ay8.1 h).1
 have b:d[i]! = x:=by
  rw [getElem!_pos d i hi];have:=(ay8.1 h).2;simpa using this
 constructor
 ·have a:i*2 < d.size*2:=by omega
  have:=Go.Sort.get_flatK jU 2 d (i*2) a;rw [Nat.mul_div_cancel _ (by decide),Nat.mul_mod_left,b] at this;have hs:i*2 < (flatK jU 2 d).size:=by simp;omega
  have e:=getElem!_pos (flatK jU 2 d) (i*2) hs;rw [e] at this;rw [azn hs,this];rfl
 ·have a:i*2+1 < d.size*2:=by omega
  have:=Go.Sort.get_flatK jU 2 d (i*2+1) a;rw [show (i*2+1) / 2=i by omega,show (i*2+1) % 2=1 by omega,b] at this;have hs:i*2+1 < (flatK jU 2 d).size:=by simp;omega
  have e:=getElem!_pos (flatK jU 2 d) (i*2+1) hs;rw [e] at this;rw [azn hs,this];rfl
theorem aum:anv:=by
 intro m b L hb c9 d0 b2;refine ⟨by kernel_rfl,fun w I ρ vs hS c3 Q S => ?_⟩;have a9:vs.size=2:=c3;obtain ⟨v0,a6,h0⟩:=gW Q (j:=0) rfl;obtain ⟨v1,a5,f⟩:=gW Q (j:=1) rfl;simp only [VR] at h0 f;obtain ⟨g,o,cap,ty,n,s,X,rfl,⟨d6,d3⟩,_,b1,d1,Z⟩:=h0;obtain ⟨a8,rfl,b4,_⟩:=f;have U:a8 = #[]:=Array.eq_empty_of_size_eq_zero b4;subst U;have b9:vs = #[.slice (some ⟨g,o+0,none⟩) L.length cap,.func (.func 323) #[] #[]]:=by
  apply Array.ext (by simpa using a9);intro i f E;have:i=0∨i=1:=by simp at E;omega
  rcases this with rfl | rfl
  ·simp only [azn f,ay0] at a6;simpa using a6
  ·simp only [azn f,ay0] at a5;simpa using a5
 have hB:=hS.blk b _ g o hb X;obtain ⟨arr,fr,hh,k⟩:=hB.cells;simp only [reduceCtorEq,if_false] at k;have J:∀ i x,L[i]? = some x→arr[o+i*2]? = some (.int .i64 x.1)∧∃ u:vV,arr[o+(i*2+1)]? = some u.1∧VR ayU w I ρ x.2 u.1:=by
  intro i x A;obtain ⟨p1,p2⟩:=ahW L i x A;obtain ⟨u1,q1,q2⟩:=gW k p1;obtain ⟨u2,q3,q4⟩:=gW k p2;simp only [aB,VR] at q2;subst q2;exact ⟨q1,⟨u2,hB.all1 rfl arr _ fr hh u2 (by simpa using Array.mem_of_getElem? q3)⟩,q3,q4⟩
 obtain ⟨V,z,hV⟩:∃ V:List (Int×vV),V.length=L.length∧∀ i x u,L[i]? = some x→V[i]? = some u→u.1=x.1∧(arr[o+i*2]? = some (.int .i64 x.1)∧arr[o+(i*2+1)]? = some u.2.1∧VR ayU w I ρ x.2 u.2.1):=by
  refine ⟨(List.range L.length).map fun i=>((L.getD i default).1,if h:(arr.getD (o+(i*2+1)) undef).oneCell'=true then ⟨_,h⟩ else default),by simp,fun i x u A M => ?_⟩;have hi:=(ay8.1 A).1;rw [azo,List.getElem?_range hi,az6,ay0] at M;obtain ⟨f,u',E,h3⟩:=J i x A;have e1:arr.getD (o+(i*2+1)) undef=u'.1:=by rw [Array.getD_eq_getD_getElem?,E];rfl
  have e2:L.getD i default=x:=by rw [List.getD_eq_getElem?_getD,A];rfl
  subst M;rw [e2];have e3:(if h:(arr.getD (o+(i*2+1)) undef).oneCell'=true then (⟨_,h⟩:vV) else default)=u':=by
   rw [dif_pos (by rw [e1];exact u'.2)];exact Subtype.ext e1
  rw [e3];exact ⟨rfl,f,E,h3⟩
 have b7:∀ j,j < L.length*2→arr[o+j]? = (flatK jU 2 V.toArray)[j]? := by
  intro j r;obtain ⟨i,B⟩:∃ i,j=i*2∨j=i*2+1:=⟨j / 2,by omega⟩
  have hi:i < L.length:=by omega
  have f:L[i]? = some L[i]:=azm hi;have E:V[i]? = some (V[i]'(by omega)):=azm (by omega);obtain ⟨a1,a2,a3,a4⟩:=hV i _ _ f E;obtain ⟨f1,f2⟩:=ahX V.toArray i _ E;rcases B with rfl | rfl
  ·rw [a2,f1,a1]
  ·rw [a3,f2]
 have hH:HoldsK jU 2 w g (o+0) V.toArray:=by
  intro j r;have a7:j < L.length*2:=by simpa [z] using r
  refine ⟨?_,hB.nostr rfl (by kernel_rfl) _⟩;have H:j < (flatK jU 2 V.toArray).size:=r;have e:=getElem!_pos (flatK jU 2 V.toArray) j H;rw [aBD,cell_of_row _ _ _ _ _ _ hh,b7 j a7,azn H,e];rfl
 have C:=AnyQ.slices_SortFunc anz 2 Tryz.isAgg226 Tryz.sizeOf226 jU (fun _=>rfl) (fun x v Q=>by
  simp only [jU,List.mem_cons,List.not_mem_nil,or_false] at Q;rcases Q with rfl | rfl
  ·rfl
  ·exact x.2.2) (fun x y=>aBB y.1 x.1) auh 323 #[] g (o+0) cap V.toArray w (enters_of Tryz.func323 (by kernel_rfl) rfl) (fun _ _ _ _ x y=>aug x y _) hH (zI hh) (by simp [z];omega)
 change Calls ayU 322 _ _ _ at C;have T:V.toArray.size=L.length:=by simpa using z
 rw [T] at C;rw [b9];refine C.mono ?_;rintro en w' ⟨rfl,d,nd,os,F,D,rfl⟩;have l:d.size=L.length:=by rw [F.1,T]
 have c1:d.toList.Perm V:=by
  have f:=F.2.2;rw [←l] at f;have e1:d.extract 0 d.size=d:=by simp
  have e2:V.toArray.extract 0 d.size=V.toArray:=by rw [l,←T];simp
  rw [e1,e2] at f;exact f
 have b8:d.toList.Pairwise (fun a b=>¬ a.1 < b.1):=by
  rw [aBv];intro i j hi r b6;have c8:i < d.size:=by simpa using hi
  have c5:j < d.size:=by simpa using r
  have f:=D i j (Nat.zero_le _) b6 (by omega);rw [ltP,getElem!_pos d i c8,getElem!_pos d j c5] at f;simpa using f
 obtain ⟨d2,c7⟩:=aui L V d.toList (fun a u=>VR ayU w I ρ a u.1) z (fun i x u A M=>⟨(hV i x u A M).1,(hV i x u A M).2.2.2⟩) c9 c1 b8;have c6:(mB L).length=L.length:=(aal L).length_eq;have G:sortWorldK jU 2 w g (o+0) nd d os=grow ((aBE w nd).setCells g (o+0) (flatK jU 2 d).toList) os:=by
  have W:=setCells_putRow (aBE w nd) g (o+0) (flatK jU 2 d).toList 0 (flatK jU 2 V.toArray) (by simp [l,z]);have N:putRow id (aBE w nd) g (o+0) (flatK jU 2 V.toArray)=aBE w nd:=putRow_self id (aBE w nd) g (o+0) _ hH;rw [N,aBD] at W;unfold sortWorldK putRowK;rw [aBD,W];congr 2;refine (Go.Sort.ext_get! (by simp [l,z]) fun t ht => ?_).symm;have P:t < (flatK jU 2 V.toArray).size:=by simpa using ht
  have R:t < (flatK jU 2 d).size:=by simp [l,z] at P ⊢;exact P
  rw [Go.Sort.get_setMany _ _ _ t P,if_pos ⟨Nat.zero_le _,by simpa using R⟩,Nat.sub_zero,getElem!_pos (flatK jU 2 d).toList t (by simpa using R),getElem!_pos (flatK jU 2 d) t R];simp
 rw [G];have S1:SR ayU (aBE w nd) I ρ m:=auj hS rfl;have hn:o+L.length*2≤arr.size:=by
  by_cases h0:L.length=0
  ·rw [mJ hh] at b1;cases b1;rw [h0];have:=Z;generalize cap*s=q at this;omega
  ·have f:L[L.length - 1]? = some (L[L.length - 1]'(by omega)):=azm (by omega);obtain ⟨_,u,E,_⟩:=J _ _ f;have:=(azB.1 E).1;omega
 obtain ⟨S2,T2⟩:=aaK (k':=⟨lN (mB L),226,.var,true⟩) S1 hb rfl X (vs:=(flatK jU 2 d).toList) (p:=o+0) ⟨rfl,rfl,fun c Y=>by
  unfold lN at Y;obtain ⟨x,A,Y⟩:=List.mem_flatMap.1 Y;rw [List.mem_cons,List.mem_singleton] at Y;rcases Y with rfl | rfl
  ·rfl
  ·exact b2 x ((aal L).mem_iff.1 A)⟩ (fun v Q=>by
  obtain ⟨j,r⟩:=aBj Q;rw [aAl] at r;have c2:=(azB.1 r).1;have a7:j < L.length*2:=by simpa [l] using c2
  obtain ⟨i,B⟩:∃ i,j=i*2∨j=i*2+1:=⟨j / 2,by omega⟩
  have hi:i < d.toList.length:=by simp [l];omega
  obtain ⟨f1,f2⟩:=ahX d i _ (azm hi);rcases B with rfl | rfl
  ·rw [f1] at r;cases r;rfl
  ·rw [f2] at r;cases r;exact (d.toList[i]).2.2) (fun b0 c4 e0 _ b3 e1 e2=>by
  have a0:w.heap[g]? = some (.cells b0 226 c4):=e0;rw [hh] at a0;cases a0;simp only [reduceCtorEq,if_false];refine lG.2 fun j c r => ?_
  have d4:j < L.length*2:=by
   have:=(ay8.1 r).1;rw [aul,c6] at this;exact this
  have d5:(flatK jU 2 d).toList.length=L.length*2:=by simp [l]
  have K:b3[o+j]? = (flatK jU 2 d)[j]? := by
   rw [e2,if_pos ⟨by omega,by omega,by omega⟩,show o+j - (o+0)=j by omega,aAl]
  obtain ⟨i,B⟩:∃ i,j=i*2∨j=i*2+1:=⟨j / 2,by omega⟩
  have b5:i < (mB L).length:=by omega
  have c0:i < d.toList.length:=by simp [l];omega
  have A:(mB L)[i]? = some (mB L)[i]:=azm b5;have M:d.toList[i]? = some d.toList[i]:=azm c0;obtain ⟨m1,m2⟩:=c7 i _ _ A M;obtain ⟨p1,p2⟩:=ahW (mB L) i _ A;obtain ⟨f1,f2⟩:=ahX d i _ M;have O:iL w (aBE w nd) I I:=⟨fun _ h=>h,fun _ _=>rfl,fun _ _ h=>h⟩
  rcases B with rfl | rfl
  ·rw [p1] at r;cases r;refine ⟨_,by rw [K,f1], ?_⟩;simp only [aB,VR,m1]
  ·rw [p2] at r;cases r;exact ⟨_,by rw [K,f2],rI O (fun _ _ h=>h) _ _ m2⟩)
 obtain ⟨S3,T3⟩:=auk S2 os;have T1:cM w I ρ m (aBE w nd) I ρ m:=⟨rfl,rfl,rfl,aza _,fun _ _ _=>rfl,fun _ _ h=>h,fun _ h=>h,fun _ h => .inl h,fun _ _ h=>h,fun b f E=>absurd f E,fun _ h => .inl h,aza _⟩
 exact ⟨.tuple #[],eI,_,I,ρ,rfl,⟨rfl,rfl⟩,by simp only [eI,VR],S3,T1.trans (T2.trans T3),S⟩
end Go.Proofs.YtaekhhlgnbhnpaaGreat