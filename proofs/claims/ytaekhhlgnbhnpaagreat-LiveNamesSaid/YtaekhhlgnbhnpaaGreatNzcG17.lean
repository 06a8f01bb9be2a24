import Derived.Test.YtaekhhlgnbhnpaaGreatNzcG16
import Derived.Shelf.SlSortCmp.WholeK
import Derived.Shelf.SlicesG.Cmp
set_option linter.unusedVariables false
set_option linter.unusedSimpArgs false
set_option maxRecDepth 10000
open Go.Proofs.Tryz
open Array renaming getElem?_eq_getElem→azk,getElem?_eq_some_iff→azy,getElem?_toList→aAi
open Go.Lib renaming compareInt→aBy
open Go.Proofs.Tryz renaming prog→ayS
open Go.Sort renaming ahead→aBB
open List renaming getElem?_map→azl,getElem?_eq_getElem→azj,getElem?_eq_none→ay3,pairwise_map→aBw,mem_of_getElem?→az5,getElem?_of_mem→aBg,getElem?_eq_some_iff→ay5,pairwise_iff_getElem→aBs,getElem_map→aBz
open Nat renaming le_refl→ay7,add_zero→aBA
open Option renaming map_some→az3
open Option.some renaming injEq→ayX
namespace Go.Proofs.YtaekhhlgnbhnpaaGreat
open Go Go.Proofs Go.Shelf Go.RowKit Go.Lib Go.Sort
def atC:Go.Shelf.Ren:=⟨fun | 6=>322 | 15=>219 | 14=>342 | 28=>284 | 29=>285 | 20=>352 | 21=>353 | 22=>354 | 23=>355 | 24=>356 | 25=>357 | 26=>358 | 27=>359 | 46=>360 | 47=>315 | 48=>316 | 49=>361 | 50=>362 | 57=>363 | n=>n,fun | 22=>223 | 24=>226 | 25=>333 | 3=>3 | 39=>235 | 0=>0 | 53=>294 | 55=>296 | 4=>4 | 46=>287 | 45=>286 | 50=>238 | 5=>5 | 9=>9 | 66=>324 | 70=>328 | 76=>347 | 77=>149 | n=>n,fun | n=>n⟩
theorem anf:Go.Proofs.SlLaysF0.n6 ayS atC:={
 mixed:=by kernel_rfl
 f6:=⟨Tryz.f322.name,by decide,Tryz.func322.trans (congrArg some (by kernel_rfl))⟩
 f14:=⟨Tryz.f342.name,by decide,Tryz.func342.trans (congrArg some (by kernel_rfl))⟩
 f15:=Tryz.func219.trans (congrArg some (by kernel_rfl))
 f20:=⟨Tryz.f352.name,by decide,Tryz.func352.trans (congrArg some (by kernel_rfl))⟩
 f21:=⟨Tryz.f353.name,by decide,Tryz.func353.trans (congrArg some (by kernel_rfl))⟩
 f22:=⟨Tryz.f354.name,by decide,Tryz.func354.trans (congrArg some (by kernel_rfl))⟩
 f23:=⟨Tryz.f355.name,by decide,Tryz.func355.trans (congrArg some (by kernel_rfl))⟩
 f24:=⟨Tryz.f356.name,by decide,Tryz.func356.trans (congrArg some (by kernel_rfl))⟩
 f25:=⟨Tryz.f357.name,by decide,Tryz.func357.trans (congrArg some (by kernel_rfl))⟩
 f26:=⟨Tryz.f358.name,by decide,Tryz.func358.trans (congrArg some (by kernel_rfl))⟩
 f27:=⟨Tryz.f359.name,by decide,Tryz.func359.trans (congrArg some (by kernel_rfl))⟩
 f28:=Tryz.func284.trans (congrArg some (by kernel_rfl))
 f29:=Tryz.func285.trans (congrArg some (by kernel_rfl))
 f46:=⟨Tryz.f360.name,by decide,Tryz.func360.trans (congrArg some (by kernel_rfl))⟩
 f47:=Tryz.func315.trans (congrArg some (by kernel_rfl))
 f48:=Tryz.func316.trans (congrArg some (by kernel_rfl))
 f49:=⟨Tryz.f361.name,by decide,Tryz.func361.trans (congrArg some (by kernel_rfl))⟩
 f50:=⟨Tryz.f362.name,by decide,Tryz.func362.trans (congrArg some (by kernel_rfl))⟩
 f57:=⟨Tryz.f363.name,by decide,Tryz.func363.trans (congrArg some (by kernel_rfl))⟩
 t0:=Tryz.underlying0
 a0:=Tryz.isAgg0
 z0:=Tryz.sizeOf0
 v0:=Tryz.zeroValue0
 t3:=Tryz.underlying3
 a3:=Tryz.isAgg3
 z3:=Tryz.sizeOf3
 v3:=Tryz.zeroValue3
 t4:=Tryz.underlying4
 a4:=Tryz.isAgg4
 z4:=Tryz.sizeOf4
 v4:=Tryz.zeroValue4
 t5:=Tryz.underlying5
 a5:=Tryz.isAgg5
 z5:=Tryz.sizeOf5
 v5:=Tryz.zeroValue5
 t9:=Tryz.underlying9
 a9:=Tryz.isAgg9
 z9:=Tryz.sizeOf9
 v9:=Tryz.zeroValue9
 t22:=Tryz.underlying223
 a22:=Tryz.isAgg223
 z22:=Tryz.sizeOf223
 v22:=Tryz.zeroValue223
 t25:=Tryz.underlying333
 a25:=Tryz.isAgg333
 z25:=Tryz.sizeOf333
 v25:=Tryz.zeroValue333
 t39:=Tryz.underlying235
 a39:=Tryz.isAgg235
 z39:=Tryz.sizeOf235
 v39:=Tryz.zeroValue235
 t45:=Tryz.underlying286
 a45:=Tryz.isAgg286
 z45:=Tryz.sizeOf286
 v45:=Tryz.zeroValue286
 t46:=Tryz.underlying287
 a46:=Tryz.isAgg287
 z46:=Tryz.sizeOf287
 v46:=Tryz.zeroValue287
 t50:=Tryz.underlying238
 a50:=Tryz.isAgg238
 z50:=Tryz.sizeOf238
 v50:=Tryz.zeroValue238
 t53:=Tryz.underlying294
 a53:=Tryz.isAgg294
 z53:=Tryz.sizeOf294
 v53:=Tryz.zeroValue294
 t55:=Tryz.underlying296
 a55:=Tryz.isAgg296
 z55:=Tryz.sizeOf296
 v55:=Tryz.zeroValue296
 t66:=Tryz.underlying324
 a66:=Tryz.isAgg324
 z66:=Tryz.sizeOf324
 v66:=Tryz.zeroValue324
 t70:=Tryz.underlying328
 a70:=Tryz.isAgg328
 z70:=Tryz.sizeOf328
 v70:=Tryz.zeroValue328
 t76:=Tryz.underlying347
 a76:=Tryz.isAgg347
 z76:=Tryz.sizeOf347
 v76:=Tryz.zeroValue347
 t77:=Tryz.underlying149
 a77:=Tryz.isAgg149
 z77:=Tryz.sizeOf149
 v77:=Tryz.zeroValue149 }
def atD:Go.Shelf.Ren:=⟨fun | 5=>324 | 7=>319 | n=>n,fun | 22=>3 | 3=>3 | 4=>4 | n=>n,fun | n=>n⟩
theorem atE:Go.Proofs.SlLaysC2.n5 ayS atD:={
 mixed:=by kernel_rfl
 f5:=⟨Tryz.f324.name,by decide,Tryz.func324.trans (congrArg some (by kernel_rfl))⟩
 f7:=⟨Tryz.f319.name,by decide,Tryz.func319.trans (congrArg some (by kernel_rfl))⟩
 t3:=Tryz.underlying3
 a3:=Tryz.isAgg3
 z3:=Tryz.sizeOf3
 v3:=Tryz.zeroValue3
 t4:=Tryz.underlying4
 a4:=Tryz.isAgg4
 z4:=Tryz.sizeOf4
 v4:=Tryz.zeroValue4
 t22:=Tryz.underlying3
 a22:=Tryz.isAgg3
 z22:=Tryz.sizeOf3
 v22:=Tryz.zeroValue3 }
abbrev uJ:={v:Value // v.oneCell'=true}
instance:Inhabited uJ:=⟨⟨.bool false,rfl⟩⟩
def jL (x:Int×uJ):List Value:=[.int .i64 x.1,x.2.1]
theorem atF (x y:Int×uJ) (W:World):Calls ayS 323 #[.agg #[.int .i64 x.1,x.2.1],.agg #[.int .i64 y.1,y.2.1]] W fun e w'=>e = .returned (.int .i64 (aBy y.1 x.1))∧∃ q b,w'=grow (W.drewN q) b:=by
 have a:=fun c=>AnyG.cmp_Compare_int atE y.1 x.1 c
 change ∀ c,Calls ayS 324 _ _ _ at a;generalize aBy y.1 x.1=r at a ⊢
 go_enter Tryz.func323,Tryz.ntmps323
 go_wp2_with (go_at_call 324;refine (a _).mono ?_;rintro e w' ⟨rfl,rfl⟩)
 go_ret
 exact ⟨rfl,0,_,by rw [alloc_eq_grow,alloc_eq_grow,grow_grow];rfl⟩
end Go.Proofs.YtaekhhlgnbhnpaaGreat
namespace Go.Proofs.YtaekhhlgnbhnpaaGreat
open Go Go.Tw Go.Proofs
open Go.Sort
theorem ltP (x y:Int×uJ):ltOf (fun x y:Int×uJ=>aBy y.1 x.1) x y=decide (y.1 < x.1):=by
 unfold ltOf aBy;by_cases a:y.1 < x.1
 ·simp [a]
 ·by_cases b:x.1 < y.1 <;> simp [a,b]
theorem atG:SWO (ltOf fun x y:Int×uJ=>aBy y.1 x.1) where
 irrefl x:=by rw [ltP];simp
 trans x y z h1 h2:=by rw [ltP] at *;simp at *;omega
 ntrans x y z h1 h2:=by rw [ltP] at *;simp at *;omega
theorem atH {β:Type} (L:List (Int×AV)) (V c:List (Int×β)) (R:AV→β→Prop) (G:V.length=L.length) (C:∀ (i:Nat) (x:Int×AV) (u:Int×β),L[i]? = some x→V[i]? = some u→u.1=x.1∧R x.2 u.2) (l:(L.map (·.1)).Nodup) (f:c.Perm V) (hs:c.Pairwise (fun a b=>¬ a.1 < b.1)) :
 c.length=(lY L).length∧∀ (i:Nat) (x:Int×AV) (u:Int×β),(lY L)[i]? = some x→c[i]? = some u→u.1=x.1∧R x.2 u.2:=by
 have o:V.map (·.1)=L.map (·.1):=by
  apply List.ext_getElem?;intro i;rw [azl,azl];by_cases hi:i < L.length
  ·have t:L[i]? = some L[i]:=azj hi;have m:V[i]? = some (V[i]'(by omega)):=azj (by omega);rw [t,m];simp [(C i _ _ t m).1]
  ·rw [ay3 (by omega),ay3 (by omega)];rfl
 have n:c.length=(lY L).length:=by rw [f.length_eq,G,(yH L).length_eq]
 have r:(c.map (·.1)).Nodup:=by
  rw [(f.map (·.1)).nodup_iff,o];exact l
 have y:(c.map (·.1)).Pairwise (· > ·):=by
  rw [aBw];have m:=aBw.1 r;exact (hs.and m).imp fun {a b} h=>by
   have:=h.1;have I:=h.2;omega
 have d:c.map (·.1)=(lY L).map (·.1):=ahw (hs:=[]) (top:=0) y (aBw.2 (ahC L l)) fun v=>by
  rw [(f.map (·.1)).mem_iff,o,((yH L).map (·.1)).mem_iff]
 refine ⟨n,fun i x u E B => ?_⟩;have F:u.1=x.1:=by
  have:=congrArg (·[i]?) d;simp only [azl,E,B,az3,ayX] at this;exact this
 refine ⟨F, ?_⟩;have H:u∈V:=f.mem_iff.1 (az5 B);obtain ⟨j,D⟩:=aBg H;have g:j < L.length:=by rw [←G];exact (ay5.1 D).1
 have z:L[j]? = some L[j]:=azj g;obtain ⟨t,m⟩:=C j _ _ z D;have A:x∈L:=(yH L).mem_iff.1 (az5 E);have:x=L[j]:=by
  obtain ⟨k,w⟩:=aBg A;obtain ⟨s,q⟩:=ay5.1 w;have f:=aBs.1 l;have e:(L[k]).1=(L[j]).1:=by rw [q,←F,t]
  rcases Nat.lt_trichotomy j k with p | p | p
  ·exact absurd (by rw [aBz,aBz];exact e.symm) (f j k (by simpa using g) (by simpa using s) p)
  ·subst p;exact q.symm
  ·exact absurd (by rw [aBz,aBz];exact e) (f k j (by simpa using s) (by simpa using g) p)
 rw [this];exact m
section
variable {P:Program} {w:World} {I:Nat→Prop} {ρ:cB} {m:aF}
theorem atJ (a:SR P w I ρ m) {w':World} (h:w'.heap=w.heap):SR P w' I ρ m:=by
 have c:iI w w' I I:=⟨fun _ h=>h,fun g _=>by rw [h],fun g x i=>by unfold World.shape? at *;rw [h];exact i⟩
 exact ⟨fun b k g o e d=>sC c (fun _ _ h=>h) (a.blk b k g o e d) (by rw [h]) (fun j=>((a.blk b k g o e d).wr j).1),a.inj,fun g f=>by rw [h];exact a.lt g f,a.mms.keep c (fun _ _ h=>h) (fun g _=>⟨by rw [h],fun h=>h⟩)⟩
theorem ac0 {w:World} {a:Array Obj} {g:Nat} (b:g < w.heap.size):(grow w a).heap[g]? = w.heap[g]? := by
 show (w.heap++a)[g]? = _;rw [Array.getElem?_append_left b]
theorem atK (a:SR P w I ρ m) (d:Array Obj):SR P (grow w d) I ρ m∧cL w I ρ m (grow w d) I ρ m:=by
 have j:iI w (grow w d) I I:=⟨fun _ h=>h,fun g c=>ac0 (a.lt g c),fun g x l=>by rw [tR (ac0 (zF l))];exact l⟩
 have f:w.heap.size≤(grow w d).heap.size:=by show _≤(w.heap++d).size;simp
 refine ⟨⟨fun b k g o i e=>sC j (fun _ _ h=>h) (a.blk b k g o i e) (ac0 (a.ltb i e)) (fun n=>((a.blk b k g o i e).wr n).1),a.inj,fun g c=>Nat.lt_of_lt_of_le (a.lt g c) f,a.mms.keep j (fun _ _ h=>h) (fun g c=>⟨ac0 (a.mms.lt c),fun h=>h⟩)⟩,⟨rfl,rfl,rfl,f,fun g c _=>ac0 c,j.shape,fun _ h=>h,fun _ h => .inl h,fun _ _ h=>h,fun b i e=>absurd i e,fun _ h => .inl h,ay7 _⟩⟩
end
theorem ahE:∀ (L:List (Int×AV)) (i:Nat) (x:Int×AV),L[i]? = some x→(lH L)[i*2]? = some (aC x.1)∧(lH L)[i*2+1]? = some x.2
 | [],i,x,h=>by simp at h
 | a::L,0,x,h=>by simp at h;subst h;exact ⟨rfl,rfl⟩
 | a::L,i+1,x,h=>by
  have b:=ahE L i x (by simpa using h);have e:lH (a::L)=aC a.1::a.2::lH L:=rfl;rw [e,show (i+1)*2=i*2+1+1 by omega];simpa using b
theorem atL (L:List (Int×AV)):(lH L).length=L.length*2:=by
 induction L with
 | nil=>rfl
 | cons a L b=>simp only [lH,List.flatMap_cons,List.length_append,List.length_cons,List.length_nil] at b ⊢;omega
theorem ahF (d:Array (Int×uJ)) (i:Nat) (x:Int×uJ) (h:d.toList[i]? = some x):(flatK jL 2 d)[i*2]? = some (.int .i64 x.1)∧(flatK jL 2 d)[i*2+1]? = some x.2.1:=by
 have hi:i < d.size:=by simpa using (ay5.1 h).1
 have b:d[i]! = x:=by
  rw [getElem!_pos d i hi];have:=(ay5.1 h).2;simpa using this
 constructor
 ·have a:i*2 < d.size*2:=by omega
  have:=Go.Sort.get_flatK jL 2 d (i*2) a;rw [Nat.mul_div_cancel _ (by decide),Nat.mul_mod_left,b] at this;have hs:i*2 < (flatK jL 2 d).size:=by simp;omega
  have e:=getElem!_pos (flatK jL 2 d) (i*2) hs;rw [e] at this;rw [azk hs,this];rfl
 ·have a:i*2+1 < d.size*2:=by omega
  have:=Go.Sort.get_flatK jL 2 d (i*2+1) a;rw [show (i*2+1) / 2=i by omega,show (i*2+1) % 2=1 by omega,b] at this;have hs:i*2+1 < (flatK jL 2 d).size:=by simp;omega
  have e:=getElem!_pos (flatK jL 2 d) (i*2+1) hs;rw [e] at this;rw [azk hs,this];rfl
theorem atM:anb:=by
 intro m b L hb c0 d4 a7;refine ⟨by kernel_rfl,fun w I ρ vs hS b9 Q U => ?_⟩;have b0:vs.size=2:=b9;obtain ⟨v0,b5,h0⟩:=gQ Q (j:=0) rfl;obtain ⟨v1,a9,f⟩:=gQ Q (j:=1) rfl;simp only [VR] at h0 f;obtain ⟨g,o,cap,ty,n,s,b3,rfl,⟨e6,e8⟩,_,b2,e4,b4⟩:=h0;obtain ⟨a0,rfl,c8,_⟩:=f;have S:a0 = #[]:=Array.eq_empty_of_size_eq_zero c8;subst S;have c1:vs = #[.slice (some ⟨g,o+0,none⟩) L.length cap,.func (.func 323) #[] #[]]:=by
  apply Array.ext (by simpa using b0);intro i f F;have:i=0∨i=1:=by simp at F;omega
  rcases this with rfl | rfl
  ·simp only [azk f,ayX] at b5;simpa using b5
  ·simp only [azk f,ayX] at a9;simpa using a9
 have hB:=hS.blk b _ g o hb b3;obtain ⟨arr,fr,W,l⟩:=hB.cells;simp only [reduceCtorEq,if_false] at l;have K:∀ i x,L[i]? = some x→arr[o+i*2]? = some (.int .i64 x.1)∧∃ u:uJ,arr[o+(i*2+1)]? = some u.1∧VR ayS w I ρ x.2 u.1:=by
  intro i x A;obtain ⟨p1,p2⟩:=ahE L i x A;obtain ⟨u1,q1,q2⟩:=gQ l p1;obtain ⟨u2,q3,q4⟩:=gQ l p2;simp only [aC,VR] at q2;subst q2;exact ⟨q1,⟨u2,hB.all1 rfl arr _ fr W u2 (by simpa using Array.mem_of_getElem? q3)⟩,q3,q4⟩
 obtain ⟨V,z,hV⟩:∃ V:List (Int×uJ),V.length=L.length∧∀ i x u,L[i]? = some x→V[i]? = some u→u.1=x.1∧(arr[o+i*2]? = some (.int .i64 x.1)∧arr[o+(i*2+1)]? = some u.2.1∧VR ayS w I ρ x.2 u.2.1):=by
  refine ⟨(List.range L.length).map fun i=>((L.getD i default).1,if h:(arr.getD (o+(i*2+1)) undef).oneCell'=true then ⟨_,h⟩ else default),by simp,fun i x u A H => ?_⟩;have hi:=(ay5.1 A).1;rw [azl,List.getElem?_range hi,az3,ayX] at H;obtain ⟨f,u',F,h3⟩:=K i x A;have e1:arr.getD (o+(i*2+1)) undef=u'.1:=by rw [Array.getD_eq_getD_getElem?,F];rfl
  have e2:L.getD i default=x:=by rw [List.getD_eq_getElem?_getD,A];rfl
  subst H;rw [e2];have e3:(if h:(arr.getD (o+(i*2+1)) undef).oneCell'=true then (⟨_,h⟩:uJ) else default)=u':=by
   rw [dif_pos (by rw [e1];exact u'.2)];exact Subtype.ext e1
  rw [e3];exact ⟨rfl,f,F,h3⟩
 have d0:∀ j,j < L.length*2→arr[o+j]? = (flatK jL 2 V.toArray)[j]? := by
  intro j r;obtain ⟨i,E⟩:∃ i,j=i*2∨j=i*2+1:=⟨j / 2,by omega⟩
  have hi:i < L.length:=by omega
  have f:L[i]? = some L[i]:=azj hi;have F:V[i]? = some (V[i]'(by omega)):=azj (by omega);obtain ⟨a1,a2,a3,a4⟩:=hV i _ _ f F;obtain ⟨X,f2⟩:=ahF V.toArray i _ F;rcases E with rfl | rfl
  ·rw [a2,X,a1]
  ·rw [a3,f2]
 have hH:HoldsK jL 2 w g (o+0) V.toArray:=by
  intro j r;have Y:j < L.length*2:=by simpa [z] using r
  refine ⟨?_,hB.nostr rfl (by kernel_rfl) _⟩;have M:j < (flatK jL 2 V.toArray).size:=r;have e:=getElem!_pos (flatK jL 2 V.toArray) j M;rw [aBA,cell_of_row _ _ _ _ _ _ W,d0 j Y,azk M,e];rfl
 have B:=AnyQ.slices_SortFunc anf 2 Tryz.isAgg226 Tryz.sizeOf226 jL (fun _=>rfl) (fun x v Q=>by
  simp only [jL,List.mem_cons,List.not_mem_nil,or_false] at Q;rcases Q with rfl | rfl
  ·rfl
  ·exact x.2.2) (fun x y=>aBy y.1 x.1) atG 323 #[] g (o+0) cap V.toArray w (enters_of Tryz.func323 (by kernel_rfl) rfl) (fun _ _ _ _ x y=>atF x y _) hH (vU W) (by simp [z];omega)
 change Calls ayS 322 _ _ _ at B;have N:V.toArray.size=L.length:=by simpa using z
 rw [N] at B;rw [c1];refine B.mono ?_;rintro en w' ⟨rfl,d,nd,os,C,D,rfl⟩;have k:d.size=L.length:=by rw [C.1,N]
 have d2:d.toList.Perm V:=by
  have f:=C.2.2;rw [←k] at f;have e1:d.extract 0 d.size=d:=by simp
  have e2:V.toArray.extract 0 d.size=V.toArray:=by rw [k,←N];simp
  rw [e1,e2] at f;exact f
 have d1:d.toList.Pairwise (fun a b=>¬ a.1 < b.1):=by
  rw [aBs];intro i j hi r d3;have c3:i < d.size:=by simpa using hi
  have c6:j < d.size:=by simpa using r
  have f:=D i j (Nat.zero_le _) d3 (by omega);rw [ltP,getElem!_pos d i c3,getElem!_pos d j c6] at f;simpa using f
 obtain ⟨e7,c5⟩:=atH L V d.toList (fun a u=>VR ayS w I ρ a u.1) z (fun i x u A H=>⟨(hV i x u A H).1,(hV i x u A H).2.2.2⟩) c0 d2 d1;have c2:(lY L).length=L.length:=(yH L).length_eq;have G:sortWorldK jL 2 w g (o+0) nd d os=grow ((aBB w nd).setCells g (o+0) (flatK jL 2 d).toList) os:=by
  have a5:=setCells_putRow (aBB w nd) g (o+0) (flatK jL 2 d).toList 0 (flatK jL 2 V.toArray) (by simp [k,z]);have P:putRow id (aBB w nd) g (o+0) (flatK jL 2 V.toArray)=aBB w nd:=putRow_self id (aBB w nd) g (o+0) _ hH;rw [P,aBA] at a5;unfold sortWorldK putRowK;rw [aBA,a5];congr 2;refine (Go.Sort.ext_get! (by simp [k,z]) fun t ht => ?_).symm;have T:t < (flatK jL 2 V.toArray).size:=by simpa using ht
  have O:t < (flatK jL 2 d).size:=by simp [k,z] at T ⊢;exact T
  rw [Go.Sort.get_setMany _ _ _ t T,if_pos ⟨Nat.zero_le _,by simpa using O⟩,Nat.sub_zero,getElem!_pos (flatK jL 2 d).toList t (by simpa using O),getElem!_pos (flatK jL 2 d) t O];simp
 rw [G];have S1:SR ayS (aBB w nd) I ρ m:=atJ hS rfl;have hn:o+L.length*2≤arr.size:=by
  by_cases h0:L.length=0
  ·rw [l8 W] at b2;cases b2;rw [h0];have:=b4;generalize cap*s=q at this;omega
  ·have f:L[L.length - 1]? = some (L[L.length - 1]'(by omega)):=azj (by omega);obtain ⟨_,u,F,_⟩:=K _ _ f;have:=(azy.1 F).1;omega
 obtain ⟨S2,T2⟩:=zK (k':=⟨lH (lY L),226,.var,true⟩) S1 hb rfl b3 (vs:=(flatK jL 2 d).toList) (p:=o+0) ⟨rfl,rfl,fun c hc=>by
  unfold lH at hc;obtain ⟨x,A,hc⟩:=List.mem_flatMap.1 hc;rw [List.mem_cons,List.mem_singleton] at hc;rcases hc with rfl | rfl
  ·rfl
  ·exact a7 x ((yH L).mem_iff.1 A)⟩ (fun v Q=>by
  obtain ⟨j,r⟩:=aBg Q;rw [aAi] at r;have b7:=(azy.1 r).1;have Y:j < L.length*2:=by simpa [k] using b7
  obtain ⟨i,E⟩:∃ i,j=i*2∨j=i*2+1:=⟨j / 2,by omega⟩
  have hi:i < d.toList.length:=by simp [k];omega
  obtain ⟨X,f2⟩:=ahF d i _ (azj hi);rcases E with rfl | rfl
  ·rw [X] at r;cases r;rfl
  ·rw [f2] at r;cases r;exact (d.toList[i]).2.2) (fun Z c4 e0 _ a6 e1 e2=>by
  have b1:w.heap[g]? = some (.cells Z 226 c4):=e0;rw [W] at b1;cases b1;simp only [reduceCtorEq,if_false];refine j6.2 fun j c r => ?_
  have e9:j < L.length*2:=by
   have:=(ay5.1 r).1;rw [atL,c2] at this;exact this
  have e5:(flatK jL 2 d).toList.length=L.length*2:=by simp [k]
  have J:a6[o+j]? = (flatK jL 2 d)[j]? := by
   rw [e2,if_pos ⟨by omega,by omega,by omega⟩,show o+j - (o+0)=j by omega,aAi]
  obtain ⟨i,E⟩:∃ i,j=i*2∨j=i*2+1:=⟨j / 2,by omega⟩
  have b8:i < (lY L).length:=by omega
  have c7:i < d.toList.length:=by simp [k];omega
  have A:(lY L)[i]? = some (lY L)[i]:=azj b8;have H:d.toList[i]? = some d.toList[i]:=azj c7;obtain ⟨m1,m2⟩:=c5 i _ _ A H;obtain ⟨p1,p2⟩:=ahE (lY L) i _ A;obtain ⟨X,f2⟩:=ahF d i _ H;have R:iI w (aBB w nd) I I:=⟨fun _ h=>h,fun _ _=>rfl,fun _ _ h=>h⟩
  rcases E with rfl | rfl
  ·rw [p1] at r;cases r;refine ⟨_,by rw [J,X], ?_⟩;simp only [aC,VR,m1]
  ·rw [p2] at r;cases r;exact ⟨_,by rw [J,f2],p9 R (fun _ _ h=>h) _ _ m2⟩)
 obtain ⟨S3,T3⟩:=atK S2 os;have T1:cL w I ρ m (aBB w nd) I ρ m:=⟨rfl,rfl,rfl,ay7 _,fun _ _ _=>rfl,fun _ _ h=>h,fun _ h=>h,fun _ h => .inl h,fun _ _ h=>h,fun b f F=>absurd f F,fun _ h => .inl h,ay7 _⟩
 exact ⟨.tuple #[],eN,_,I,ρ,rfl,⟨rfl,rfl⟩,by simp only [eN,VR],S3,T1.trans (T2.trans T3),U⟩
end Go.Proofs.YtaekhhlgnbhnpaaGreat