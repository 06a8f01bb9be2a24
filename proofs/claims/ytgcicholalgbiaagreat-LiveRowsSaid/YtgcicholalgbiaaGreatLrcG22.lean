import Derived.Test.YtgcicholalgbiaaGreatLrcG21
set_option linter.unusedVariables false
set_option linter.unusedSimpArgs false
set_option maxRecDepth 10000
namespace Go.Proofs.YtgcicholalgbiaaGreat
open Go Go.Tw Go.Proofs Go.Gf
theorem tabA_splice {n o cnt:Nat} {f g:Nat→UInt8} {xs:List AV} (hl:xs.length=cnt) (ho:o+cnt≤n) (hx:∀ j,j < cnt→xs[j]? = some (byteV (g (o+j)))) (hf:∀ j,j < n→¬ (o≤j∧j < o+cnt)→f j=g j):splice (tabA n f) o xs=tabA n g:=by
 refine List.ext_getElem? fun j => ?_
 rw [splice_get _ _ _ (by rw [tabA_len];omega)]
 by_cases hj:j < n
 ·rw [tabA_at g hj]
  by_cases h:o≤j∧j < o+xs.length
  ·rw [if_pos h,hx _ (by omega),show o+(j - o)=j by omega]
  ·rw [if_neg h,tabA_at f hj,hf j hj (by omega)]
 ·rw [if_neg (by omega),List.getElem?_eq_none (by rw [tabA_len];omega),List.getElem?_eq_none (by rw [tabA_len];omega)]
def lostB (k r c w:Int) (L:List (List UInt8)) (x:RefI):Bool:=decide (manyN k r c w (rowL k r w L x.1) 1 x.2 < k.toNat)
def meetB (W fr to i:Nat):Bool:=decide (max fr (i*W) < min to ((i+1)*W))
def cutE (k r c w:Int) (L:List (List UInt8)) (l:List RefI) (fr to:Nat):Int:=if (List.range l.length).any (fun i=>meetB (wI k c).toNat fr to i && lostB k r c w L (l.getD i (0,0)))=true then 5 else 0
def bytC (k r c w:Int) (L:List (List UInt8)) (l:List RefI) (p:Nat):UInt8:=if p < l.length*(wI k c).toNat then (leafD k r c w L (l.getD (p / (wI k c).toNat) (0,0))).getD (p % (wI k c).toNat) 0 else 0
def cutB (k r c w:Int) (L:List (List UInt8)) (l:List RefI) (fr to:Nat):List UInt8:=tab (to - fr) fun j=>bytC k r c w L l (fr+j)
def cutV (k r c w:Int) (L:List (List UInt8)) (l:List RefI) (fr to:Nat):AV:=if cutE k r c w L l fr to=0 then .tup [takA (cutB k r c w L l fr to),intV 0] else .tup [nilS,intV (cutE k r c w L l fr to)]
theorem cut_none {k r c w:Int} {L:List (List UInt8)} {l:List RefI} {fr to:Nat} (h:to≤fr):cutV k r c w L l fr to = .tup [nilS,intV 0]:=by
 have h1:cutE k r c w L l fr to=0:=by
  unfold cutE
  rw [if_neg]
  intro h2
  obtain ⟨i,_,hi⟩:=List.any_eq_true.1 h2
  unfold meetB at hi
  rw [Bool.and_eq_true,decide_eq_true_eq] at hi
  omega
 have h2:takA (cutB k r c w L l fr to)=nilS:=by
  unfold takA cutB
  rw [tab_len,if_pos (by omega)]
 unfold cutV
 rw [if_pos h1,h2]
theorem cut_copy {m : Mem} {n fr to i W A Z : Nat} {FF : Nat → UInt8} {D : List UInt8} {dv : AV} (hb : m.at_ 0 = some ⟨tabA n fun j => if fr + j < i * W then FF j else 0, 5, .flat, true⟩) (hsrc : srcE Tryz.prog 5 1 m dv = some (((bytesA D).drop (A - i * W)).take ((W - (A - i * W)) * 1), W - (A - i * W))) (hDl : D.length = W) (hFx : ∀ j, i * W ≤ fr + j → fr + j < i * W + W → FF j = D.getD (fr + j - i * W) 0) (hA2 : A = max fr (i * W)) (hZ2 : Z = min to ((i + 1) * W)) (hsuc : (i + 1) * W = i * W + W) (hn : to - fr = n) (hAZ : A < Z) :
   copyE Tryz.prog 5 m (.sl 0 (A - fr) (Z - A) (n - (A - fr)) true) dv = some ⟨intV (min (W - (A - i * W)) (Z - A) : Nat), m.put 0 (some ⟨tabA n fun j => if fr + j < (i + 1) * W then FF j else 0, 5, .flat, true⟩), none⟩ := by
 have h2 : szE Tryz.prog 5 = some 1 := by kernel_rfl
 have h4 : kindT Tryz.prog 5 = .flat := by kernel_rfl
 simp only [copyE, h2, hsrc, hb, Option.bind_some, h4]
 rw [if_pos ⟨trivial, trivial, by rw [tabA_len]; omega⟩]
 have hmin : min (W - (A - i * W)) (Z - A) = Z - A := by omega
 rw [hmin, Nat.mul_one, Nat.mul_one]
 congr 4
 refine tabA_splice (cnt := Z - A) (by rw [List.length_take, List.length_take, List.length_drop, bytesA_len]; omega) (by omega) (fun j hj => ?_) (fun j hj hnj => ?_)
 · rw [List.getElem?_take, if_pos hj, List.getElem?_take, if_pos (by omega), List.getElem?_drop, if_pos (by omega), hFx (A - fr + j) (by omega) (by omega)]
   unfold bytesA
   have hlt : A - i * W + j < D.length := by omega
   rw [List.getElem?_map, List.getElem?_eq_getElem hlt, List.getD_eq_getElem?_getD, show fr + (A - fr + j) - i * W = A - i * W + j by omega, List.getElem?_eq_getElem hlt]
   rfl
 · by_cases h5 : fr + j < i * W
   · rw [if_pos h5, if_pos (by omega)]
   · rw [if_neg h5, if_neg (by omega)]
def onceCu:Nat→Bool:=fun d=>d != 89
set_option maxHeartbeats 2000000 in
theorem object_cut (k r c w:Int) (v:AV) (L:List (List UInt8)) (cells:List AV) (hv:RowsV v L cells) (hE:imE k r c w L=0) (sv:AV) (l:List RefI) (hs:RefsV sv l) (hlr:∀ x∈l,refB w x=true) (hl:l.length≤20000) (fr to:Nat) (hto:to≤40000):FSpec Tryz.prog 73 [imV k r c w v,sv,intV (fr:Nat),intV (to:Nat)] ⟨cutV k r c w L l fr to,[]⟩:=by
 refine fspec_fzT ?_
 have hp:=hv.rd.plain
 have hf:=rd_fz hv.rd
 have ho:=rd_one hv.rd
 obtain ⟨hm,_,_⟩:=im_parts hE
 obtain ⟨x0,hsr⟩:=hs
 have hWd:=layout_Width k r c w
 simp only [hm,if_true] at hWd
 have hw:=may_w hm
 have hml:=mayB_of.1 hm
 have hmn:=may_n hm
 unfold imV
 by_cases hlt0:to≤fr
 ·rw [cut_none hlt0]
  have h1:((to:Nat):Int)≤((fr:Nat):Int):=by omega
  have hz:=fun m=>fzId_two (fzId_val (.slice none 0 0)) (fzId_val (.int .i64 0)) 1 m
  replace hz:=Hid.mk hz
  refine ospec_of_body follows Tryz.func73 (by unfold Tryz.f73;rfl) (by unfold Tryz.f73;simp) onceCu (by unfold Tryz.f73;simp) (by kernel_rfl) ?_;unfold Tryz.f73
  simp only [↓pre,simprocAttr,parV,sx,tys73,onceCu,bne,postU,postV,hf,ho,h1,sr]
  exact ⟨1,hz.out _⟩
 ·have h1:¬ ((to:Nat):Int)≤((fr:Nat):Int):=by omega
  obtain ⟨W,hW⟩:∃ W:Nat,wI k c=(W:Int):=⟨(wI k c).toNat,by unfold wI;omega⟩
  have hWn:(wI k c).toNat=W:=by omega
  have hW8:32≤W∧W≤768:=by unfold wI at hW;omega
  have hKC:k.toNat*c.toNat=W:=by
   have:((k.toNat*c.toNat:Nat):Int)=wI k c:=by unfold wI;rw [Int.natCast_mul,Int.toNat_of_nonneg (by omega),Int.toNat_of_nonneg (by omega)]
   omega
  obtain ⟨n,hn⟩:∃ n,to - fr=n:=⟨_,rfl⟩
  have wn:IntKind.i64.wrap (((to:Nat):Int) - ((fr:Nat):Int))=((n:Nat):Int):=by rw [show ((to:Nat):Int) - ((fr:Nat):Int)=((n:Nat):Int) by omega];exact wrap_nat (by omega)
  have hmk:=fun m=>make_bytes m (n:=n) (by omega)
  have hrow:=fun (x:RefI) (hx:x∈l)=>by
   have hR0:=rowE_ok hE (ref_parts (hlr x hx)).1
   have h:=image_Row k r c w x.1 v L cells hv
   unfold rowVal at h
   rw [if_pos hR0] at h
   exact h
  have hread:=fun (x:RefI) (hx:x∈l)=>stripe_Read k r c w 1 x.2 _ _ _ (row_rowV k r c w L x.1 (by omega)) hm (row_rowB (rowE_ok hE (ref_parts (hlr x hx)).1)).1 (.inl rfl) (by unfold verB;exact decide_eq_true (ref_parts (hlr x hx)).2)
  have hrdR:=fun (x:RefI)=>(row_rowV k r c w L x.1 (by omega)).rd
  have hdl:=fun (x:RefI)=>dataL_len k r c w (rowL k r w L x.1) 1 x.2 k.toNat
  unfold imV at hrow
  unfold cutV cutB bytC cutE
  rw [hW] at hWd
  rw [hWn,hn]
  unfold sreadV at hread
  rw [hKC] at hread hdl
  have hlB:∀ x,lostB k r c w L x=decide (manyN k r c w (rowL k r w L x.1) 1 x.2 < k.toNat):=fun _=>rfl
  have hlD:∀ x,leafD k r c w L x=dataL k r c w (rowL k r w L x.1) 1 x.2 k.toNat:=fun _=>rfl
  generalize hEE:(if (List.range l.length).any (fun i=>meetB W fr to i && lostB k r c w L (l.getD i (0,0)))=true then (5:Int) else 0)=EE
  have hbad:∀ (i:Nat) (x:RefI),l[i]? = some x→meetB W fr to i=true→lostB k r c w L x=true→EE=5:=fun i x hx h1 h2=>by
   rw [←hEE,if_pos]
   refine List.any_eq_true.2 ⟨i,List.mem_range.2 (List.getElem?_eq_some_iff.1 hx).1, ?_⟩
   rw [h1,List.getD_eq_getElem?_getD,hx]
   exact h2
  have hgood:(∀ (i:Nat) (x:RefI),l[i]? = some x→meetB W fr to i=true→lostB k r c w L x=false)→EE=0:=fun h=>by
   rw [←hEE,if_neg]
   intro h2
   obtain ⟨i,hi,h3⟩:=List.any_eq_true.1 h2
   have hi':=List.mem_range.1 hi
   rw [Bool.and_eq_true,List.getD_eq_getElem?_getD,List.getElem?_eq_getElem hi'] at h3
   have:=h i _ (List.getElem?_eq_getElem hi') h3.1
   rw [show (some l[i]).getD (0,0)=l[i] from rfl,this] at h3
   exact absurd h3.2 (by decide)
  generalize hFF:(fun j=>if fr+j < l.length*W then (leafD k r c w L (l.getD ((fr+j) / W) (0,0))).getD ((fr+j) % W) 0 else (0:UInt8))=FF
  have hFb:∀ (i:Nat) (x:RefI) (j:Nat),l[i]? = some x→i*W≤fr+j→fr+j < i*W+W→FF j=(leafD k r c w L x).getD (fr+j - i*W) 0:=fun i x j hx h1 h2=>by
   rw [←hFF]
   have hi:=(List.getElem?_eq_some_iff.1 hx).1
   have h3:(i+1)*W≤l.length*W:=Nat.mul_le_mul_right _ hi
   rw [Nat.add_mul,Nat.one_mul] at h3
   have hdv:(fr+j) / W=i:=by
    refine Nat.div_eq_of_lt_le h1 ?_
    rw [Nat.add_mul,Nat.one_mul];exact h2
   have hmd:(fr+j) % W=fr+j - i*W:=by
    have:=Nat.div_add_mod (fr+j) W
    rw [hdv,Nat.mul_comm] at this
    omega
   simp only [hdv,hmd]
   rw [if_pos (by omega),List.getD_eq_getElem?_getD (l:=l),hx]
   rfl
  have hF0:∀ j,¬ fr+j < l.length*W→FF j=0:=fun j h=>by rw [←hFF];simp only;rw [if_neg h]
  clear hFF hEE hWn
  generalize hRES:(if EE=0 then AV.tup [takA (tab n FF),intV 0] else AV.tup [nilS,intV EE])=RES
  replace hRES:=Hid.mk hRES
  replace hbad:=Hid.mk hbad
  replace hgood:=Hid.mk hgood
  replace hFb:=Hid.mk hFb
  replace hF0:=Hid.mk hF0
  replace hml:=Hid.mk hml
  replace hmn:=Hid.mk hmn
  replace hw:=Hid.mk hw
  replace hW8:=Hid.mk hW8
  replace hrow:=Hid.mk hrow
  replace hread:=Hid.mk hread
  replace hrdR:=Hid.mk hrdR
  replace hdl:=Hid.mk hdl
  replace hKC:=Hid.mk hKC
  replace hn:=Hid.mk hn
  replace hlr:=Hid.mk hlr
  replace hlB:=Hid.mk hlB
  replace hlD:=Hid.mk hlD
  replace hW:=Hid.mk hW
  have hsa:=fun (i:Nat) (x:RefI) (hi:l[i]? = some x)=>refsA_at l x0 i x hi
  replace hsa:=Hid.mk hsa
  have hps:=hsr.plain
  refine ospec_of_body follows Tryz.func73 (by unfold Tryz.f73;rfl) (by unfold Tryz.f73;simp) onceCu (by unfold Tryz.f73;simp) (by kernel_rfl) ?_;unfold Tryz.f73
  simp only [↓pre,simprocAttr,parV,sx,tys73,onceCu,bne,postU,postV,hf,ho,h1,sr]
  (first | refine call_plain (hWd) (by first | rfl | simp only [parV,plQ, *]) ?_ | refine call_pure (hWd) (by first | rfl | simp only [parV,plQ, *]) (by intro k;first | rfl | simp only [sq,sr, *]) ?_);simp only [↓pre,simprocAttr,parV,sx,tys73,onceCu,bne,postU,postV,hf,ho,h1,wn,hmk,hsr.len',sr]
  rw [codeW_loop]
  refine loop_intro (fun q e m=>∃ i,q+i=l.length∧e 1=sv∧e 2=intV (fr:Nat)∧e 3=intV (to:Nat)∧e 4 = .tptr 0 [intV k,intV r,intV c,intV w,v]∧e 10=intV (W:Nat)∧e 12 = .sl 0 0 n n true∧e 36=intV (l.length:Nat)∧e 37=intV (i:Nat)∧Hid (m.at_ 0=some ⟨tabA n fun j=>if fr+j < i*W then FF j else 0,5,.flat,true⟩∧∀ (j:Nat) (x:RefI),j < i→l[j]? = some x→meetB W fr to j=true→lostB k r c w L x=false)) l.length ⟨0,by omega,rfl,rfl,rfl,rfl,rfl,rfl,rfl,rfl,⟨by rw [push_at,if_pos (by decide)];congr 3;funext j;rw [Nat.zero_mul,if_neg (by omega)],fun j x h=>by omega⟩⟩ ?_
  rintro q e m ⟨i,hq,e1,e2,e3,e4,e10,e12,e36,e37,hJ⟩
  replace hq:=Hid.mk hq
  obtain ⟨hb,hno⟩:=hJ.out
  clear hJ
  by_cases hlt:i < l.length
  ·have hlt':((i:Nat):Int) < ((l.length:Nat):Int):=by omega
   have wi:=wrap_succ (n:=i) (by omega)
   obtain ⟨x,hx⟩:∃ x,l[i]? = some x:=⟨_,List.getElem?_eq_getElem hlt⟩
   have hiW:(i+1)*W≤20000*768:=Nat.mul_le_mul (by omega) hW8.out.2
   have hsuc:(i+1)*W=i*W+W:=by rw [Nat.add_mul,Nat.one_mul]
   have w1:IntKind.i64.wrap (((i:Nat):Int)*((W:Nat):Int))=((i*W:Nat):Int):=by rw [show ((i:Nat):Int)*((W:Nat):Int)=((i*W:Nat):Int) by simp];exact wrap_nat (by omega)
   have w2:IntKind.i64.wrap (((i+1:Nat):Int)*((W:Nat):Int))=(((i+1)*W:Nat):Int):=by rw [show ((i+1:Nat):Int)*((W:Nat):Int)=(((i+1)*W:Nat):Int) by simp];exact wrap_nat (by omega)
   obtain ⟨A,hA,hA2⟩:∃ A:Nat,max ((fr:Nat):Int) ((i*W:Nat):Int)=(A:Int)∧A=max fr (i*W):=⟨max fr (i*W),by omega,rfl⟩
   obtain ⟨Z,hZ,hZ2⟩:∃ Z:Nat,min ((to:Nat):Int) (((i+1)*W:Nat):Int)=(Z:Int)∧Z=min to ((i+1)*W):=⟨min to ((i+1)*W),by omega,rfl⟩
   have hmeet:meetB W fr to i=decide (A < Z):=by unfold meetB;rw [hA2,hZ2]
   by_cases hAZ:A < Z
   ·rw [decide_eq_true hAZ] at hmeet
    have hAZ':¬ ((Z:Nat):Int)≤((A:Nat):Int):=by omega
    obtain ⟨ha,hb2⟩:=hsa.out i x hx
    have hxm:=List.mem_of_getElem? hx
    have hr:=hrow.out x hxm
    have hrd:=hread.out x hxm
    have hRr:=hrdR.out x
    have pR:=hRr.plain
    have sR:=rd_shift hRr
    have hlBx:=hlB.out x
    generalize treeR (k+r).toNat (prA (rowL k r w L x.1))=RV at *
    by_cases hlo:manyN k r c w (rowL k r w L x.1) 1 x.2 < k.toNat
    ·rw [if_pos hlo] at hrd
     rw [decide_eq_true hlo] at hlBx
     have h5:=hbad.out i x hx hmeet hlBx
     have hres:=hRES.out
     rw [h5,if_neg (by decide)] at hres
     have hz:=fun m=>fzId_two (fzId_val (.slice none 0 0)) (fzId_val (.int .i64 5)) 1 m
     replace hz:=Hid.mk hz
     replace hres:=Hid.mk hres
     replace hno:=Hid.mk hno
     replace hb:=Hid.mk hb
     replace hRr:=Hid.mk hRr
     simp only [nilS] at hrd
     simp only [↓pre,simprocAttr,parV,sx,tys73,onceCu,bne,postU,postV,hf,ho,e1,e2,e3,e4,e10,e12,e36,e37,hlt',hlt,w1,wi,w2,hA,hZ,hAZ',hsr.addr',ha,hb2,sr]
     (first | refine call_plain (hr) (by first | rfl | simp only [parV,plQ, *]) ?_ | refine call_pure (hr) (by first | rfl | simp only [parV,plQ, *]) (by intro k;first | rfl | simp only [sq,sr, *]) ?_);simp only [↓pre,simprocAttr,parV,sx,tys73,onceCu,bne,postU,postV,hf,ho,e1,e2,e3,e4,e10,e12,e36,e37,hlt',hlt,hsr.addr',ha,hb2,sR,sr];(first | refine call_plain (hrd) (by first | rfl | simp only [parV,plQ, *]) ?_ | refine call_pure (hrd) (by first | rfl | simp only [parV,plQ, *]) (by intro k;first | rfl | simp only [sq,sr, *]) ?_);simp only [↓pre,simprocAttr,parV,sx,tys73,onceCu,bne,postU,postV,hf,ho,e1,e2,e3,e4,e10,e12,e36,e37,hlt',hlt,hsr.addr',ha,hb2,sR,sr]
     rw [←hres.out]
     exact ⟨1,hz.out _⟩
    ·rw [if_neg hlo] at hrd
     rw [decide_eq_false hlo] at hlBx
     have hDl:=hdl.out x
     have hFx:=hFb.out i x
     rw [hlD.out x] at hFx
     generalize dataL k r c w (rowL k r w L x.1) 1 x.2 k.toNat=D at *
     have hDr:=treeR_rd W (bytesA D)
     have pD:=hDr.plain
     have sD:=rd_shift hDr
     obtain ⟨dv,s2,r2⟩:=hDr.slice (P:=Tryz.prog) (t:=54) (sz:=1) (lo:=some (A - i*W)) (hi:=none) (by kernel_rfl) (by simp only [Option.getD_some,Option.getD_none];omega) (by simp)
     simp only [Option.getD_some,Option.getD_none,Nat.mul_one] at r2
     have hsrc:=fun m=>r2.src (P:=Tryz.prog) (m:=m) (el:=5) (sz:=1) (by rw [List.length_drop,bytesA_len];omega)
     have hsx:=fun d c m lo hi mx=>hDr.sliceX (P:=Tryz.prog) (m:=m) (t:=54) (d:=d) (c:=c) (lo:=lo) (hi:=hi) (mx:=mx)
     generalize treeR W (bytesA D)=DV at *
     have wA:IntKind.i64.wrap (((A:Nat):Int) - ((fr:Nat):Int))=((A - fr:Nat):Int):=by rw [show ((A:Nat):Int) - ((fr:Nat):Int)=((A - fr:Nat):Int) by omega];exact wrap_nat (by omega)
     have wZ:IntKind.i64.wrap (((Z:Nat):Int) - ((fr:Nat):Int))=((Z - fr:Nat):Int):=by rw [show ((Z:Nat):Int) - ((fr:Nat):Int)=((Z - fr:Nat):Int) by omega];exact wrap_nat (by omega)
     have wD:IntKind.i64.wrap (((A:Nat):Int) - ((i*W:Nat):Int))=((A - i*W:Nat):Int):=by rw [show ((A:Nat):Int) - ((i*W:Nat):Int)=((A - i*W:Nat):Int) by omega];exact wrap_nat (by omega)
     have hn':=hn.out
     have hso:slOk Tryz.prog m 54 (.sl 0 0 n n true)=true:=by
      have:elE Tryz.prog 54=some 5:=by kernel_rfl
      simp [slOk,hb,this]
     have hsl:sliceE Tryz.prog 54 (some (A - fr)) (some (Z - fr)) none (.sl 0 0 n n true)=some (.sl 0 (A - fr) (Z - A) (n - (A - fr)) true):=by
      have h3:elE Tryz.prog 54=some 5:=by kernel_rfl
      have h4:szE Tryz.prog 5=some 1:=by kernel_rfl
      simp only [sliceE,h3,h4,Option.isSome_none,Bool.false_and,Bool.false_eq_true,if_false,Option.bind_some,Option.getD_some,Option.getD_none,Go.Tw.cutE]
      rw [if_pos (by omega),if_neg (by omega)]
      simp
      omega
     have hcp:copyE Tryz.prog 5 m (.sl 0 (A - fr) (Z - A) (n - (A - fr)) true) dv=some ⟨intV (min (W - (A - i*W)) (Z - A):Nat),m.put 0 (some ⟨tabA n fun j=>if fr+j < (i+1)*W then FF j else 0,5,.flat,true⟩),none⟩:=cut_copy hb (hsrc m) hDl (fun j=>hFx j hx) hA2 hZ2 hsuc hn' hAZ
     have hstep:∀ (j:Nat) (y:RefI),j < i+1→l[j]? = some y→meetB W fr to j=true→lostB k r c w L y=false:=fun j y hj hy hmt=>by
      by_cases hji:j=i
      ·subst hji
       rw [hx] at hy
       cases hy
       exact hlBx
      ·exact hno j y (by omega) hy hmt
     replace hno:=Hid.mk hno
     replace hstep:=Hid.mk hstep
     replace hb:=Hid.mk hb
     replace hRr:=Hid.mk hRr
     replace hDr:=Hid.mk hDr
     replace r2:=Hid.mk r2
     replace hsrc:=Hid.mk hsrc
     replace hFx:=Hid.mk hFx
     simp only [↓pre,simprocAttr,parV,sx,tys73,onceCu,bne,postU,postV,hf,ho,e1,e2,e3,e4,e10,e12,e36,e37,hlt',hlt,w1,wi,w2,hA,hZ,hAZ',hsr.addr',ha,hb2,sR,sD,wA,wZ,wD,hso,hsl,hsx,s2,hcp,copy2,optNat,Option.map_some,Option.map_none,sr]
     (first | refine call_plain (hr) (by first | rfl | simp only [parV,plQ, *]) ?_ | refine call_pure (hr) (by first | rfl | simp only [parV,plQ, *]) (by intro k;first | rfl | simp only [sq,sr, *]) ?_);simp only [↓pre,simprocAttr,parV,sx,tys73,onceCu,bne,postU,postV,hf,ho,e1,e2,e3,e4,e10,e12,e36,e37,hlt',hlt,w1,wi,w2,hA,hZ,hAZ',hsr.addr',ha,hb2,sR,sD,wA,wZ,wD,hso,hsl,hsx,s2,hcp,copy2,optNat,Option.map_some,Option.map_none,sr];(first | refine call_plain (hrd) (by first | rfl | simp only [parV,plQ, *]) ?_ | refine call_pure (hrd) (by first | rfl | simp only [parV,plQ, *]) (by intro k;first | rfl | simp only [sq,sr, *]) ?_);simp only [↓pre,simprocAttr,parV,sx,tys73,onceCu,bne,postU,postV,hf,ho,e1,e2,e3,e4,e10,e12,e36,e37,hlt',hlt,w1,wi,w2,hA,hZ,hAZ',hsr.addr',ha,hb2,sR,sD,wA,wZ,wD,hso,hsl,hsx,s2,hcp,copy2,optNat,Option.map_some,Option.map_none,sr]
     refine contW_fixed (by kernel_rfl) ?_
     simp only [↓pre,simprocAttr,parV,sx,tys73,onceCu,bne,postU,postV,hf,ho,e1,e2,e3,e4,e10,e12,e36,e37,hlt',hlt,w1,wi,w2,hA,hZ,hAZ',hsr.addr',ha,hb2,sR,sD,wA,wZ,wD,hso,hsl,hsx,s2,hcp,copy2,optNat,Option.map_some,Option.map_none,sr]
     exact ⟨q - 1,by have:=hq.out;omega,i+1,by have:=hq.out;omega,rfl,⟨rfl,hstep.out⟩⟩
   ·rw [decide_eq_false hAZ] at hmeet
    have hAZ':((Z:Nat):Int)≤((A:Nat):Int):=by omega
    have hstep:∀ (j:Nat) (y:RefI),j < i+1→l[j]? = some y→meetB W fr to j=true→lostB k r c w L y=false:=fun j y hj hy hmt=>by
     by_cases hji:j=i
     ·subst hji
      rw [hmeet] at hmt
      cases hmt
     ·exact hno j y (by omega) hy hmt
    have hn':=hn.out
    have heq:(tabA n fun j=>if fr+j < i*W then FF j else 0)=tabA n fun j=>if fr+j < (i+1)*W then FF j else 0:=tabA_congr fun j hj=>by
     by_cases h5:fr+j < i*W
     ·rw [if_pos h5,if_pos (by omega)]
     ·rw [if_neg h5,if_neg (by omega)]
    rw [heq] at hb
    replace hno:=Hid.mk hno
    replace hstep:=Hid.mk hstep
    replace hb:=Hid.mk hb
    replace heq:=Hid.mk heq
    simp only [↓pre,simprocAttr,parV,sx,tys73,onceCu,bne,postU,postV,hf,ho,e1,e2,e3,e4,e10,e12,e36,e37,hlt',hlt,w1,wi,w2,hA,hZ,hAZ',sr]
    exact ⟨q - 1,by have:=hq.out;omega,i+1,by have:=hq.out;omega,rfl,⟨hb.out,hstep.out⟩⟩
  ·have hlt':¬ ((i:Nat):Int) < ((l.length:Nat):Int):=by omega
   have hi:i=l.length:=by have:=hq.out;omega
   have h0:=hgood.out fun j x hx hmt=>hno j x (by have:=(List.getElem?_eq_some_iff.1 hx).1;omega) hx hmt
   have hres:=hRES.out
   rw [h0,if_pos rfl] at hres
   have heq:(tabA n fun j=>if fr+j < i*W then FF j else 0)=bytesA (tab n FF):=by
    rw [show bytesA (tab n FF)=tabA n FF from rfl]
    refine tabA_congr fun j hj => ?_
    rw [hi]
    by_cases h5:fr+j < l.length*W
    ·rw [if_pos h5]
    ·rw [if_neg h5,hF0.out j h5]
   rw [heq] at hb
   have htk:takA (tab n FF) = .tree n n (bytesA (tab n FF)) true:=by
    unfold takA
    rw [tab_len,if_neg (by have:=hn.out;omega)]
   rw [htk] at hres
   replace hno:=Hid.mk hno
   replace hb:=Hid.mk hb
   replace heq:=Hid.mk heq
   replace hres:=Hid.mk hres
   replace htk:=Hid.mk htk
   simp only [↓pre,simprocAttr,parV,sx,tys73,onceCu,bne,postU,postV,hf,ho,e1,e2,e3,e4,e10,e12,e36,e37,hlt',sr]
   rw [←hres.out]
   exact ⟨0,by rw [fzT_tup,fzTs_cons,fzT_flat hb.out,Option.bind_some,fzTs_cons,fzT_val,fzTs_nil,List.drop_zero];rfl⟩
theorem refsOk_at {w:Int} {l:List RefI} (h:refsOk w l=true):∀ x∈l,refB w x=true:=fun x hx=>List.all_eq_true.1 h x hx
theorem leaves_refs {k r c w : Int} {L : List (List UInt8)} (hk : lI k c ≤ 128) : ∀ (l : List RefI) (n : Int), leavesE k r c w L l n = 0 → (∀ x ∈ leavesR k r c w L l n, refB w x = true) ∧ (leavesR k r c w L l n).length ≤ l.length * 128
 | [], n, _ => ⟨fun x hx => by simp [leavesR] at hx, by simp [leavesR]⟩
 | y :: l, n, h => by
   unfold leavesE at h
   split at h
   · rename_i h1
     obtain ⟨h2, h3⟩ := leaves_refs hk l _ h
     obtain ⟨hn1, hn2⟩ := leaf_ok h1
     unfold leavesR
     refine ⟨fun x hx => ?_, ?_⟩
     · rcases List.mem_append.1 hx with hx | hx
       · unfold leafE at h1
         split at h1
         · omega
         · unfold refsE at h1
           split at h1
           · omega
           · split at h1
             · rename_i h4
               exact refsOk_at h4.1 x hx
             · omega
       · exact h2 x hx
     · rw [List.length_append, leafR_len, List.length_cons]
       omega
   · contradiction
theorem obj_refs {k r c w:Int} {L:List (List UInt8)} {row:Int} (h:objE k r c w L row=0):imE k r c w L=0∧rowE k r c w L row=0∧comE k r c w (rowL k r w L row)=0∧(∀ x∈objS k r c w L row,refB w x=true)∧(objS k r c w L row).length≤20000∧0≤pLen (objD k r c w L row)∧pLen (objD k r c w L row)≤32768:=by
 unfold objE at h
 split at h
 ·rename_i hR
  split at h
  ·rename_i hC
   have hD:=com_desc hC
   obtain ⟨hl0,hl1,hdep,hll,hlr⟩:=desc_bounds hD
   obtain ⟨hrb,hm⟩:=row_rowB hR
   have hw:=may_w hm
   have hdb:=d_bounds hw.1 hw.2
   have hlb:=l_bounds hw.1 hw.2
   have hE:imE k r c w L=0:=by
    unfold rowE at hR
    split at hR
    ·assumption
    ·assumption
   refine ⟨hE,hR,hC, ?_⟩
   have hPR:(pRefs (objD k r c w L row)).length≤126:=by unfold dI at hll;unfold objD;omega
   have hre:∀ x∈pRefs (objD k r c w L row),refB w x=true:=fun x hx=>by
    have:=hlr x hx
    unfold refB
    exact decide_eq_true this
   unfold objS
   split at h
   ·rename_i hd
    rw [if_pos hd]
    exact ⟨hre,by omega,hl0,hl1⟩
   ·rename_i hd
    rw [if_neg hd]
    obtain ⟨h1,h2⟩:=leaves_refs (by unfold lI;omega) _ _ h
    exact ⟨h1,by omega,hl0,hl1⟩
  ·contradiction
 ·contradiction
def bytV (k r c w:Int) (L:List (List UInt8)) (row:Int):AV:=if objE k r c w L row=0 then cutV k r c w L (objS k r c w L row) 0 (pLen (objD k r c w L row)).toNat else .tup [nilS,intV (objE k r c w L row)]
theorem cutV_two (k r c w:Int) (L:List (List UInt8)) (l:List RefI) (fr to:Nat):∃ a e,cutV k r c w L l fr to = .tup [a,intV e]∧(∀ j,shift j a=a)∧fzId a:=by
 have h:=taken_rd (cutB k r c w L l fr to)
 unfold cutV
 split
 ·exact ⟨_,_,rfl,fun j=>rd_shift h j,fzId_rd h⟩
 ·exact ⟨_,_,rfl,fun j=>rfl,fzId_val _⟩
theorem object_Bytes (k r c w row:Int) (v:AV) (L:List (List UInt8)) (cells:List AV) (hv:RowsV v L cells):FSpec Tryz.prog 45 [imV k r c w v,intV row] ⟨bytV k r c w L row,[]⟩:=by
 refine fspec_fzT ?_
 have hp:=hv.rd.plain
 have hf:=rd_fz hv.rd
 have ho:=rd_one hv.rd
 have hob:=tree_Object k r c w row v L cells hv
 unfold bytV
 unfold objV at hob
 unfold imV at hob ⊢
 by_cases hE:objE k r c w L row=0
 ·rw [if_pos hE] at hob ⊢
  obtain ⟨hI,_,_,hre,hlen,hl0,hl1⟩:=obj_refs hE
  obtain ⟨N,hN⟩:∃ N:Nat,pLen (objD k r c w L row)=(N:Int):=⟨(pLen (objD k r c w L row)).toNat,by omega⟩
  have hRr:=treeR_rd (pRefs (objD k r c w L row)).length (refsA (pRefs (objD k r c w L row)))
  have hLr:=treeR_rd (objL k r c w L row).length (refsA (objL k r c w L row))
  have hSr:=treeR_rd (objS k r c w L row).length (refsA (objS k r c w L row))
  have hcu:=object_cut k r c w v L cells hv hI (treeR (objS k r c w L row).length (refsA (objS k r c w L row))) (objS k r c w L row) ⟨[],by rw [List.append_nil];exact hSr⟩ hre hlen 0 N (by omega)
  obtain ⟨a,e,he,hsh,hid⟩:=cutV_two k r c w L (objS k r c w L row) 0 N
  have hz:=fun m=>fzId_two hid (fzId_val (.int .i64 e)) 1 m
  replace hz:=Hid.mk hz
  rw [hN,Int.toNat_natCast,he]
  rw [he] at hcu
  unfold descA refsT at hob
  unfold imV at hcu
  rw [hN] at hob
  generalize treeR (pRefs (objD k r c w L row)).length (refsA (pRefs (objD k r c w L row)))=DV at *
  generalize treeR (objL k r c w L row).length (refsA (objL k r c w L row))=LV at *
  generalize treeR (objS k r c w L row).length (refsA (objS k r c w L row))=SV at *
  have f2:=rd_fz hRr
  have o2:=rd_one hRr
  have s2:=rd_shift hRr
  have s3:=rd_shift hLr
  have s4:=rd_shift hSr
  have p4:=hSr.plain
  generalize pDep (objD k r c w L row)=PD at *
  generalize winI k r c w (rowL k r w L row)=W at *
  simp only [intV,Int.natCast_zero,Int.cast_ofNat_Int] at hob hcu
  replace hE:=Hid.mk hE
  replace hN:=Hid.mk hN
  replace hre:=Hid.mk hre
  replace hlen:=Hid.mk hlen
  replace hl0:=Hid.mk hl0
  replace hl1:=Hid.mk hl1
  replace he:=Hid.mk he
  replace hRr:=Hid.mk hRr
  replace hLr:=Hid.mk hLr
  replace hSr:=Hid.mk hSr
  refine ospec_of_body follows Tryz.func45 (by unfold Tryz.f45;rfl) (by unfold Tryz.f45;simp) onceA (by unfold Tryz.f45;simp) (by kernel_rfl) ?_;unfold Tryz.f45
  simp only [↓pre,simprocAttr,parV,sx,tys45,onceA,postU,hf,ho,storeE,allocE,put_at,push_at,sr]
  (first | refine call_plain (hob) (by first | rfl | simp only [parV,plQ, *]) ?_ | refine call_pure (hob) (by first | rfl | simp only [parV,plQ, *]) (by intro k;first | rfl | simp only [sq,sr, *]) ?_);simp only [↓pre,simprocAttr,parV,sx,tys45,onceA,postU,hf,ho,storeE,allocE,put_at,push_at,f2,o2,s2,s3,s4,hsh,sr];(first | refine call_plain (hcu) (by first | rfl | simp only [parV,plQ, *]) ?_ | refine call_pure (hcu) (by first | rfl | simp only [parV,plQ, *]) (by intro k;first | rfl | simp only [sq,sr, *]) ?_);simp only [↓pre,simprocAttr,parV,sx,tys45,onceA,postU,hf,ho,storeE,allocE,put_at,push_at,f2,o2,s2,s3,s4,hsh,sr]
  exact ⟨1,hz.out _⟩
 ·rw [if_neg hE] at hob ⊢
  unfold desc0 nilS at hob
  simp only [intV] at hob
  refine ospec_of_body follows Tryz.func45 (by unfold Tryz.f45;rfl) (by unfold Tryz.f45;simp) onceA (by unfold Tryz.f45;simp) (by kernel_rfl) ?_;unfold Tryz.f45
  simp only [↓pre,simprocAttr,parV,sx,tys45,onceA,postU,hf,ho,storeE,allocE,put_at,push_at,sr]
  (first | refine call_plain (hob) (by first | rfl | simp only [parV,plQ, *]) ?_ | refine call_pure (hob) (by first | rfl | simp only [parV,plQ, *]) (by intro k;first | rfl | simp only [sq,sr, *]) ?_);simp only [↓pre,simprocAttr,parV,sx,tys45,onceA,postU,hf,ho,storeE,allocE,put_at,push_at,hE,sr]
  exact ⟨1,fzId_two (fzId_val (.slice none 0 0)) (fzId_val (.int .i64 (objE k r c w L row))) 1 _⟩
theorem appz2 {P:Program} {m:Mem} {t t2 ty:TypeId} {s x:AV} (h2:notInt P t2=false) (h3:isInt P t2=true):builtinE P m #[t,t2] ty [s,x] .append=(elE P t).bind fun el=>(natOf x).bind fun n=>appZ P el m s n:=by simp [builtinE,h2,h3]
theorem cap1 {P:Program} {m:Mem} {t ty:TypeId} {x:AV}:builtinE P m #[t] ty [x] .cap=(elE P t).bind fun _=>outO (capE x) m:=rfl
def zeroR (n:Nat):List AV:=zcells [.int .i64 0,.int .i64 0] (n*2)
theorem zeroR_len (n:Nat):(zeroR n).length=n*2:=by simp [zeroR,zcells]
def growM (m:Mem) (n:Nat):Mem:=if n=0 then m else m.push ⟨zeroR n,90,.flat,true⟩
def growA (m:Mem) (n:Nat):AV:=if n=0 then nilS else .sl m.next 0 0 n false
theorem grow_refs (m:Mem) (n:Nat) (hn:n≤100000):OSpec Tryz.prog 84 [nilS,intV (n:Nat)] m fun r m'=>r=growA m n∧m'=growM m n:=by
 have g0:¬ ((n:Nat):Int) < 0:=by omega
 have w1:IntKind.i64.wrap ((n:Nat):Int)=((n:Nat):Int):=wrap_nat (by omega)
 have hcap:capE nilS=some (.val (.int .i64 0)):=rfl
 have hlen:lenE Tryz.prog 83 nilS=some (.val (.int .i64 0)):=by kernel_rfl
 have hsl:sliceE Tryz.prog 83 none (some 0) none nilS=some nilS:=by kernel_rfl
 have hso:slOk Tryz.prog m 83 nilS=true:=rfl
 have hno:notInt Tryz.prog 3=false:=by kernel_rfl
 have hin:isInt Tryz.prog 3=true:=by kernel_rfl
 have n0:natOf (.val (.int .i64 0))=some 0:=rfl
 have w0:IntKind.i64.wrap 0=0:=by decide
 have w2:IntKind.i64.wrap (((n:Nat):Int) - 0)=((n:Nat):Int):=by rw [Int.sub_zero];exact w1
 unfold nilS at hcap hlen hsl hso
 by_cases h0:n=0
 ·subst h0
  refine ospec_of_body follows Tryz.func84 (by unfold Tryz.f84;rfl) (by unfold Tryz.f84;simp) onceA (by unfold Tryz.f84;simp) (by kernel_rfl) ?_;unfold Tryz.f84
  simp only [↓pre,simprocAttr,parV,sx,tys84,onceA,postU,postV,cap1,hcap,hlen,hsl,hso,w0,w1,w2,g0,optNat,Option.map_some,Option.map_none,n0,nilS,Int.natCast_zero,Int.cast_ofNat_Int,sr]
  exact ⟨rfl,rfl⟩
 ·have h0':(0:Int) < ((n:Nat):Int):=by omega
  have haz:appZ Tryz.prog 90 m (.val (.slice none 0 0)) n=some ⟨.sl m.next 0 n n false,m.push ⟨zeroR n,90,.flat,true⟩,none⟩:=by
   have h1:szE Tryz.prog 90=some 2:=by kernel_rfl
   have h2:byE Tryz.prog 90=some 16:=by kernel_rfl
   have h3:zeroE Tryz.prog 90=some [.int .i64 0,.int .i64 0]:=by kernel_rfl
   have h4:kindT Tryz.prog 90 = .flat:=by kernel_rfl
   simp only [appZ,h1,h2,h3,h4,slView,Option.bind_some]
   rw [if_pos ⟨by omega,by omega,rfl,h0,.inl trivial,by simp⟩]
   simp [outV,zeroR]
  have hsl2:sliceE Tryz.prog 83 none (some 0) none (.sl m.next 0 n n false)=some (.sl m.next 0 0 n false):=by
   have h3:elE Tryz.prog 83=some 90:=by kernel_rfl
   have h4:szE Tryz.prog 90=some 2:=by kernel_rfl
   simp [sliceE,h3,h4,Tw.cutE]
  have hso2:slOk Tryz.prog (m.push ⟨zeroR n,90,.flat,true⟩) 83 (.sl m.next 0 n n false)=true:=by
   have:elE Tryz.prog 83=some 90:=by kernel_rfl
   simp [slOk,push_at,this]
  have nn:natOf (.val (.int .i64 ((n:Nat):Int)))=some n:=nat_of
  have haz2:=appz2 (P:=Tryz.prog) (m:=m) (t:=83) (t2:=3) (ty:=83) (s := .val (.slice none 0 0)) (x := .val (.int .i64 ((n:Nat):Int))) hno hin
  refine ospec_of_body follows Tryz.func84 (by unfold Tryz.f84;rfl) (by unfold Tryz.f84;simp) onceA (by unfold Tryz.f84;simp) (by kernel_rfl) ?_;unfold Tryz.f84
  simp only [↓pre,simprocAttr,parV,sx,tys84,onceA,postU,postV,cap1,hcap,hlen,hsl,hso,w0,w1,w2,g0,optNat,Option.map_some,Option.map_none,n0,nilS,h0',haz2,nn,haz,hsl2,hso2,sr]
  exact ⟨by unfold growA;rw [if_neg h0],by unfold growM;rw [if_neg h0]⟩
structure Room (m:Mem) (v:AV) (N:Nat) (pre:List RefI):Prop where
 ex:∃ j rest,v = .sl j 0 pre.length N false∧m.at_ j=some ⟨refsA pre++rest,90,.flat,true⟩∧j < m.next∧(refsA pre++rest).length=N*2
theorem app_room {m:Mem} {v x:AV} {N:Nat} {pre l:List RefI} {K:Out→Prop} (h:Room m v N pre) (hN:N≤100000) (hfit:pre.length+l.length≤N) (hsrc:srcE Tryz.prog 90 2 m x=some (refsA l,l.length)) (hK:∀ v' m',Room m' v' N (pre++l)→K ⟨v',m',none⟩):outW (appE Tryz.prog 90 m v x) K:=by
 obtain ⟨j,rest,rfl,hb,hj,hlen⟩:=h.ex
 have h1:szE Tryz.prog 90=some 2:=by kernel_rfl
 have h2:byE Tryz.prog 90=some 16:=by kernel_rfl
 have h3:zeroE Tryz.prog 90=some [.int .i64 0,.int .i64 0]:=by kernel_rfl
 have h4:kindT Tryz.prog 90 = .flat:=by kernel_rfl
 have hpl:=refsA_len pre
 have hll:=refsA_len l
 by_cases hf:pre.length*2=(refsA pre++rest).length
 ·have hl0:l=[]:=List.eq_nil_of_length_eq_zero (by omega)
  subst hl0
  have:appE Tryz.prog 90 m (.sl j 0 pre.length N false) x=some ⟨.sl m.next 0 pre.length pre.length false,(m.put j none).push ⟨refsA pre++rest,90,.flat,true⟩,none⟩:=by
   simp only [appE,h1,h2,h3,h4,hsrc,slView,hb,Option.bind_some,if_true]
   rw [if_pos ⟨by simp;omega,by simp;omega,rfl⟩]
   have ht:Go.Tw.tight (.sl j 0 pre.length N false) ([]:List RefI).length=false:=rfl
   simp only [Bool.false_and,Bool.false_eq_true,if_false,ht,hb,Option.bind_some,List.drop_zero,Nat.zero_add]
   rw [if_pos ⟨trivial,trivial,hf⟩]
   simp [outV,refsA]
  rw [this]
  have hn:N=pre.length:=by omega
  refine hK _ _ ⟨m.next,rest,by rw [List.append_nil,hn],by rw [push_at,if_pos (by rw [put_next]),List.append_nil],by rw [push_next,put_next];omega,by rw [List.append_nil];exact hlen⟩
 ·have:appE Tryz.prog 90 m (.sl j 0 pre.length N false) x=some ⟨.sl j 0 (pre.length+l.length) N false,m.put j (some ⟨splice (refsA pre++rest) (pre.length*2) (refsA l),90,.flat,true⟩),none⟩:=by
   simp only [appE,h1,h2,h3,h4,hsrc,slView,hb,Option.bind_some,if_true]
   rw [if_pos ⟨by omega,by omega,rfl⟩]
   have hf':¬ (pre.length*2=(refsA pre).length+rest.length):=by rw [List.length_append] at hf;exact hf
   rw [List.length_append] at hlen
   have hc:(pre.length+l.length)*2≤(refsA pre).length+rest.length:=by omega
   have ht:Go.Tw.tight (.sl j 0 pre.length N false) l.length=false:=rfl
   simp only [Bool.false_and,Bool.false_eq_true,if_false,ht,hb,Option.bind_some,List.drop_zero,Nat.zero_add,List.length_append]
   rw [if_neg (fun h=>hf' h.2.2),if_pos ⟨trivial,trivial,hfit,hc⟩]
   rfl
  rw [this]
  have hsp:splice (refsA pre++rest) (pre.length*2) (refsA l)=refsA (pre++l)++rest.drop (l.length*2):=by
   unfold splice
   rw [refsA_append,←hpl,List.take_left]
   congr 1
   rw [List.drop_append,List.drop_eq_nil_of_le (by omega),List.nil_append]
   congr 1
   omega
  rw [hsp]
  refine hK _ _ ⟨j,rest.drop (l.length*2),by rw [List.length_append],by rw [put_at,if_pos rfl],by rw [put_next];exact hj, ?_⟩
  rw [←hsp,splice_length _ _ _ (by omega)]
  exact hlen
theorem room_fz {m:Mem} {v:AV} {N:Nat} {pre:List RefI} (h:Room m v N pre) (hN:pre.length=N) (h0:N≠0) (k:Nat):fzT k m v=some (treeR N (refsA pre)):=by
 obtain ⟨j,rest,rfl,hb,hj,hlen⟩:=h.ex
 have hpl:=refsA_len pre
 have hr:rest=[]:=List.eq_nil_of_length_eq_zero (by rw [List.length_append] at hlen;omega)
 subst hr
 rw [fzT_flat hb,List.drop_zero,List.append_nil]
 unfold treeR
 rw [if_neg h0,hN]
theorem app_nil0 {m:Mem} {x:AV} (hsrc:srcE Tryz.prog 90 2 m x=some ([],0)):appE Tryz.prog 90 m (.val (.slice none 0 0)) x=some ⟨.val (.slice none 0 0),m,none⟩:=by
 have h1:szE Tryz.prog 90=some 2:=by kernel_rfl
 have h2:byE Tryz.prog 90=some 16:=by kernel_rfl
 have h3:zeroE Tryz.prog 90=some [.int .i64 0,.int .i64 0]:=by kernel_rfl
 simp [appE,h1,h2,h3,hsrc,slView,outV]
def conL (a b:List RefI) (i:Nat):List RefI:=if i=0 then [] else if i=1 then a else a++b
theorem concat_refs (LV SV:AV) (a b:List RefI) (ha:RdSl LV a.length (refsA a)) (hb:RdSl SV b.length (refsA b)) (hl:a.length+b.length≤50000):FSpec Tryz.prog 49 [.tree 2 2 [LV,SV] true] ⟨treeR (a++b).length (refsA (a++b)),[]⟩:=by
 refine fspec_fzT ?_
 obtain ⟨N,hN⟩:∃ N,a.length+b.length=N:=⟨_,rfl⟩
 have hgr:=fun m=>grow_refs m N (by omega)
 have oA:=rd_one ha
 have oB:=rd_one hb
 have lA:=fun t ht=>ha.len' (P:=Tryz.prog) (t:=t) ht
 have lB:=fun t ht=>hb.len' (P:=Tryz.prog) (t:=t) ht
 have sA:=fun m=>ha.src (P:=Tryz.prog) (m:=m) (el:=90) (sz:=2) (by rw [refsA_len];omega)
 have sB:=fun m=>hb.src (P:=Tryz.prog) (m:=m) (el:=90) (sz:=2) (by rw [refsA_len];omega)
 rw [show (refsA a).take (a.length*2)=refsA a from List.take_of_length_le (by rw [refsA_len];omega)] at sA
 rw [show (refsA b).take (b.length*2)=refsA b from List.take_of_length_le (by rw [refsA_len];omega)] at sB
 have w1:IntKind.i64.wrap (0+((a.length:Nat):Int))=((a.length:Nat):Int):=by rw [Int.zero_add];exact wrap_nat (by omega)
 have w2:IntKind.i64.wrap (((a.length:Nat):Int)+((b.length:Nat):Int))=((N:Nat):Int):=by rw [show ((a.length:Nat):Int)+((b.length:Nat):Int)=((N:Nat):Int) by omega];exact wrap_nat (by omega)
 have g1:¬ ((a.length:Nat):Int) < 0:=by omega
 have g2:¬ ((N:Nat):Int) < 0:=by omega
 have wi0:IntKind.i64.wrap (0+1)=1:=by decide
 have wi1:IntKind.i64.wrap (1+1)=2:=by decide
 have n0:natOf (.val (.int .i64 0))=some 0:=rfl
 have n1:natOf (.val (.int .i64 1))=some 1:=rfl
 have hlen2:lenE Tryz.prog 134 (.tree 2 2 [LV,SV] true)=some (.val (.int .i64 2)):=by
  have:elE Tryz.prog 134=some 83:=by kernel_rfl
  simp [lenE,this,slLen,intV]
 have hadd:∀ k,k < 2→addrE Tryz.prog 134 k (.tree 2 2 [LV,SV] true)=some (.tptr k [LV,SV]):=fun k hk=>by
  have h1:elE Tryz.prog 134=some 83:=by kernel_rfl
  have h2:szE Tryz.prog 83=some 1:=by kernel_rfl
  simp [addrE,h1,h2,hk]
 have hadd0:=hadd 0 (by decide)
 have hadd1:=hadd 1 (by decide)
 clear hadd
 replace sA:=Hid.mk sA
 replace sB:=Hid.mk sB
 refine ospec_of_body follows Tryz.func49 (by unfold Tryz.f49;rfl) (by unfold Tryz.f49;simp) onceA (by unfold Tryz.f49;simp) (by kernel_rfl) ?_;unfold Tryz.f49
 simp only [↓pre,simprocAttr,parV,sx,tys49,onceA,postU,postV,hlen2,hadd0,hadd1,oA,oB,lA,lB,w1,w2,g1,g2,wi0,wi1,n0,n1,sr]
 rw [codeW_loop]
 refine loop_intro (fun q e m=>∃ i s:Nat,q+i=2∧e 0 = .tree 2 2 [LV,SV] true∧e 9 = .tree 2 2 [LV,SV] true∧e 10=intV 2∧e 11=intV (i:Nat)∧e 3=intV (s:Nat)∧m=Mem.empty∧s=(conL a b i).length) 2 ⟨0,0,by omega,rfl,rfl,rfl,rfl,rfl,rfl,rfl⟩ ?_
 rintro q e m ⟨i,s,hq,e0,e9,e10,e11,e3,hm,hs⟩
 replace hq:=Hid.mk hq
 obtain rfl | rfl | rfl:i=0∨i=1∨i=2:=by have:=hq.out;omega
 ·replace hs:s=0:=hs
  subst hs
  simp only [↓pre,simprocAttr,parV,sx,tys49,onceA,postU,postV,hlen2,hadd0,hadd1,oA,oB,lA,lB,w1,w2,g1,g2,wi0,wi1,n0,n1,e0,e9,e10,e11,e3,Int.natCast_zero,Int.cast_ofNat_Int,sr]
  exact ⟨q - 1,by have:=hq.out;omega,1,a.length,by have:=hq.out;omega,rfl,rfl,hm,rfl⟩
 ·replace hs:s=a.length:=hs
  subst hs
  simp only [↓pre,simprocAttr,parV,sx,tys49,onceA,postU,postV,hlen2,hadd0,hadd1,oA,oB,lA,lB,w1,w2,g1,g2,wi0,wi1,n0,n1,e0,e9,e10,e11,e3,Int.natCast_one,Int.cast_ofNat_Int,sr]
  exact ⟨q - 1,by have:=hq.out;omega,2,N,by have:=hq.out;omega,rfl,rfl,hm,by rw [←hN];exact (List.length_append ..).symm⟩
 ·have hs2:s=N:=by rw [hs,←hN];exact List.length_append ..
  subst hs2
  subst hm
  replace hs:=Hid.mk hs
  simp only [↓pre,simprocAttr,parV,sx,tys49,onceA,postU,postV,hlen2,hadd0,hadd1,oA,oB,lA,lB,w1,w2,g1,g2,wi0,wi1,n0,n1,e0,e9,e10,e11,e3,Int.cast_ofNat_Int,show (((2:Nat):Int))=2 from rfl,sr]
  refine call_det (hgr _) ?_
  simp only [↓pre,simprocAttr,parV,sx,tys49,onceA,postU,postV,hlen2,hadd0,hadd1,oA,oB,lA,lB,w1,w2,g1,g2,wi0,wi1,n0,n1,e0,e9,e10,e11,e3,sr]
  by_cases h0:s=0
  ·have ha0:a=[]:=List.eq_nil_of_length_eq_zero (by omega)
   have hb0:b=[]:=List.eq_nil_of_length_eq_zero (by omega)
   have ap0:=fun m=>app_nil0 (m:=m) (x:=LV) (by have:=sA.out m;rw [ha0] at this;exact this)
   have ap1:=fun m=>app_nil0 (m:=m) (x:=SV) (by have:=sB.out m;rw [hb0] at this;exact this)
   simp only [growA,growM,if_pos h0]
   rw [codeW_loop]
   refine loop_intro (fun q e m=>∃ i:Nat,q+i=2∧e 6 = .val (.slice none 0 0)∧e 25 = .tree 2 2 [LV,SV] true∧e 26=intV 2∧e 27=intV (i:Nat)) 2 ⟨0,by omega,rfl,rfl,rfl,rfl⟩ ?_
   rintro q e m ⟨i,hq,e6,e25,e26,e27⟩
   replace hq:=Hid.mk hq
   obtain rfl | rfl | rfl:i=0∨i=1∨i=2:=by have:=hq.out;omega
   ·simp only [↓pre,simprocAttr,parV,sx,tys49,onceA,postU,postV,hlen2,hadd0,hadd1,oA,oB,lA,lB,w1,w2,g1,g2,wi0,wi1,n0,n1,e6,e25,e26,e27,Int.natCast_zero,Int.cast_ofNat_Int,ap0,sr]
    exact ⟨q - 1,by have:=hq.out;omega,1,by have:=hq.out;omega,rfl⟩
   ·simp only [↓pre,simprocAttr,parV,sx,tys49,onceA,postU,postV,hlen2,hadd0,hadd1,oA,oB,lA,lB,w1,w2,g1,g2,wi0,wi1,n0,n1,e6,e25,e26,e27,Int.natCast_one,Int.cast_ofNat_Int,ap1,sr]
    exact ⟨q - 1,by have:=hq.out;omega,2,by have:=hq.out;omega,rfl⟩
   ·have e:treeR (a++b).length (refsA (a++b))=nilS:=by rw [ha0,hb0];rfl
    rw [e]
    simp only [↓pre,simprocAttr,parV,sx,tys49,onceA,postU,postV,hlen2,hadd0,hadd1,oA,oB,lA,lB,w1,w2,g1,g2,wi0,wi1,n0,n1,e6,e25,e26,e27,Int.cast_ofNat_Int,show (((2:Nat):Int))=2 from rfl,sr]
    exact ⟨0,fzT_val⟩
  ·have hroom:∀ m:Mem,Room (growM m s) (growA m s) s []:=fun m=>by
    unfold growM growA
    rw [if_neg h0,if_neg h0]
    exact ⟨m.next,zeroR s,rfl,by rw [push_at,if_pos rfl];rfl,by rw [push_next];omega,zeroR_len s⟩
   rw [codeW_loop]
   refine loop_intro (fun q e m=>∃ i:Nat,q+i=2∧e 25 = .tree 2 2 [LV,SV] true∧e 26=intV 2∧e 27=intV (i:Nat)∧Hid (Room m (e 6) s (conL a b i))) 2 ⟨0,by omega,rfl,rfl,rfl,⟨hroom _⟩⟩ ?_
   rintro q e m ⟨i,hq,e25,e26,e27,hJ⟩
   replace hq:=Hid.mk hq
   generalize hv6:e 6=v6 at *
   obtain rfl | rfl | rfl:i=0∨i=1∨i=2:=by have:=hq.out;omega
   ·simp only [↓pre,simprocAttr,parV,sx,tys49,onceA,postU,postV,hlen2,hadd0,hadd1,oA,oB,lA,lB,w1,w2,g1,g2,wi0,wi1,n0,n1,hv6,e25,e26,e27,Int.natCast_zero,Int.cast_ofNat_Int,sr]
    refine app_room (l:=a) hJ.out (by omega) (by simp only [conL];simp;omega) (sA.out m) ?_
    intro v' m' hr
    simp only [↓pre,simprocAttr,parV,sx,tys49,onceA,postU,postV,hlen2,hadd0,hadd1,oA,oB,lA,lB,w1,w2,g1,g2,wi0,wi1,n0,n1,hv6,e25,e26,e27,sr]
    exact ⟨q - 1,by have:=hq.out;omega,1,by have:=hq.out;omega,rfl,⟨by simpa [conL] using hr⟩⟩
   ·simp only [↓pre,simprocAttr,parV,sx,tys49,onceA,postU,postV,hlen2,hadd0,hadd1,oA,oB,lA,lB,w1,w2,g1,g2,wi0,wi1,n0,n1,hv6,e25,e26,e27,Int.natCast_one,Int.cast_ofNat_Int,sr]
    refine app_room (l:=b) hJ.out (by omega) (by simp only [conL];simp;omega) (sB.out m) ?_
    intro v' m' hr
    simp only [↓pre,simprocAttr,parV,sx,tys49,onceA,postU,postV,hlen2,hadd0,hadd1,oA,oB,lA,lB,w1,w2,g1,g2,wi0,wi1,n0,n1,hv6,e25,e26,e27,sr]
    exact ⟨q - 1,by have:=hq.out;omega,2,by have:=hq.out;omega,rfl,⟨by simpa [conL] using hr⟩⟩
   ·have hr:=hJ.out
    have e:(a++b).length=s:=by rw [List.length_append];omega
    rw [e]
    have hfin:=room_fz hr e h0 0
    replace hfin:=Hid.mk hfin
    simp only [↓pre,simprocAttr,parV,sx,tys49,onceA,postU,postV,hlen2,hadd0,hadd1,oA,oB,lA,lB,w1,w2,g1,g2,wi0,wi1,n0,n1,hv6,e25,e26,e27,Int.cast_ofNat_Int,show (((2:Nat):Int))=2 from rfl,sr]
    exact ⟨0,hfin.out⟩
abbrev LiveI:=Int×Int×Int
def liveA (l:List LiveI):List AV:=l.flatMap fun x=>[intV x.1,.val (.int .u8 x.2.1),intV x.2.2]
theorem liveA_len (l:List LiveI):(liveA l).length=l.length*3:=by
 induction l with
 | nil=>rfl
 | cons a l ih=>simp only [liveA,List.flatMap_cons,List.length_append,List.length_cons,List.length_nil] at ih ⊢;omega
theorem liveA_append (a b:List LiveI):liveA (a++b)=liveA a++liveA b:=by simp [liveA]
theorem liveA_at:∀ (l:List LiveI) (i:Nat) (a:LiveI),l[i]? = some a→(liveA l)[i*3]? = some (intV a.1)∧(liveA l)[i*3+1]? = some (.val (.int .u8 a.2.1))∧(liveA l)[i*3+2]? = some (intV a.2.2)
 | [],i,a,h=>by simp at h
 | b::l,0,a,h=>by simp at h;subst h;exact ⟨rfl,rfl,rfl⟩
 | b::l,i+1,a,h=>by
  have ih:=liveA_at l i a (by simpa using h)
  have e:liveA (b::l)=intV b.1 :: .val (.int .u8 b.2.1)::intV b.2.2::liveA l:=rfl
  rw [e,show (i+1)*3=i*3+1+1+1 by omega]
  simpa using ih
def liveT (l:List LiveI):AV := .tree l.length l.length (liveA l) (decide (l.length=1))
theorem liveT_rd (l:List LiveI):RdSl (liveT l) l.length (liveA l):=⟨.inr (.inr ⟨_,_,rfl,Nat.le_refl _⟩)⟩
def datL (l:List RefI):List LiveI:=l.map fun x=>(x.1,1,x.2)
theorem datL_len (l:List RefI):(datL l).length=l.length:=by simp [datL]
theorem datL_succ {l:List RefI} {i:Nat} {x:RefI} (h:l[i]? = some x):datL (l.take (i+1))=datL (l.take i)++[(x.1,1,x.2)]:=by
 rw [List.take_add_one,h]
 simp [datL]
def strL (k r c w:Int) (L:List (List UInt8)) (row:Int):List LiveI:=(row,2,winI k r c w (rowL k r w L row))::datL (objL k r c w L row++objS k r c w L row)
def strV17 (k r c w:Int) (L:List (List UInt8)) (row:Int):AV:=if objE k r c w L row=0 then .tup [liveT (strL k r c w L row),intV 0] else .tup [nilS,intV (objE k r c w L row)]
theorem objL_len {k r c w:Int} {L:List (List UInt8)} {row:Int} (h:objE k r c w L row=0):(objL k r c w L row).length≤126:=by
 obtain ⟨_,hR,hC,_⟩:=obj_refs h
 have hD:=com_desc hC
 obtain ⟨_,_,_,hll,_⟩:=desc_bounds hD
 obtain ⟨_,hm⟩:=row_rowB hR
 have hw:=may_w hm
 unfold objL
 split
 ·simp
 ·unfold dI at hll
  unfold objD
  omega
theorem tree_Stripes (k r c w row:Int) (v:AV) (L:List (List UInt8)) (cells:List AV) (hv:RowsV v L cells):FSpec Tryz.prog 15 [imV k r c w v,intV row] ⟨strV17 k r c w L row,[]⟩:=by
 refine fspec_fzT ?_
 have hp:=hv.rd.plain
 have hf:=rd_fz hv.rd
 have ho:=rd_one hv.rd
 have hob:=tree_Object k r c w row v L cells hv
 unfold strV17
 unfold objV at hob
 unfold imV at hob ⊢
 by_cases hE:objE k r c w L row=0
 ·rw [if_pos hE] at hob ⊢
  have hLl:=objL_len hE
  obtain ⟨_,_,_,_,hSl,_,_⟩:=obj_refs hE
  have hRr:=treeR_rd (pRefs (objD k r c w L row)).length (refsA (pRefs (objD k r c w L row)))
  have hLr:=treeR_rd (objL k r c w L row).length (refsA (objL k r c w L row))
  have hSr:=treeR_rd (objS k r c w L row).length (refsA (objS k r c w L row))
  have hcc:=concat_refs _ _ _ _ hLr hSr (by omega)
  unfold descA refsT at hob
  unfold strL
  generalize hAl:objL k r c w L row++objS k r c w L row=al at *
  have hal:al.length≤30000:=by rw [←hAl,List.length_append];omega
  have hAr:=treeR_rd al.length (refsA al)
  generalize treeR (pRefs (objD k r c w L row)).length (refsA (pRefs (objD k r c w L row)))=DV at *
  generalize treeR (objL k r c w L row).length (refsA (objL k r c w L row))=LV at *
  generalize treeR (objS k r c w L row).length (refsA (objS k r c w L row))=SV at *
  generalize treeR al.length (refsA al)=AL at *
  have f2:=rd_fz hRr
  have o2:=rd_one hRr
  have s2:=rd_shift hRr
  have s3:=rd_shift hLr
  have s4:=rd_shift hSr
  have s5:=rd_shift hAr
  have o3:=rd_okA hLr
  have o4:=rd_okA hSr
  have c3:=rd_cells hLr
  have c4:=rd_cells hSr
  have q3:=rd_one hLr
  have q4:=rd_one hSr
  have hbt:∀ m,buildTreeE Tryz.prog m 134 2 [(0,LV),(1,SV)]=some ⟨.tree 2 2 [LV,SV] true,m,none⟩:=fun m=>buildT_of (el:=83) (sz:=1) (z:=[.val (.slice none 0 0),.val (.slice none 0 0)]) (by kernel_rfl) (by kernel_rfl) (by kernel_rfl) (by simp [fillE,o3,o4,c3,c4,splice]) (by simp [hasRefs,rd_ref hLr,rd_ref hSr]) (by decide)
  generalize pLen (objD k r c w L row)=PL at *
  generalize pDep (objD k r c w L row)=PD at *
  generalize winI k r c w (rowL k r w L row)=W at *
  have hbl:∀ m (a kd b:Int),buildTreeE Tryz.prog m 29 1 [(0,.agg [.val (.int .i64 a),.val (.int .u8 kd),.val (.int .i64 b)])]=some ⟨.tree 1 1 [.val (.int .i64 a),.val (.int .u8 kd),.val (.int .i64 b)] true,m,none⟩:=fun m a kd b=>buildT_of (el:=45) (sz:=3) (z:=[.val (.int .i64 0),.val (.int .u8 0),.val (.int .i64 0)]) (by kernel_rfl) (by kernel_rfl) (by kernel_rfl) rfl rfl (by decide)
  have hsr:∀ m (a kd b:Int),srcE Tryz.prog 45 3 m (.tree 1 1 [.val (.int .i64 a),.val (.int .u8 kd),.val (.int .i64 b)] true)=some ([.val (.int .i64 a),.val (.int .u8 kd),.val (.int .i64 b)],1):=fun m a kd b=>src_tree (by simp)
  have hats:=fun (i:Nat) (x:RefI) (hi:al[i]? = some x)=>refsA_at al [] i x hi
  rw [List.append_nil] at hats
  simp only [intV] at hob
  replace hE:=Hid.mk hE
  replace hLl:=Hid.mk hLl
  replace hSl:=Hid.mk hSl
  replace hAl:=Hid.mk hAl
  replace hRr:=Hid.mk hRr
  replace hLr:=Hid.mk hLr
  replace hSr:=Hid.mk hSr
  replace hsr:=Hid.mk hsr
  replace hats:=Hid.mk hats
  refine ospec_of_body follows Tryz.func15 (by unfold Tryz.f15;rfl) (by unfold Tryz.f15;simp) onceA (by unfold Tryz.f15;simp) (by kernel_rfl) ?_;unfold Tryz.f15
  simp only [↓pre,simprocAttr,parV,sx,tys15,onceA,postU,postV,hf,ho,storeE,allocE,put_at,push_at,sr]
  (first | refine call_plain (hob) (by first | rfl | simp only [parV,plQ, *]) ?_ | refine call_pure (hob) (by first | rfl | simp only [parV,plQ, *]) (by intro k;first | rfl | simp only [sq,sr, *]) ?_);simp only [↓pre,simprocAttr,parV,sx,tys15,onceA,postU,postV,hf,ho,storeE,allocE,put_at,push_at,f2,o2,s2,s3,s4,q3,q4,hbl,hbt,s5,hAr.len',sr];(first | refine call_plain (hcc) (by first | rfl | simp only [parV,plQ, *]) ?_ | refine call_pure (hcc) (by first | rfl | simp only [parV,plQ, *]) (by intro k;first | rfl | simp only [sq,sr, *]) ?_);simp only [↓pre,simprocAttr,parV,sx,tys15,onceA,postU,postV,hf,ho,storeE,allocE,put_at,push_at,f2,o2,s2,s3,s4,q3,q4,hbl,hbt,s5,hAr.len',sr]
  rw [codeW_loop]
  refine loop_intro (fun q e m=>∃ i,q+i=al.length∧e 33=AL∧e 34=intV (al.length:Nat)∧e 35=intV (i:Nat)∧Hid ((i=0∧e 11 = .tree 1 1 [.val (.int .i64 row),.val (.int .u8 2),.val (.int .i64 W)] true)∨(0 < i∧Own m 45 3 (e 11) (1+i) (liveA ((row,2,W)::datL (al.take i)))))) al.length ⟨0,by omega,rfl,rfl,rfl,⟨.inl ⟨rfl,rfl⟩⟩⟩ ?_
  rintro q e m ⟨i,hq,e33,e34,e35,hJ⟩
  replace hq:=Hid.mk hq
  generalize hv11:e 11=v11 at *
  by_cases hlt:i < al.length
  ·have hlt':((i:Nat):Int) < ((al.length:Nat):Int):=by omega
   have wi:=wrap_succ (n:=i) (by omega)
   obtain ⟨x,hx⟩:∃ x,al[i]? = some x:=⟨_,List.getElem?_eq_getElem hlt⟩
   obtain ⟨ha,hb⟩:=hats.out i x hx
   obtain ⟨ht,htl⟩:=take2 ha hb
   have hsuc:=datL_succ hx
   have hcell:liveA ((row,2,W)::datL (al.take (i+1)))=liveA ((row,2,W)::datL (al.take i))++[.val (.int .i64 x.1),.val (.int .u8 1),.val (.int .i64 x.2)]:=by
    rw [hsuc,←List.cons_append,liveA_append]
    rfl
   replace hx:=Hid.mk hx
   replace hsuc:=Hid.mk hsuc
   replace hcell:=Hid.mk hcell
   simp only [↓pre,simprocAttr,parV,sx,tys15,onceA,postU,postV,hf,ho,storeE,allocE,put_at,push_at,hv11,e33,e34,e35,hlt',hAr.addr',hlt,ht,htl,hbl,sr]
   have hstep:∀ (m2:Mem) (K:Out→Prop),m.next≤m2.next→(∀ j kk,m.at_ j=some kk→j < m.next→m2.at_ j=some kk)→(∀ lv' m',Own m' 45 3 lv' (1+(i+1)) (liveA ((row,2,W)::datL (al.take (i+1))))→K ⟨lv',m',none⟩)→outW (appE Tryz.prog 45 m2 v11 (.tree 1 1 [.val (.int .i64 x.1),.val (.int .u8 1),.val (.int .i64 x.2)] true)) K:=by
    intro m2 K hn hk hK
    rcases hJ.out with ⟨hi0,rfl⟩ | ⟨hi0,hown⟩
    ·subst hi0
     have h1:szE Tryz.prog 45=some 3:=by kernel_rfl
     have h2:byE Tryz.prog 45=some 24:=by kernel_rfl
     have h3:zeroE Tryz.prog 45=some [.int .i64 0,.int .u8 0,.int .i64 0]:=by kernel_rfl
     have h4:kindT Tryz.prog 45 = .flat:=by kernel_rfl
     have:appE Tryz.prog 45 m2 (.tree 1 1 [.val (.int .i64 row),.val (.int .u8 2),.val (.int .i64 W)] true) (.tree 1 1 [.val (.int .i64 x.1),.val (.int .u8 1),.val (.int .i64 x.2)] true)=some ⟨.sl m2.next 0 2 2 false,m2.push ⟨[.val (.int .i64 row),.val (.int .u8 2),.val (.int .i64 W)]++[.val (.int .i64 x.1),.val (.int .u8 1),.val (.int .i64 x.2)],45,.flat,true⟩,none⟩:=by
      simp only [appE,h1,h2,h3,h4,hsr.out m2,slView,Option.bind_some]
      simp [outV]
     rw [this]
     refine hK _ _ ⟨.inr ⟨m2.next,rfl, ?_,by rw [push_next];omega,by omega⟩, ?_⟩
     ·rw [push_at,if_pos rfl,hcell.out];rfl
     ·rw [liveA_len,List.length_cons,datL_len,List.length_take];omega
    ·have ho2:Own m2 45 3 v11 (1+i) (liveA ((row,2,W)::datL (al.take i))):=hown.keep hn fun j kk hj hk2=>by
      rcases hown.form with ⟨h,_⟩ | ⟨b,h,_,hb2,_⟩
      ·rw [h] at hj;simp [blkOf,nilS] at hj
      ·rw [h] at hj
       simp only [blkOf,Option.some.injEq] at hj
       exact hk j kk hk2 (by omega)
     refine app_rule (kd := .flat) (sz:=3) (y:=24) (zl:=[.int .i64 0,.int .u8 0,.int .i64 0]) (by kernel_rfl) ho2 (by kernel_rfl) (by kernel_rfl) (by kernel_rfl) rfl (hsr.out m2 _ _ _) rfl (by omega) (by omega) ?_
     intro lv' m' ho' hn'
     rw [←hcell.out] at ho'
     exact hK _ _ (by rw [show 1+(i+1)=1+i+1 by omega];exact ho')
   refine hstep _ _ (by simp only [put_next,push_next];omega) (fun j kk hj hjl=>by rw [put_at,if_neg (by omega),push_at,if_neg (by omega)];exact hj) ?_
   intro lv' m' ho'
   replace ho':=Hid.mk ho'
   clear hstep
   simp only [↓pre,simprocAttr,parV,sx,tys15,onceA,postU,postV,hf,ho,storeE,allocE,put_at,push_at,hv11,e33,e34,e35,wi,sr]
   exact ⟨q - 1,by have:=hq.out;omega,i+1,by have:=hq.out;omega,rfl,⟨.inr ⟨by omega,ho'.out⟩⟩⟩
  ·have hlt':¬ ((i:Nat):Int) < ((al.length:Nat):Int):=by omega
   have hi:i=al.length:=by have:=hq.out;omega
   have hfin:∃ kk,fzT kk m v11=some (liveT ((row,2,W)::datL al)):=by
    rcases hJ.out with ⟨hi0,rfl⟩ | ⟨hi0,hown⟩
    ·have:al=[]:=List.eq_nil_of_length_eq_zero (by omega)
     subst this
     exact ⟨0,fzT_tree⟩
    ·rw [hi,List.take_length] at hown
     refine ⟨0, ?_⟩
     rw [own_fzT hown 0]
     unfold treeR liveT
     rw [if_neg (by omega)]
     have:((row,2,W)::datL al).length=1+al.length:=by rw [List.length_cons,datL_len];omega
     rw [this,decide_eq_false (by omega)]
   obtain ⟨kk,hfin⟩:=hfin
   replace hfin:=Hid.mk hfin
   simp only [↓pre,simprocAttr,parV,sx,tys15,onceA,postU,postV,hf,ho,storeE,allocE,put_at,push_at,hv11,e33,e34,e35,hlt',sr]
   exact ⟨kk,by rw [fzT_tup,fzTs_cons,hfin.out,Option.bind_some,fzTs_cons,fzT_val,fzTs_nil];rfl⟩
 ·rw [if_neg hE] at hob ⊢
  unfold desc0 nilS at hob
  simp only [intV] at hob
  refine ospec_of_body follows Tryz.func15 (by unfold Tryz.f15;rfl) (by unfold Tryz.f15;simp) onceA (by unfold Tryz.f15;simp) (by kernel_rfl) ?_;unfold Tryz.f15
  simp only [↓pre,simprocAttr,parV,sx,tys15,onceA,postU,postV,hf,ho,storeE,allocE,put_at,push_at,sr]
  (first | refine call_plain (hob) (by first | rfl | simp only [parV,plQ, *]) ?_ | refine call_pure (hob) (by first | rfl | simp only [parV,plQ, *]) (by intro k;first | rfl | simp only [sq,sr, *]) ?_);simp only [↓pre,simprocAttr,parV,sx,tys15,onceA,postU,postV,hf,ho,storeE,allocE,put_at,push_at,hE,sr]
  exact ⟨1,fzId_two (fzId_val (.slice none 0 0)) (fzId_val (.int .i64 (objE k r c w L row))) 1 _⟩
end Go.Proofs.YtgcicholalgbiaaGreat