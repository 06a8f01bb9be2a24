import Derived.Test.YtaekhhlgnbhnpaaGreatOzcG19
import Derived.Test.YtaekhhlgnbhnpaaGreatOzcG15
import Derived.Test.YtaekhhlgnbhnpaaGreatOzcG12
import Derived.Test.YtaekhhlgnbhnpaaGreatOzcG10
import Derived.Test.YtaekhhlgnbhnpaaGreatOzcG18
set_option linter.unusedVariables false
set_option linter.unusedSimpArgs false
set_option maxRecDepth 10000
namespace Go.Proofs.YtaekhhlgnbhnpaaGreat
open Go Go.Tw Go.Proofs Go.Gf
theorem am2 {P:Program} {kd:fW} {m:aF} {el el':TypeId} {sz n:Nat} {v:AV} {cells:List AV} (h:cO kd m el sz v n cells) (hk:bW P el'=kd):eZ P el' sz m v=some (cells,n):=by
 have hl:=h.len
 rcases h.form with ⟨rfl,rfl,rfl⟩ | ⟨b,rfl,hb,_,_⟩
 ·simp [eZ,dR,aO]
 ·simp [eZ,dR,hb,hk,hl]
  rw [List.take_of_length_le (by omega)]
theorem z8:∀ (l:List AV),(∀ c∈l,plain c=true)→eB l=true
 | [],_=>rfl
 | c::l,h=>by simp only [eB,h c (by simp),z8 l fun x hx=>h x (by simp [hx]),Bool.and_self]
theorem am3 (L:Nat) (F:Mx) (a n:Nat):eB (eN L F a n)=true:=z8 _ fun c hc=>by
 unfold eN at hc
 obtain ⟨i,_,rfl⟩:=List.mem_map.1 hc
 rfl
def gF (C:List (List UInt8)):Mx:=fun i p=>(C.getD i []).getD p 0
theorem am4 {C:List (List UInt8)} {i L:Nat} (h:(C.getD i []).length=L):tab L (gF C i)=C.getD i []:=by
 unfold tab gF
 apply List.ext_getElem
 ·rw [List.length_map,List.length_range,h]
 ·intro j h1 h2
  simp only [List.getElem_map,List.getElem_range]
  rw [List.getD_eq_getElem?_getD,List.getElem?_eq_getElem h2]
  rfl
def mR (k:Nat) (l:List Nat):List AV:=l.map fun a => .tree k k (bA k (fJ k a)) true
def jT (cells:List AV) (l:List Nat):List AV:=l.map fun a=>cells.getD a aO
theorem am5 {k:Nat} {at_:List Nat} (hk:at_.length=k):acQ k k (kQ k at_) (mR k at_):=fun t ht=>by
 obtain ⟨a,ha⟩:∃ a,at_[t]? = some a:=⟨_,List.getElem?_eq_getElem (by omega)⟩
 refine ⟨_,[],by unfold mR;rw [List.getElem?_map,ha];rfl, ?_⟩
 unfold kQ
 rw [List.getD_eq_getElem?_getD,ha,List.append_nil]
 exact ⟨.inr (.inr ⟨k,true,rfl,Nat.le_refl _⟩)⟩
theorem atN (v:AV) (k r L:Nat) (C:List (List UInt8)) (cells:List AV) (hv:gI v C cells) (hCl:C.length=k+r) (hC:abv C L) (hk:1≤k) (hk2:k≤12) (hr:r≤4) (hL:1≤L) (hL2:L≤65536) (hth:k≤(cB C (k+r)).length):aX Tryz.prog 236 [aD (k:Nat),aD (r:Nat),v] ⟨.tup [bJ (k+r) (eN L (abo k ((cB C (k+r)).take k) (gF C)) 0 (k+r)),aD 0],[]⟩:=by
 refine eA ?_
 have hp:=hv.rd.plain
 have hm:=atD aF.empty k r hk hk2 hr
 have hthere:=atG v C cells L hv hC hL2 (by omega)
 rw [hCl] at hthere
 have hrd:=dX (cB C (k+r)).length (o7 (cB C (k+r)))
 obtain ⟨v',s',r'⟩:=hrd.slice (P:=Tryz.prog) (t:=41) (sz:=1) (lo:=none) (hi:=some k) (by kernel_rfl) (by simp) (by simpa using hth)
 simp only [Option.getD_some,Option.getD_none,Nat.sub_zero,Nat.zero_mul,List.drop_zero] at r'
 have hslok:=hrd.slOk (P:=Tryz.prog) (m:=aF.empty) (t:=41)
 have htk:((cB C (k+r)).take k).length=k:=by rw [List.length_take];omega
 have hmem:∀ a∈(cB C (k+r)).take k,a < k+r∧(C.getD a []).length=L:=fun a ha=>by
  obtain ⟨h1,h2⟩:=ag8 (List.mem_of_mem_take ha)
  refine ⟨h1, ?_⟩
  obtain ⟨b,hb⟩:∃ b,C[a]? = some b:=⟨_,List.getElem?_eq_getElem (by omega)⟩
  rw [sJ hb] at h2 ⊢
  rcases hC b (List.mem_of_getElem? hb) with h | h
  ·exact absurd h h2
  ·exact h
 have hnd:((cB C (k+r)).take k).Nodup:=(amW C (k+r)).sublist (List.take_sublist _ _)
 have hnat:∀ i,i < k→∃ a,((cB C (k+r)).take k)[i]? = some a∧(o7 (cB C (k+r)))[i]? = some (.val (.int .i64 a)):=fun i hi=>by
  obtain ⟨a,ha⟩:∃ a,(cB C (k+r))[i]? = some a:=⟨_,List.getElem?_eq_getElem (by omega)⟩
  exact ⟨a,by rw [List.getElem?_take_of_lt hi];exact ha,amY ha⟩
 generalize hat:(cB C (k+r)).take k=at_ at *
 have k1:¬ (((cB C (k+r)).length:Nat):Int) < ((k:Nat):Int):=by omega
 have w1:IntKind.i64.wrap (((k:Nat):Int)+((r:Nat):Int))=((k+r:Nat):Int):=by rw [←Int.natCast_add];exact dT (by omega)
 replace hC:=aB.mk hC
 replace hmem:=aB.mk hmem
 replace hat:=aB.mk hat
 replace hnat:=aB.mk hnat
 refine bZ follows Tryz.func236 (by unfold Tryz.f236;rfl) (by unfold Tryz.f236;simp) aE (by unfold Tryz.f236;simp) (by kernel_rfl) ?_;unfold Tryz.f236
 simp only [↓pre,simprocAttr,aA,sx,qA,aE,aC,aI,aL,bQ,sr]
 refine m9 hm ?_
 rintro res m1 ⟨g,mm,rfl,rfl,hCode⟩
 simp only [↓pre,simprocAttr,aA,sx,qA,aE,aC,aI,aL,bQ,atM,w1,sr]
 refine aM (hthere) (by simp only [aA,aV, *]) ?_;simp only [↓pre,simprocAttr,aA,sx,qA,aE,aC,aI,aL,bQ,hrd.len',k1,s',r'.len',bH,Option.map_none,Option.map_some,sr]
 generalize aF.setM aF.empty mm=m1 at *
 rw [b9]
 refine cA (fun q e m=>∃ i lm lf,q+i=k∧e 0=aD (k:Nat)∧e 1=aD (r:Nat)∧e 2=v∧e 8 = .val (.map (some g))∧e 11=lm∧e 12=lf∧e 44=v'∧e 45=aD (k:Nat)∧e 46=aD (i:Nat)∧aB (cO .var m 52 1 lm i (mR k (at_.take i))∧cO .var m 52 1 lf i (jT cells (at_.take i))∧mO m1 m∧l9 m1 lm∧l9 m1 lf∧∀ b,cF lm=some b→cF lf≠some b)) k ⟨0,aO,aO,by omega,rfl,rfl,rfl,rfl,rfl,rfl,rfl,rfl,rfl,⟨fB,fB,mO.refl _,y5 _,y5 _,fun b h=>by cases h⟩⟩ ?_
 rintro q e m ⟨i,lm,lf,hq,e0,e1,e2,e8,e11,e12,e44,e45,e46,hJ⟩
 replace hq:=aB.mk hq
 obtain ⟨hom,hof,hkp,hnm,hnf,hap⟩:=hJ.out
 by_cases hlt:i < k
 ·have hlt':((i:Nat):Int) < ((k:Nat):Int):=by omega
  have wi:=cI (n:=i) (by omega)
  obtain ⟨a,ha,haA⟩:=hnat.out i hlt
  obtain ⟨hal,haL⟩:=hmem.out a (List.mem_of_getElem? ha)
  have htk1:at_.take (i+1)=at_.take i++[a]:=by rw [List.take_add_one,ha];rfl
  have hrA:mR k (at_.take (i+1))=mR k (at_.take i)++[.tree k k (bA k (fJ k a)) true]:=by rw [htk1];unfold mR;rw [List.map_append];rfl
  have hlk:=amT (m:=m) (g:=g) (k:=k) (r:=r) (n:=k+r) (i:=a) (by unfold o6;rw [hkp.mm];exact hCode) hal
  obtain ⟨b,hb⟩:∃ b,C[a]? = some b:=⟨_,List.getElem?_eq_getElem (by omega)⟩
  have hbl:b.length=L:=by rw [sJ hb] at haL;exact haL
  obtain ⟨ca,x,hca,hra⟩:=hv.at_ a b hb
  have haC:a < C.length:=by omega
  obtain ⟨cc,f,rfl,_⟩:∃ cc f,ca = .tree b.length cc (b.map aU++x) f∧b.length≤cc:=by
   rcases hra.form with ⟨_,h⟩ | ⟨_,_,_,h⟩ | h
   ·omega
   ·omega
   ·exact h
  have hpA:jT cells (at_.take (i+1))=jT cells (at_.take i)++[.tree b.length cc (b.map aU++x) f]:=by
   rw [htk1];unfold jT;rw [List.map_append,List.map_cons,List.map_nil,List.getD_eq_getElem?_getD,hca];rfl
  replace ha:=aB.mk ha
  replace hb:=aB.mk hb
  replace htk1:=aB.mk htk1
  replace hrA:=aB.mk hrA
  replace hpA:=aB.mk hpA
  replace haL:=aB.mk haL
  replace hkp:=aB.mk hkp
  replace hbl:=aB.mk hbl
  simp only [aD] at hlk
  simp only [↓pre,simprocAttr,aA,sx,qA,aE,aC,aI,aL,bQ,e0,e1,e2,e8,e11,e12,e44,e45,e46,hlt',r'.addr',hlt,haA,hlk,z7,sr]
  refine adS (kd := .var) (sz:=1) (y:=24) (zl:=[.slice none 0 0]) (by kernel_rfl) hom (by kernel_rfl) (by kernel_rfl) (by kernel_rfl) rfl l8 rfl (by omega) (by omega) hkp.out hnm ?_
  intro lm' m' hom' hkp' hnm' hnx hbl' hkeep
  obtain ⟨hof',hap'⟩:=hof.beside hnx hbl' hkeep fun b hb h=>hap b h hb
  simp only [↓pre,simprocAttr,aA,sx,qA,aE,aC,aI,aL,bQ,e0,e1,e2,e8,e11,e12,e44,e45,e46,hv.rd.addr',haC,hca,z7,sr]
  refine adS (kd := .var) (sz:=1) (y:=24) (zl:=[.slice none 0 0]) (by kernel_rfl) hof' (by kernel_rfl) (by kernel_rfl) (by kernel_rfl) rfl l8 rfl (by omega) (by omega) hkp' hnf ?_
  intro lf' m'' hof'' hkp'' hnf'' hnx2 hbl2 hkeep2
  obtain ⟨hom'',hap''⟩:=hom'.beside hnx2 hbl2 hkeep2 fun b hb h=>hap' b h hb
  simp only [↓pre,simprocAttr,aA,sx,qA,aE,aC,aI,aL,bQ,e0,e1,e2,e8,e11,e12,e44,e45,e46,wi,sr]
  exact ⟨q - 1,by have:=hq.out;omega,i+1,lm',lf',by have:=hq.out;omega,rfl,rfl,rfl,⟨by rw [hrA.out];exact hom'',by rw [hpA.out];exact hof'',hkp'',hnm',hnf'',hap''⟩⟩
 ·have hlt':¬ ((i:Nat):Int) < ((k:Nat):Int):=by omega
  have hi:i=k:=by have:=hq.out;omega
  subst hi
  rw [List.take_of_length_le (by omega)] at hom hof
  have hrp:eB (mR i at_)=true:=z8 _ fun c hc=>by
   unfold mR at hc
   obtain ⟨a,_,rfl⟩:=List.mem_map.1 hc
   rfl
  have hfRd:acQ i L (fun t=>gF C (at_.getD t 0)) (jT cells at_):=fun t ht=>by
   obtain ⟨a,ha,_⟩:=hnat.out t ht
   obtain ⟨hal,haL⟩:=hmem.out a (List.mem_of_getElem? ha)
   obtain ⟨b,hb⟩:∃ b,C[a]? = some b:=⟨_,List.getElem?_eq_getElem (by omega)⟩
   obtain ⟨ca,x,hca,hra⟩:=hv.at_ a b hb
   refine ⟨ca,x, ?_, ?_⟩
   ·unfold jT
    rw [List.getElem?_map,ha,Option.map_some,List.getD_eq_getElem?_getD,hca]
    rfl
   ·simp only [List.getD_eq_getElem?_getD,ha,Option.getD_some]
    unfold bA
    have:=am4 haL
    rw [this,sJ hb]
    rw [sJ hb] at haL
    rw [haL] at hra
    exact hra
  have hfp:eB (jT cells at_)=true:=z8 _ fun c hc=>by
   obtain ⟨t,ht⟩:=List.getElem?_of_mem hc
   have htl:t < i:=by have:=(List.getElem?_eq_some_iff.1 ht).1;unfold jT at this;rw [List.length_map] at this;omega
   obtain ⟨a,x,h1,h2⟩:=hfRd t htl
   rw [ht] at h1
   cases h1
   exact h2.plain
  obtain ⟨av,m2,hfz,hav,hm2,hn2,hk2'⟩:=(y6 hom (.inr ⟨rfl,hrp⟩)).fz
  have hof2:cO .var m2 52 1 lf i (jT cells at_):=hof.frz hn2 hk2' fun b hb off n c f h=>by
   subst h
   exact hap b rfl hb
  have hkp2:=aqV hkp hm2 hn2 hk2'
  have hinv:=atw av i (kQ i at_) (mR i at_) ⟨hav,am5 htk⟩ hk (by omega) (amy htk hnd fun a ha=>by have:=(hmem.out a ha).1;omega)
  have hVb:=(aeD true true i i (lV i (kQ i at_))).rd
  have hHf:=y6 hof2 (.inr ⟨rfl,hfp⟩)
  have hOf:=agd hof2
  have hfz1:fzs m [lm]=some ([av],m2):=by simp [fzs,hfz]
  simp only [↓pre,simprocAttr,aA,sx,qA,aE,aC,aI,aL,bQ,e0,e1,e2,e8,e11,e12,e44,e45,e46,hlt',sr]
  refine yX hinv hfz1 ?_
  simp only [↓pre,simprocAttr,aA,sx,qA,aE,aC,aI,aL,bQ,e0,e1,e2,e8,e11,e12,hVb.len',sr]
  rw [b9]
  refine cA (fun q e m=>∃ j ld,q+j=i∧e 0=aD (i:Nat)∧e 1=aD (r:Nat)∧e 8 = .val (.map (some g))∧e 12=lf∧e 17=ld∧e 75 = .tree i i (mG true i i (lV i (kQ i at_))) true∧e 76=aD (i:Nat)∧e 77=aD (j:Nat)∧aB (cO .var m 52 1 ld j (eN L (kC i at_ (gF C)) 0 j)∧lC m2 m∧l9 m2 ld)) i ⟨0,aO,by omega,e0,e1,e8,e12,rfl,rfl,rfl,rfl,⟨fB,lC.refl _,y5 _⟩⟩ ?_
  rintro q2 e m ⟨j,ld,hq2,e0,e1,e8,e12,e17,e75,e76,e77,hJ2⟩
  replace hq2:=aB.mk hq2
  obtain ⟨hod,hkd,hnd2⟩:=hJ2.out
  by_cases hlt2:j < i
  ·have hlt2':((j:Nat):Int) < ((i:Nat):Int):=by omega
   have wj:=cI (n:=j) (by omega)
   have hrow:=zZ true (w:=i) (lV i (kQ i at_)) hlt2
   obtain ⟨av2,hlend,hav2⟩:=(hHf.keep hkd.w hOf).lend2 (a := .tree i i (bA i (lV i (kQ i at_) j)) true) rfl
   have hdot:=amP (.tree i i (bA i (lV i (kQ i at_) j)) true) av2 i L (lV i (kQ i at_) j) (fun t=>gF C (at_.getD t 0)) [] (jT cells at_) ⟨.inr (.inr ⟨i,true,by rw [List.append_nil],Nat.le_refl _⟩)⟩ ⟨hav2,hfRd⟩ hk (by omega) hL2
   rw [show o5 i (lV i (kQ i at_) j) (fun t=>gF C (at_.getD t 0))=kC i at_ (gF C) j from rfl] at hdot
   have hkeep2:lC m2 ((m.push ⟨bA L (kC i at_ (gF C) j),5,.flat,true⟩).put m.next (some ⟨bA L (kC i at_ (gF C) j),5,.flat,false⟩)):=⟨hkd.mm,by rw [aZ,aW];have:=hkd.next;omega,fun j x hj hl=>by have:=hkd.next;rw [aG,if_neg (by omega),aH,if_neg (by omega)];exact hkd.at_ j x hj hl⟩
   have hbx:=am0 (m:=m.push ⟨bA L (kC i at_ (gF C) j),5,.flat,true⟩) (b:=m.next) (n:=L) (f:=true) (by rw [aH,if_pos rfl])
   have hcs:=aeI L (kC i at_ (gF C)) 0 j
   rw [Nat.zero_add] at hcs
   replace hcs:=aB.mk hcs
   replace hkd:=aB.mk hkd
   replace hkeep2:=aB.mk hkeep2
   replace hav2:=aB.mk hav2
   simp only [↓pre,simprocAttr,aA,sx,qA,aE,aC,aI,aL,bQ,e0,e1,e8,e12,e17,e75,e76,e77,hlt2',hVb.addr',hlt2,hrow,sr]
   refine adF hdot hlend (by simp [gJ.apart,jH,kW,am1,aD]) ?_
   simp only [↓pre,simprocAttr,aA,sx,qA,aE,aC,aI,aL,bQ,e0,e1,e8,e12,e17,e75,e76,e77,hbx,sr]
   refine akT (kd := .var) (sz:=1) (y:=24) (zl:=[.slice none 0 0]) (by kernel_rfl) (hod.pp _ _) (by kernel_rfl) (by kernel_rfl) (by kernel_rfl) rfl l8 rfl (by omega) (by omega) hkeep2.out hnd2 ?_
   intro ld' m' hod' hkd' hnd'
   simp only [↓pre,simprocAttr,aA,sx,qA,aE,aC,aI,aL,bQ,e0,e1,e8,e12,e17,e75,e76,e77,wj,sr]
   exact ⟨q2 - 1,by have:=hq2.out;omega,j+1,ld',by have:=hq2.out;omega,rfl,rfl,⟨by rw [hcs.out];exact hod',hkd',hnd'⟩⟩
  ·have hlt2':¬ ((j:Nat):Int) < ((i:Nat):Int):=by omega
   have hj:j=i:=by have:=hq2.out;omega
   subst hj
   have hC3:o6 m g j r (j+r):=by unfold o6;rw [hkd.mm,hkp2.mm];exact hCode
   have hdr:acQ j L (kC j at_ (gF C)) (eN L (kC j at_ (gF C)) 0 j):=fun t ht=>by
    refine ⟨_,[],aeJ ht, ?_⟩
    rw [List.append_nil,Nat.zero_add]
    exact ⟨.inr (.inr ⟨L,true,rfl,Nat.le_refl _⟩)⟩
   have hce:=atL m g j r j r L ld (kC j at_ (gF C)) _ hC3 (y6 hod (.inr ⟨rfl,am3 _ _ _ _⟩)) (agd hod) hdr hk hk2 hr (Nat.le_refl _) hL2
   simp only [↓pre,simprocAttr,aA,sx,qA,aE,aC,aI,aL,bQ,e0,e1,e8,e12,e17,e75,e76,e77,hlt2',w1,sr]
   refine m9 hce ?_
   rintro res m4 ⟨lv,rfl,hov,hkv,hnv⟩
   have hod4:cO .var m4 52 1 ld j (eN L (kC j at_ (gF C)) 0 j):=hod.keep hkv.next fun b x hb hat=>hkv.at_ b x hat (by
    rcases hod.form with ⟨rfl,_⟩ | ⟨b',rfl,_,hlt,_⟩
    ·cases hb
    ·injection hb with hb;omega)
   simp only [↓pre,simprocAttr,aA,sx,qA,aE,aC,aI,aL,bQ,e0,e1,e8,e12,e17,e75,e76,e77,sr]
   refine oT (kd := .var) (sz:=1) (y:=24) (zl:=[.slice none 0 0]) (by kernel_rfl) hod4 (by kernel_rfl) (by kernel_rfl) (by kernel_rfl) rfl (am2 hov (by kernel_rfl)) (by rw [atH];omega) (by omega) (by omega) ?_
   intro lo m5 ho5 hn5
   have hfin:eN L (kC j at_ (gF C)) 0 j++eN L (oG j (kC j at_ (gF C))) j r=eN L (abo j at_ (gF C)) 0 (j+r):=by
    rw [←atJ]
    congr 1
    exact atK fun i _ hi p _=>(ata _ (by omega) p).symm
   rw [hfin] at ho5
   simp only [↓pre,simprocAttr,aA,sx,qA,aE,aC,aI,aL,bQ,e0,e1,e8,e12,e17,e75,e76,e77,sr]
   exact ⟨1,by rw [j6,dY,aeG ho5 (amZ _ _ _ _),Option.bind_some,dY,fZ,i7];rfl⟩
structure fT where
 kd:Int
 ix:Int
 ce:Int
 st:Int
 vv:AV
 dv:AV
def fT.cells (s:fT):List AV:=[.val (.int .u8 s.kd),.val (.int .i64 s.ix),.val (.int .i64 s.ce),.val (.int .i64 s.st),s.vv,s.dv]
def fT.v (s:fT):AV := .agg s.cells
structure fT.Rd (s:fT):Prop where
 vv:∃ n cs,bC s.vv n cs
 dv:∃ n cs,bC s.dv n cs
def sK:fT:=⟨0,0,0,0,aO,aO⟩
def qU.sl (s:qU):fT:=⟨s.kd,s.ix,s.ce,s.st,.tree s.vec.length s.vec.length (cC s.vec) false,.tree s.data.length s.data.length (aT s.data) false⟩
def fU (k r c w:Int) (bs:List UInt8):fT:=if eR k r c w bs=true then (cV k r bs).sl else sK
theorem uU (k r c w:Int) (bs:List UInt8):(fU k r c w bs).Rd:=by
 unfold fU
 split
 ·exact ⟨⟨_,_,⟨.inr (.inr ⟨_,_,rfl,Nat.le_refl _⟩)⟩⟩,⟨_,_,⟨.inr (.inr ⟨_,_,rfl,Nat.le_refl _⟩)⟩⟩⟩
 ·exact ⟨⟨0,[],⟨.inl ⟨rfl,rfl⟩⟩⟩,⟨0,[],⟨.inl ⟨rfl,rfl⟩⟩⟩⟩
theorem aeK (k r c w:Int) (v:AV) (bs:List UInt8) (x:List AV) (hv:bC v bs.length (aT bs++x)) (hm:bU k r c w=true) (hl:eS k r c bs.length=true):aX Tryz.prog 93 [aA k r c w,v] ⟨.tup [.agg (fU k r c w bs).cells,bB (eR k r c w bs),aD 0],[]⟩:=by
 have h:=alR k r c w v bs x hv
 unfold oX at h
 unfold fU
 cases hs:eR k r c w bs with
 | true =>
  rw [hs,if_pos ⟨hm,rfl⟩] at h
  rw [if_pos rfl]
  exact h
 | false =>
  rw [hs,if_neg (fun h=>by cases h.2)] at h
  rw [if_neg (by decide)]
  have he:(if bU k r c w=false then (2:Int) else if (bs.length:Int)=0 then 0 else if (bs.length:Int)=d7 k r c then 0 else 100)=0:=by
   rw [hm,if_neg (by decide)]
   unfold eS at hl
   by_cases h1:(bs.length:Int)=0
   ·rw [if_pos h1]
   ·rw [if_neg h1]
    rw [decide_eq_false h1,Bool.false_or] at hl
    rw [if_pos (of_decide_eq_true hl)]
  rw [he] at h
  exact h
theorem am6 (k r c w:Int) (bs:List UInt8) (ix:Int):(eR k r c w bs && decide ((fU k r c w bs).ix=ix))=gQ k r c w bs ix:=by
 unfold fU gQ
 cases h:eR k r c w bs with
 | true=>rw [if_pos rfl];rfl
 | false=>rfl
def o8 (s0 s1:fT) (b0 b1:Bool):List AV:=s0.cells++(bB b0::s1.cells)++[bB b1]
theorem wH {cs:List AV} (h:∀ c∈cs,fE c):fE (.agg cs):=fun k m=>by rw [aaO,abu cs h];rfl
theorem acR {cs:List AV} (h:∀ c∈cs,fE c):fE (.tup cs):=fun k m=>by rw [j6,abu cs h];rfl
theorem fT.Rd.ids {s:fT} (h:s.Rd):∀ c∈s.cells,fE c:=by
 obtain ⟨⟨_,_,h1⟩,⟨_,_,h2⟩⟩:=h
 intro c hc
 simp only [fT.cells,List.mem_cons,List.not_mem_nil,or_false] at hc
 rcases hc with rfl | rfl | rfl | rfl | rfl | rfl
 ·exact b8 _
 ·exact b8 _
 ·exact b8 _
 ·exact b8 _
 ·exact kD h1
 ·exact kD h2
theorem atO {s0 s1:fT} (h0:s0.Rd) (h1:s1.Rd) (b0 b1:Bool):∀ c∈o8 s0 s1 b0 b1,fE c:=by
 intro c hc
 simp only [o8,List.mem_append,List.mem_cons,List.not_mem_nil,or_false] at hc
 rcases hc with (hc | rfl | hc) | rfl
 ·exact h0.ids c hc
 ·exact b8 _
 ·exact h1.ids c hc
 ·exact b8 _
theorem iI {a b:AV} (ha:fE a) (hb:fE b):fE (.tup [a,b]):=acR fun c hc=>by
 simp only [List.mem_cons,List.not_mem_nil,or_false] at hc
 rcases hc with rfl | rfl
 ·exact ha
 ·exact hb
theorem dC:IntKind.i64.wrap 1=1:=by decide
theorem dD:IntKind.i64.wrap 2=2:=by decide
def qW:Nat→Bool:=fun d=>d != 8
theorem atP (k r c w ix kd : Int) (v0 v1 : AV) (p : bX) (x0 x1 : List AV) (h0 : bC v0 p.1.length (aT p.1 ++ x0)) (h1 : bC v1 p.2.length (aT p.2 ++ x1)) (hm : bU k r c w = true) (hp : jR k r c p.1.length p.2.length = true) (hk : kd = 1 ∨ kd = 2) (hix : 0 ≤ ix) (hix2 : ix < k + r) :
   aX Tryz.prog 292 [aA k r c w, .agg [v0, v1], .val (.int .u8 kd), aD ix] ⟨.tup [.agg (o8 (fU k r c w p.1) (fU k r c w p.2) (gQ k r c w p.1 ix) (gQ k r c w p.2 ix)), aD 0], []⟩ := by
 refine eA ?_
 unfold jR at hp
 rw [Bool.and_eq_true] at hp
 have hp0 := aeK k r c w v0 p.1 x0 h0 hm hp.1
 have hp1 := aeK k r c w v1 p.2 x1 h1 hm hp.2
 have hd := uO k r c w
 simp only [hm, if_true] at hd
 rw [← am6, ← am6]
 have hR0 := uU k r c w p.1
 have hR1 := uU k r c w p.2
 obtain ⟨⟨n1, y1, g1⟩, ⟨n2, y2, g2⟩⟩ := uU k r c w p.1
 obtain ⟨⟨n3, y3, g3⟩, ⟨n4, y4, g4⟩⟩ := uU k r c w p.2
 generalize fU k r c w p.1 = s0 at *
 generalize fU k r c w p.2 = s1 at *
 generalize eR k r c w p.1 = i0 at *
 generalize eR k r c w p.2 = i1 at *
 have f1 := cM h0
 have f2 := cM h1
 have o1 := b6 h0
 have o2 := b6 h1
 have q1 := b6 g1
 have q2 := b6 g2
 have q3 := b6 g3
 have q4 := b6 g4
 have t1 := cQ g1
 have t2 := cQ g2
 have t3 := cQ g3
 have t4 := cQ g4
 have pl0 := h0.plain
 have pl1 := h1.plain
 have z1 : ¬ ix < 0 := by omega
 have z2 : ¬ k + r ≤ ix := by omega
 unfold fT.cells at hp0 hp1
 refine bZ follows Tryz.func292 (by unfold Tryz.f292; rfl) (by unfold Tryz.f292; simp) qW (by unfold Tryz.f292; simp) (by kernel_rfl) ?_; unfold Tryz.f292
 simp only [↓pre, simprocAttr, aA, sx, rX, qW, bne, aC, aI, aJ, aK, aG, aH, f1, f2, o1, o2, q1, q2, q3, q4, t1, t2, t3, t4, aQ, dC, dD, Int.natCast_zero, Int.cast_ofNat_Int, Int.natCast_one, sr]
 refine aM (hd) (by rfl) ?_; simp only [↓pre, simprocAttr, aA, sx, rX, qW, bne, aC, aI, aJ, aK, aG, aH, f1, f2, o1, o2, q1, q2, q3, q4, t1, t2, t3, t4, aQ, dC, dD, Int.natCast_zero, Int.cast_ofNat_Int, Int.natCast_one, sr]
 rw [b9]
 refine cA (fun n e m => ∃ i cs, n + i = 2 ∧ e 2 = .val (.int .u8 kd) ∧ e 3 = aD ix ∧ e 4 = .tptr 0 [aD k, aD r, aD c, aD w] ∧ e 8 = .ptr 0 0 ∧ e 10 = aD (k + r) ∧ e 22 = .agg [v0, v1] ∧ e 23 = aD (i : Nat) ∧ m.at_ 0 = some ⟨cs, 304, .var, true⟩ ∧ (i = 0 → cs = o8 sK sK false false) ∧ (i = 1 → cs = o8 s0 sK (i0 && decide (s0.ix = ix)) false) ∧ (i = 2 → cs = o8 s0 s1 (i0 && decide (s0.ix = ix)) (i1 && decide (s1.ix = ix)))) 2 ⟨0, _, by omega, rfl, rfl, rfl, rfl, rfl, rfl, rfl, rfl, fun _ => rfl, fun h => by omega, fun h => by omega⟩ ?_
 rintro n e m ⟨i, cs, hn, e2, e3, e4, e8, e10, e22, e23, hm0, c0, c1, c2⟩
 obtain rfl | rfl | rfl : i = 0 ∨ i = 1 ∨ i = 2 := by omega
 · obtain rfl := c0 rfl
   clear c0 c1 c2
   replace hn := aB.mk hn
   simp only [o8, fT.cells, sK, List.cons_append, List.nil_append] at hm0
   simp only [↓pre, simprocAttr, aA, sx, rX, qW, bne, aC, aI, aJ, aK, aG, aH, f1, f2, o1, o2, q1, q2, q3, q4, t1, t2, t3, t4, aQ, dC, dD, Int.natCast_zero, Int.cast_ofNat_Int, Int.natCast_one, e2, e3, e4, e8, e10, e22, e23, hm0, Int.natCast_zero, Int.cast_ofNat_Int, sr]
   refine aM (hp0) (by simp only [aA, aV, *]) ?_; simp only [↓pre, simprocAttr, aA, sx, rX, qW, bne, aC, aI, aJ, aK, aG, aH, f1, f2, o1, o2, q1, q2, q3, q4, t1, t2, t3, t4, aQ, dC, dD, Int.natCast_zero, Int.cast_ofNat_Int, Int.natCast_one, e2, e3, e4, e8, e10, e22, e23, hm0, sr]
   cases i0 with
   | false =>
     simp only [↓pre, simprocAttr, aA, sx, rX, qW, bne, aC, aI, aJ, aK, aG, aH, f1, f2, o1, o2, q1, q2, q3, q4, t1, t2, t3, t4, aQ, dC, dD, Int.natCast_zero, Int.cast_ofNat_Int, Int.natCast_one, e2, e3, e4, e8, e10, e22, e23, hm0, sr]
     refine ⟨n - 1, by have := hn.out; omega, 1, _, by have := hn.out; omega, rfl, rfl, fun h => (by cases h), fun _ => rfl, fun h => (by cases h)⟩
   | true =>
     simp only [↓pre, simprocAttr, aA, sx, rX, qW, bne, aC, aI, aJ, aK, aG, aH, f1, f2, o1, o2, q1, q2, q3, q4, t1, t2, t3, t4, aQ, dC, dD, Int.natCast_zero, Int.cast_ofNat_Int, Int.natCast_one, e2, e3, e4, e8, e10, e22, e23, hm0, sr]
     refine ⟨n - 1, by have := hn.out; omega, 1, _, by have := hn.out; omega, rfl, rfl, fun h => (by cases h), fun _ => rfl, fun h => (by cases h)⟩
 · obtain rfl := c1 rfl
   clear c0 c1 c2
   replace hn := aB.mk hn
   generalize hB : (i0 && decide (s0.ix = ix)) = B0 at *
   simp only [o8, fT.cells, sK, List.cons_append, List.nil_append] at hm0
   simp only [↓pre, simprocAttr, aA, sx, rX, qW, bne, aC, aI, aJ, aK, aG, aH, f1, f2, o1, o2, q1, q2, q3, q4, t1, t2, t3, t4, aQ, dC, dD, Int.natCast_zero, Int.cast_ofNat_Int, Int.natCast_one, e2, e3, e4, e8, e10, e22, e23, hm0, sr]
   refine aM (hp1) (by simp only [aA, aV, *]) ?_; simp only [↓pre, simprocAttr, aA, sx, rX, qW, bne, aC, aI, aJ, aK, aG, aH, f1, f2, o1, o2, q1, q2, q3, q4, t1, t2, t3, t4, aQ, dC, dD, Int.natCast_zero, Int.cast_ofNat_Int, Int.natCast_one, e2, e3, e4, e8, e10, e22, e23, hm0, sr]
   cases i1 with
   | false =>
     simp only [↓pre, simprocAttr, aA, sx, rX, qW, bne, aC, aI, aJ, aK, aG, aH, f1, f2, o1, o2, q1, q2, q3, q4, t1, t2, t3, t4, aQ, dC, dD, Int.natCast_zero, Int.cast_ofNat_Int, Int.natCast_one, e2, e3, e4, e8, e10, e22, e23, hm0, sr]
     refine ⟨n - 1, by have := hn.out; omega, 2, _, by have := hn.out; omega, rfl, rfl, fun h => (by cases h), fun h => (by cases h), fun _ => rfl⟩
   | true =>
     simp only [↓pre, simprocAttr, aA, sx, rX, qW, bne, aC, aI, aJ, aK, aG, aH, f1, f2, o1, o2, q1, q2, q3, q4, t1, t2, t3, t4, aQ, dC, dD, Int.natCast_zero, Int.cast_ofNat_Int, Int.natCast_one, e2, e3, e4, e8, e10, e22, e23, hm0, sr]
     refine ⟨n - 1, by have := hn.out; omega, 2, _, by have := hn.out; omega, rfl, rfl, fun h => (by cases h), fun h => (by cases h), fun _ => rfl⟩
 · obtain rfl := c2 rfl
   clear c0 c1 c2
   replace hn := aB.mk hn
   generalize hB : (i0 && decide (s0.ix = ix)) = B0 at *
   generalize hB1 : (i1 && decide (s1.ix = ix)) = B1 at *
   simp only [o8, fT.cells, List.cons_append, List.nil_append] at hm0
   have hfin := fun m => iI (wH (atO hR0 hR1 B0 B1)) (b8 (.int .i64 0)) 0 m
   replace hfin := aB.mk hfin
   rcases hk with rfl | rfl
   · simp only [↓pre, simprocAttr, aA, sx, rX, qW, bne, aC, aI, aJ, aK, aG, aH, f1, f2, o1, o2, q1, q2, q3, q4, t1, t2, t3, t4, aQ, dC, dD, Int.natCast_zero, Int.cast_ofNat_Int, Int.natCast_one, e2, e3, e4, e8, e10, e22, e23, hm0, z1, z2, sr]
     exact ⟨0, hfin.out _⟩
   · simp only [↓pre, simprocAttr, aA, sx, rX, qW, bne, aC, aI, aJ, aK, aG, aH, f1, f2, o1, o2, q1, q2, q3, q4, t1, t2, t3, t4, aQ, dC, dD, Int.natCast_zero, Int.cast_ofNat_Int, Int.natCast_one, e2, e3, e4, e8, e10, e22, e23, hm0, z1, z2, sr]
     exact ⟨0, hfin.out _⟩
def nG (s:fT) (b:Bool) (kd ver:Int):Bool:=b && (decide (s.kd=kd) && decide (s.ce=ver))
def x8 (s0 s1:fT) (b0 b1:Bool) (kd ver:Int):Int:=if nG s0 b0 kd ver=true then 0 else if nG s1 b1 kd ver=true then 1 else -1
theorem atQ {s0 s1:fT} (h0:s0.Rd) (h1:s1.Rd) (b0 b1:Bool) (m:aF):fz m (.agg (o8 s0 s1 b0 b1))=some (.agg (o8 s0 s1 b0 b1),m):=by
 obtain ⟨⟨n1,y1,g1⟩,⟨n2,y2,g2⟩⟩:=h0
 obtain ⟨⟨n3,y3,g3⟩,⟨n4,y4,g4⟩⟩:=h1
 have f1:=cM g1
 have f2:=cM g2
 have f3:=cM g3
 have f4:=cM g4
 simp [o8,fT.cells,fz,fzs,f1,f2,f3,f4,bB]
theorem atR (s0 s1:fT) (hr0:s0.Rd) (hr1:s1.Rd) (b0 b1:Bool) (kd ver:Int):aX Tryz.prog 293 [.agg (o8 s0 s1 b0 b1),.val (.int .u8 kd),aD ver] ⟨aD (x8 s0 s1 b0 b1 kd ver),[]⟩:=by
 have hfz:=atQ hr0 hr1 b0 b1
 obtain ⟨⟨n1,y1,g1⟩,⟨n2,y2,g2⟩⟩:=hr0
 obtain ⟨⟨n3,y3,g3⟩,⟨n4,y4,g4⟩⟩:=hr1
 have f1:=cM g1
 have f2:=cM g2
 have f3:=cM g3
 have f4:=cM g4
 have q1:=b6 g1
 have q2:=b6 g2
 have q3:=b6 g3
 have q4:=b6 g4
 simp only [o8,fT.cells,List.cons_append,List.nil_append]
 refine bE follows Tryz.func293 (by unfold Tryz.f293;rfl) (by unfold Tryz.f293;simp) aE (by unfold Tryz.f293;simp) (by kernel_rfl) ?_;unfold Tryz.f293
 simp only [↓pre,simprocAttr,aA,sx,uM,aE,aC,aI,aJ,aK,aG,aH,f1,f2,f3,f4,q1,q2,q3,q4,aQ,dC,dD,Int.natCast_zero,Int.cast_ofNat_Int,Int.natCast_one,sr]
 rw [b9]
 refine cA (fun n e m=>∃ i,n+i=2∧e 1 = .val (.int .u8 kd)∧e 2=aD ver∧e 9 = .agg [AV.val (Value.int IntKind.u8 s0.kd),AV.val (Value.int IntKind.i64 s0.ix),AV.val (Value.int IntKind.i64 s0.ce),AV.val (Value.int IntKind.i64 s0.st),s0.vv,s0.dv,AV.val (Value.bool b0),AV.val (Value.int IntKind.u8 s1.kd),AV.val (Value.int IntKind.i64 s1.ix),AV.val (Value.int IntKind.i64 s1.ce),AV.val (Value.int IntKind.i64 s1.st),s1.vv,s1.dv,AV.val (Value.bool b1)]∧e 10=aD (i:Nat)∧(1≤i→nG s0 b0 kd ver=false)∧(2≤i→nG s1 b1 kd ver=false)) 2 ⟨0,by omega,rfl,rfl,rfl,rfl,fun h=>by omega,fun h=>by omega⟩ ?_
 rintro n e m ⟨i,hn,e1,e2,e9,e10,c1,c2⟩
 obtain rfl | rfl | rfl:i=0∨i=1∨i=2:=by omega
 ·replace hn:=aB.mk hn
  clear c1 c2
  have key:∀ (B:Bool),nG s0 b0 kd ver=B→(B=true→x8 s0 s1 b0 b1 kd ver=0):=fun B h1 h2=>by unfold x8;rw [h1,h2];rfl
  replace key:=aB.mk key
  cases b0 with
  | false =>
   simp only [↓pre,simprocAttr,aA,sx,uM,aE,aC,aI,aJ,aK,aG,aH,f1,f2,f3,f4,q1,q2,q3,q4,aQ,dC,dD,Int.natCast_zero,Int.cast_ofNat_Int,Int.natCast_one,e1,e2,e9,e10,sr]
   exact ⟨n - 1,by have:=hn.out;omega,1,by have:=hn.out;omega,rfl,fun _=>rfl,fun h=>by omega⟩
  | true =>
   by_cases h1:s0.kd=kd
   ·by_cases h2:s0.ce=ver
    ·have hk:=key.out true (by unfold nG;rw [decide_eq_true h1,decide_eq_true h2];rfl) rfl
     rw [hk]
     simp only [↓pre,simprocAttr,aA,sx,uM,aE,aC,aI,aJ,aK,aG,aH,f1,f2,f3,f4,q1,q2,q3,q4,aQ,dC,dD,Int.natCast_zero,Int.cast_ofNat_Int,Int.natCast_one,e1,e2,e9,e10,h1,h2,sr]
    ·simp only [↓pre,simprocAttr,aA,sx,uM,aE,aC,aI,aJ,aK,aG,aH,f1,f2,f3,f4,q1,q2,q3,q4,aQ,dC,dD,Int.natCast_zero,Int.cast_ofNat_Int,Int.natCast_one,e1,e2,e9,e10,h1,h2,sr]
     exact ⟨n - 1,by have:=hn.out;omega,1,by have:=hn.out;omega,rfl,fun _=>by unfold nG;rw [decide_eq_false h2];simp,fun h=>by omega⟩
   ·simp only [↓pre,simprocAttr,aA,sx,uM,aE,aC,aI,aJ,aK,aG,aH,f1,f2,f3,f4,q1,q2,q3,q4,aQ,dC,dD,Int.natCast_zero,Int.cast_ofNat_Int,Int.natCast_one,e1,e2,e9,e10,h1,sr]
    exact ⟨n - 1,by have:=hn.out;omega,1,by have:=hn.out;omega,rfl,fun _=>by unfold nG;rw [decide_eq_false h1];simp,fun h=>by omega⟩
 ·replace hn:=aB.mk hn
  have c1:=aB.mk (c1 (by omega))
  clear c2
  have key:∀ (B:Bool),nG s1 b1 kd ver=B→(B=true→x8 s0 s1 b0 b1 kd ver=1):=fun B h1 h2=>by unfold x8;rw [c1.out,h1,h2];rfl
  replace key:=aB.mk key
  cases b1 with
  | false =>
   simp only [↓pre,simprocAttr,aA,sx,uM,aE,aC,aI,aJ,aK,aG,aH,f1,f2,f3,f4,q1,q2,q3,q4,aQ,dC,dD,Int.natCast_zero,Int.cast_ofNat_Int,Int.natCast_one,e1,e2,e9,e10,sr]
   exact ⟨n - 1,by have:=hn.out;omega,2,by have:=hn.out;omega,rfl,fun _=>c1.out,fun h=>rfl⟩
  | true =>
   by_cases h1:s1.kd=kd
   ·by_cases h2:s1.ce=ver
    ·have hk:=key.out true (by unfold nG;rw [decide_eq_true h1,decide_eq_true h2];rfl) rfl
     rw [hk]
     simp only [↓pre,simprocAttr,aA,sx,uM,aE,aC,aI,aJ,aK,aG,aH,f1,f2,f3,f4,q1,q2,q3,q4,aQ,dC,dD,Int.natCast_zero,Int.cast_ofNat_Int,Int.natCast_one,e1,e2,e9,e10,h1,h2,sr]
    ·simp only [↓pre,simprocAttr,aA,sx,uM,aE,aC,aI,aJ,aK,aG,aH,f1,f2,f3,f4,q1,q2,q3,q4,aQ,dC,dD,Int.natCast_zero,Int.cast_ofNat_Int,Int.natCast_one,e1,e2,e9,e10,h1,h2,sr]
     exact ⟨n - 1,by have:=hn.out;omega,2,by have:=hn.out;omega,rfl,fun _=>c1.out,fun _=>by unfold nG;rw [decide_eq_false h2];simp⟩
   ·simp only [↓pre,simprocAttr,aA,sx,uM,aE,aC,aI,aJ,aK,aG,aH,f1,f2,f3,f4,q1,q2,q3,q4,aQ,dC,dD,Int.natCast_zero,Int.cast_ofNat_Int,Int.natCast_one,e1,e2,e9,e10,h1,sr]
    exact ⟨n - 1,by have:=hn.out;omega,2,by have:=hn.out;omega,rfl,fun _=>c1.out,fun _=>by unfold nG;rw [decide_eq_false h1];simp⟩
 ·have c1:=c1 (by omega)
  have c2:=c2 (by omega)
  have hk:x8 s0 s1 b0 b1 kd ver = -1:=by unfold x8;rw [c1,c2];rfl
  replace c1:=aB.mk c1
  replace c2:=aB.mk c2
  rw [hk]
  simp only [↓pre,simprocAttr,aA,sx,uM,aE,aC,aI,aJ,aK,aG,aH,f1,f2,f3,f4,q1,q2,q3,q4,aQ,dC,dD,Int.natCast_zero,Int.cast_ofNat_Int,Int.natCast_one,e1,e2,e9,e10,sr]
def kE (k r c w:Int) (bs:List UInt8) (ix kd ver:Int):Bool:=nG (fU k r c w bs) (gQ k r c w bs ix) kd ver
def abw (k r c w:Int) (p:bX) (ix kd ver:Int):AV:=if kE k r c w p.1 ix kd ver=true then .tup [aD 0,(fU k r c w p.1).v,bB true,aD 0] else if kE k r c w p.2 ix kd ver=true then .tup [aD 1,(fU k r c w p.2).v,bB true,aD 0] else .tup [aD 0,sK.v,bB false,aD 0]
theorem aha {a b c d:AV} (ha:fE a) (hb:fE b) (hc:fE c) (hd:fE d):fE (.tup [a,b,c,d]):=acR fun x hx=>by
 simp only [List.mem_cons,List.not_mem_nil,or_false] at hx
 rcases hx with rfl | rfl | rfl | rfl
 ·exact ha
 ·exact hb
 ·exact hc
 ·exact hd
def wJ:Nat→Bool:=fun d=>d != 11
theorem atS (k r c w ix kd ver : Int) (v0 v1 : AV) (p : bX) (x0 x1 : List AV) (h0 : bC v0 p.1.length (aT p.1 ++ x0)) (h1 : bC v1 p.2.length (aT p.2 ++ x1)) (hm : bU k r c w = true) (hp : jR k r c p.1.length p.2.length = true) (hk : kd = 1 ∨ kd = 2) (hix : 0 ≤ ix) (hix2 : ix < k + r) (hv1 : 1 ≤ ver) (hv2 : ver ≤ 1073741824) :
   aX Tryz.prog 237 [aA k r c w, .agg [v0, v1], .val (.int .u8 kd), aD ix, aD ver] ⟨abw k r c w p ix kd ver, []⟩ := by
 refine eA ?_
 have hl := atP k r c w ix kd v0 v1 p x0 x1 h0 h1 hm hp hk hix hix2
 have hR0 := uU k r c w p.1
 have hR1 := uU k r c w p.2
 unfold abw kE
 generalize fU k r c w p.1 = s0 at *
 generalize fU k r c w p.2 = s1 at *
 generalize gQ k r c w p.1 ix = b0 at *
 generalize gQ k r c w p.2 ix = b1 at *
 have hat := atR s0 s1 hR0 hR1 b0 b1 kd ver
 have i0 := fun m => aha (b8 (.int .i64 0)) (wH hR0.ids) (b8 (.bool true)) (b8 (.int .i64 0)) 0 m
 have i1 := fun m => aha (b8 (.int .i64 1)) (wH hR1.ids) (b8 (.bool true)) (b8 (.int .i64 0)) 0 m
 have i2 := fun m => aha (b8 (.int .i64 0)) (wH (cs := sK.cells) (fT.Rd.ids (s := sK) ⟨⟨0, [], ⟨.inl ⟨rfl, rfl⟩⟩⟩, ⟨0, [], ⟨.inl ⟨rfl, rfl⟩⟩⟩⟩)) (b8 (.bool false)) (b8 (.int .i64 0)) 0 m
 replace i0 := aB.mk i0
 replace i1 := aB.mk i1
 replace i2 := aB.mk i2
 obtain ⟨⟨n1, y1, g1⟩, ⟨n2, y2, g2⟩⟩ := hR0
 obtain ⟨⟨n3, y3, g3⟩, ⟨n4, y4, g4⟩⟩ := hR1
 have f1 := cM g1
 have f2 := cM g2
 have f3 := cM g3
 have f4 := cM g4
 have q1 := b6 g1
 have q2 := b6 g2
 have q3 := b6 g3
 have q4 := b6 g4
 have t1 := cQ g1
 have t2 := cQ g2
 have t3 := cQ g3
 have t4 := cQ g4
 have p1 := g1.plain
 have p2 := g2.plain
 have p3 := g3.plain
 have p4 := g4.plain
 have f01 := cM h0
 have f02 := cM h1
 have o1 := b6 h0
 have o2 := b6 h1
 have pl0 := h0.plain
 have pl1 := h1.plain
 have z1 : ¬ ver < 1 := by omega
 have z2 : ¬ (1073741824 : Int) < ver := by omega
 simp only [o8, fT.cells, List.cons_append, List.nil_append, bB] at hl hat
 refine bZ follows Tryz.func237 (by unfold Tryz.f237; rfl) (by unfold Tryz.f237; simp) wJ (by unfold Tryz.f237; simp) (by kernel_rfl) ?_; unfold Tryz.f237
 simp only [↓pre, simprocAttr, aA, sx, xR, wJ, bne, aC, aI, aJ, aK, aG, aH, f01, f02, o1, o2, f1, f2, f3, f4, q1, q2, q3, q4, t1, t2, t3, t4, aQ, dC, dD, Int.natCast_zero, Int.cast_ofNat_Int, Int.natCast_one, sr]
 refine aM (hl) (by simp only [aA, aV, *]) ?_; simp only [↓pre, simprocAttr, aA, sx, xR, wJ, bne, aC, aI, aJ, aK, aG, aH, f01, f02, o1, o2, f1, f2, f3, f4, q1, q2, q3, q4, t1, t2, t3, t4, aQ, dC, dD, Int.natCast_zero, Int.cast_ofNat_Int, Int.natCast_one, z1, z2, sr]; refine aM (hat) (by simp only [aA, aV, *]) ?_; simp only [↓pre, simprocAttr, aA, sx, xR, wJ, bne, aC, aI, aJ, aK, aG, aH, f01, f02, o1, o2, f1, f2, f3, f4, q1, q2, q3, q4, t1, t2, t3, t4, aQ, dC, dD, Int.natCast_zero, Int.cast_ofNat_Int, Int.natCast_one, z1, z2, sr]
 unfold x8
 cases hh0 : nG s0 b0 kd ver with
 | true =>
   simp only [↓pre, simprocAttr, aA, sx, xR, wJ, bne, aC, aI, aJ, aK, aG, aH, f01, f02, o1, o2, f1, f2, f3, f4, q1, q2, q3, q4, t1, t2, t3, t4, aQ, dC, dD, Int.natCast_zero, Int.cast_ofNat_Int, Int.natCast_one, sr]
   refine dJ (by kernel_rfl) ?_
   simp only [↓pre, simprocAttr, aA, sx, xR, wJ, bne, aC, aI, aJ, aK, aG, aH, f01, f02, o1, o2, f1, f2, f3, f4, q1, q2, q3, q4, t1, t2, t3, t4, aQ, dC, dD, Int.natCast_zero, Int.cast_ofNat_Int, Int.natCast_one, sr]
   exact ⟨0, i0.out _⟩
 | false =>
   cases hh1 : nG s1 b1 kd ver with
   | true =>
     simp only [↓pre, simprocAttr, aA, sx, xR, wJ, bne, aC, aI, aJ, aK, aG, aH, f01, f02, o1, o2, f1, f2, f3, f4, q1, q2, q3, q4, t1, t2, t3, t4, aQ, dC, dD, Int.natCast_zero, Int.cast_ofNat_Int, Int.natCast_one, sr]
     refine dJ (by kernel_rfl) ?_
     simp only [↓pre, simprocAttr, aA, sx, xR, wJ, bne, aC, aI, aJ, aK, aG, aH, f01, f02, o1, o2, f1, f2, f3, f4, q1, q2, q3, q4, t1, t2, t3, t4, aQ, dC, dD, Int.natCast_zero, Int.cast_ofNat_Int, Int.natCast_one, sr]
     exact ⟨0, i1.out _⟩
   | false =>
     simp only [↓pre, simprocAttr, aA, sx, xR, wJ, bne, aC, aI, aJ, aK, aG, aH, f01, f02, o1, o2, f1, f2, f3, f4, q1, q2, q3, q4, t1, t2, t3, t4, aQ, dC, dD, Int.natCast_zero, Int.cast_ofNat_Int, Int.natCast_one, sr]
     exact ⟨0, i2.out _⟩
theorem vM {k r c:Int} {ps:List bX} (h:dS k r c ps=true):(ps.length:Int)=k+r∧∀ p∈ps,jR k r c p.1.length p.2.length=true:=by
 unfold dS at h
 rw [Bool.and_eq_true] at h
 exact ⟨of_decide_eq_true h.1,fun p hp=>List.all_eq_true.1 h.2 p hp⟩
def x9 (k r c w:Int) (ps:List bX):Int:=if bU k r c w=true then (if dS k r c ps=true then 0 else 120) else 2
theorem atT (k r c w:Int) (v:AV) (ps:List bX) (cells:List AV) (hv:fR v ps cells):aX Tryz.prog 233 [aA k r c w,v] ⟨.tup [aD (if x9 k r c w ps=0 then d7 k r c else 0),aD (x9 k r c w ps)],[]⟩:=by
 have hp:=hv.rd.plain
 have hd:=uO k r c w
 have hs:=zM k r c w
 unfold x9
 cases hm:bU k r c w with
 | false =>
  simp only [hm,Bool.false_eq_true,if_false] at hd
  refine bE follows Tryz.func233 (by unfold Tryz.f233;rfl) (by unfold Tryz.f233;simp) aE (by unfold Tryz.f233;simp) (by kernel_rfl) ?_;unfold Tryz.f233
  simp only [↓pre,simprocAttr,aA,sx,nB,aE,aC]
  refine aM (hd) (by rfl) ?_;simp only [↓pre,simprocAttr,aA,sx,nB,aE,aC,bB,dH,cW]
 | true =>
  simp only [hm,if_true] at hd hs
  have hmn:=g7 hm
  by_cases hl:(ps.length:Int)=k+r
  ·replace hmn:=aB.mk hmn
   generalize hres:(if dS k r c ps=true then (0:Int) else 120)=E
   replace hres:=aB.mk hres
   refine bE follows Tryz.func233 (by unfold Tryz.f233;rfl) (by unfold Tryz.f233;simp) aE (by unfold Tryz.f233;simp) (by kernel_rfl) ?_;unfold Tryz.f233
   simp only [↓pre,simprocAttr,aA,sx,nB,aE,aC,aI,Int.natCast_zero,Int.cast_ofNat_Int,Int.natCast_one,dC,dD,hv.rd.len',sr]
   refine aM (hd) (by rfl) ?_;simp only [↓pre,simprocAttr,aA,sx,nB,aE,aC,aI,Int.natCast_zero,Int.cast_ofNat_Int,Int.natCast_one,dC,dD,hv.rd.len',hl,sr];refine aM (hs) (by rfl) ?_;simp only [↓pre,simprocAttr,aA,sx,nB,aE,aC,aI,Int.natCast_zero,Int.cast_ofNat_Int,Int.natCast_one,dC,dD,hv.rd.len',hl,sr]
   rw [b9]
   refine cA (fun q e m=>∃ i,q+i=ps.length∧e 4=aD (d7 k r c)∧e 31=v∧e 32=aD (k+r)∧e 33=aD (i:Nat)∧aB (∀ j p,j < i→ps[j]? = some p→jR k r c p.1.length p.2.length=true)) ps.length ⟨0,by omega,rfl,rfl,by simp [bN.set,aD,hl],rfl,⟨fun j p h=>by omega⟩⟩ ?_
   rintro q e m ⟨i,hq,e4,e31,e32,e33,hJ⟩
   replace hq:=aB.mk hq
   by_cases hlt:i < ps.length
   ·have hlt':((i:Nat):Int) < k+r:=by omega
    have wi:=cI (n:=i) (by have:=hmn.out;omega)
    obtain ⟨p,hpi⟩:∃ p,ps[i]? = some p:=⟨_,List.getElem?_eq_getElem hlt⟩
    obtain ⟨a,b,xa,xb,ha,hb,hra,hrb⟩:=hv.at_ i p hpi
    obtain ⟨ht,htl⟩:=nZ ha hb
    have fa:=cM hra
    have fb:=cM hrb
    have oa:=b6 hra
    have ob:=b6 hrb
    replace hpi:=aB.mk hpi
    simp only [↓pre,simprocAttr,aA,sx,nB,aE,aC,aI,Int.natCast_zero,Int.cast_ofNat_Int,Int.natCast_one,dC,dD,aJ,aK,aG,aH,e4,e31,e32,e33,hlt',hv.rd.addr',hlt,ht,htl,fa,fb,oa,ob,sr]
    rw [b9]
    refine cA (fun q2 e m=>∃ kk,q2+kk=2∧e 4=aD (d7 k r c)∧e 31=v∧e 32=aD (k+r)∧e 33=aD (i:Nat)∧e 37 = .agg [a,b]∧e 38=aD (kk:Nat)∧(1≤kk→eS k r c p.1.length=true)∧(2≤kk→eS k r c p.2.length=true)) 2 ⟨0,by omega,e4,e31,e32,e33,rfl,rfl,fun h=>by omega,fun h=>by omega⟩ ?_
    rintro q2 e m ⟨kk,hq2,e4,e31,e32,e33,e37,e38,c1,c2⟩
    have hbad:∀ n:Nat,(n=p.1.length∨n=p.2.length)→eS k r c n=false→E=120:=fun n hn hb=>by
     rw [←hres.out]
     have:dS k r c ps=false:=by
      cases h:dS k r c ps with
      | false=>rfl
      | true =>
       have:=(vM h).2 p (List.mem_of_getElem? hpi.out)
       unfold jR at this
       rw [Bool.and_eq_true] at this
       rcases hn with rfl | rfl
       ·rw [this.1] at hb;cases hb
       ·rw [this.2] at hb;cases hb
     rw [this]
     rfl
    have hln:∀ n:Nat,eS k r c n=(decide ((n:Int)=0) || decide ((n:Int)=d7 k r c)):=fun _=>rfl
    obtain rfl | rfl | rfl:kk=0∨kk=1∨kk=2:=by omega
    ·replace hq2:=aB.mk hq2
     clear c1 c2
     by_cases h1:(p.1.length:Int)=0
     ·simp only [↓pre,simprocAttr,aA,sx,nB,aE,aC,aI,Int.natCast_zero,Int.cast_ofNat_Int,Int.natCast_one,dC,dD,e4,e31,e32,e33,e37,e38,oa,ob,hra.len',h1,sr]
      exact ⟨q2 - 1,by have:=hq2.out;omega,1,by have:=hq2.out;omega,rfl,fun _=>by rw [hln,decide_eq_true h1];rfl,fun h=>by omega⟩
     ·by_cases h2:(p.1.length:Int)=d7 k r c
      ·have hz:¬ d7 k r c=0:=fun h=>h1 (h2.trans h)
       simp only [↓pre,simprocAttr,aA,sx,nB,aE,aC,aI,Int.natCast_zero,Int.cast_ofNat_Int,Int.natCast_one,dC,dD,e4,e31,e32,e33,e37,e38,oa,ob,hra.len',h2,hz,sr]
       exact ⟨q2 - 1,by have:=hq2.out;omega,1,by have:=hq2.out;omega,rfl,fun _=>by rw [hln,decide_eq_true h2,Bool.or_true],fun h=>by omega⟩
      ·have hE:=hbad _ (.inl rfl) (by rw [hln,decide_eq_false h1,decide_eq_false h2];rfl)
       subst hE
       simp only [↓pre,simprocAttr,aA,sx,nB,aE,aC,aI,Int.natCast_zero,Int.cast_ofNat_Int,Int.natCast_one,dC,dD,e4,e31,e32,e33,e37,e38,oa,ob,hra.len',h1,h2,sr]
    ·replace hq2:=aB.mk hq2
     replace c1:=aB.mk (c1 (by omega))
     clear c2
     by_cases h1:(p.2.length:Int)=0
     ·simp only [↓pre,simprocAttr,aA,sx,nB,aE,aC,aI,Int.natCast_zero,Int.cast_ofNat_Int,Int.natCast_one,dC,dD,e4,e31,e32,e33,e37,e38,oa,ob,hrb.len',h1,sr]
      exact ⟨q2 - 1,by have:=hq2.out;omega,2,by have:=hq2.out;omega,rfl,fun _=>c1.out,fun h=>by rw [hln,decide_eq_true h1];rfl⟩
     ·by_cases h2:(p.2.length:Int)=d7 k r c
      ·have hz:¬ d7 k r c=0:=fun h=>h1 (h2.trans h)
       simp only [↓pre,simprocAttr,aA,sx,nB,aE,aC,aI,Int.natCast_zero,Int.cast_ofNat_Int,Int.natCast_one,dC,dD,e4,e31,e32,e33,e37,e38,oa,ob,hrb.len',h2,hz,sr]
       exact ⟨q2 - 1,by have:=hq2.out;omega,2,by have:=hq2.out;omega,rfl,fun _=>c1.out,fun h=>by rw [hln,decide_eq_true h2,Bool.or_true]⟩
      ·have hE:=hbad _ (.inr rfl) (by rw [hln,decide_eq_false h1,decide_eq_false h2];rfl)
       subst hE
       simp only [↓pre,simprocAttr,aA,sx,nB,aE,aC,aI,Int.natCast_zero,Int.cast_ofNat_Int,Int.natCast_one,dC,dD,e4,e31,e32,e33,e37,e38,oa,ob,hrb.len',h1,h2,sr]
    ·replace c1:=aB.mk (c1 (by omega))
     replace c2:=aB.mk (c2 (by omega))
     simp only [↓pre,simprocAttr,aA,sx,nB,aE,aC,aI,Int.natCast_zero,Int.cast_ofNat_Int,Int.natCast_one,dC,dD,e4,e31,e32,e33,e37,e38,wi,sr]
     refine ⟨q - 1,by have:=hq.out;omega,i+1,by have:=hq.out;omega,rfl,⟨fun j p' hj hp' => ?_⟩⟩
     by_cases hji:j=i
     ·subst hji
      rw [hpi.out] at hp'
      cases hp'
      unfold jR
      rw [c1.out,c2.out]
      rfl
     ·exact hJ.out j p' (by omega) hp'
   ·have hlt':¬ ((i:Nat):Int) < k+r:=by omega
    have hE:E=0:=by
     rw [←hres.out]
     have:dS k r c ps=true:=by
      unfold dS
      rw [decide_eq_true hl,Bool.true_and,List.all_eq_true]
      intro p hp
      obtain ⟨j,hj⟩:=List.getElem?_of_mem hp
      have:=(List.getElem?_eq_some_iff.1 hj).1
      exact hJ.out j p (by omega) hj
     rw [this]
     rfl
    subst hE
    simp only [↓pre,simprocAttr,aA,sx,nB,aE,aC,aI,Int.natCast_zero,Int.cast_ofNat_Int,Int.natCast_one,dC,dD,e4,e31,e32,e33,hlt',sr]
  ·have hr:dS k r c ps=false:=by unfold dS;rw [decide_eq_false hl];rfl
   rw [hr]
   refine bE follows Tryz.func233 (by unfold Tryz.f233;rfl) (by unfold Tryz.f233;simp) aE (by unfold Tryz.f233;simp) (by kernel_rfl) ?_;unfold Tryz.f233
   simp only [↓pre,simprocAttr,aA,sx,nB,aE,aC,hv.rd.len']
   refine aM (hd) (by rfl) ?_;simp only [↓pre,simprocAttr,aA,sx,nB,aE,aC,hv.rd.len',hl,bB,dH,cW];refine aM (hs) (by rfl) ?_;simp only [↓pre,simprocAttr,aA,sx,nB,aE,aC,hv.rd.len',hl,bB,dH,cW]
def acS (kd ver:Int):Int:=if (kd=1∨kd=2)∧g8 ver=true then 0 else 2
theorem atU (kd ver:Int):aX Tryz.prog 234 [.val (.int .u8 kd),aD ver] ⟨aD (acS kd ver),[]⟩:=by
 unfold acS g8
 by_cases h1:kd=1
 ·by_cases h3:ver < 1
  ·rw [if_neg (by simp;omega)]
   refine bE follows Tryz.func234 (by unfold Tryz.f234;rfl) (by unfold Tryz.f234;simp) aE (by unfold Tryz.f234;simp) (by kernel_rfl) ?_;unfold Tryz.f234
   simp only [↓pre,simprocAttr,aA,sx,zE,aE,aC,h1,h3,eq_self,l6,l7]
  ·by_cases h4:(1073741824:Int) < ver
   ·rw [if_neg (by simp;omega)]
    refine bE follows Tryz.func234 (by unfold Tryz.f234;rfl) (by unfold Tryz.f234;simp) aE (by unfold Tryz.f234;simp) (by kernel_rfl) ?_;unfold Tryz.f234
    simp only [↓pre,simprocAttr,aA,sx,zE,aE,aC,h1,h3,h4,eq_self,l6,l7]
   ·rw [if_pos ⟨.inl h1,by simp;omega⟩]
    refine bE follows Tryz.func234 (by unfold Tryz.f234;rfl) (by unfold Tryz.f234;simp) aE (by unfold Tryz.f234;simp) (by kernel_rfl) ?_;unfold Tryz.f234
    simp only [↓pre,simprocAttr,aA,sx,zE,aE,aC,h1,h3,h4,eq_self,l6,l7]
 ·by_cases h2:kd=2
  ·by_cases h3:ver < 1
   ·rw [if_neg (by simp;omega)]
    refine bE follows Tryz.func234 (by unfold Tryz.f234;rfl) (by unfold Tryz.f234;simp) aE (by unfold Tryz.f234;simp) (by kernel_rfl) ?_;unfold Tryz.f234
    simp only [↓pre,simprocAttr,aA,sx,zE,aE,aC,h2,h3,eq_self,l6,l7]
   ·by_cases h4:(1073741824:Int) < ver
    ·rw [if_neg (by simp;omega)]
     refine bE follows Tryz.func234 (by unfold Tryz.f234;rfl) (by unfold Tryz.f234;simp) aE (by unfold Tryz.f234;simp) (by kernel_rfl) ?_;unfold Tryz.f234
     simp only [↓pre,simprocAttr,aA,sx,zE,aE,aC,h2,h3,h4,eq_self,l6,l7]
    ·rw [if_pos ⟨.inr h2,by simp;omega⟩]
     refine bE follows Tryz.func234 (by unfold Tryz.f234;rfl) (by unfold Tryz.f234;simp) aE (by unfold Tryz.f234;simp) (by kernel_rfl) ?_;unfold Tryz.f234
     simp only [↓pre,simprocAttr,aA,sx,zE,aE,aC,h2,h3,h4,eq_self,l6,l7]
  ·rw [if_neg (by simp [h1,h2])]
   refine bE follows Tryz.func234 (by unfold Tryz.f234;rfl) (by unfold Tryz.f234;simp) aE (by unfold Tryz.f234;simp) (by kernel_rfl) ?_;unfold Tryz.f234
   simp only [↓pre,simprocAttr,aA,sx,zE,aE,aC,h1,h2,eq_self,l6,l7]
def aeL (k r c w:Int) (ps:List bX) (kd ver:Int):Int:=if x9 k r c w ps=0 then acS kd ver else x9 k r c w ps
theorem atV (k r c w:Int) (v:AV) (ps:List bX) (cells:List AV) (hv:fR v ps cells) (kd ver:Int):aX Tryz.prog 231 [aA k r c w,v,.val (.int .u8 kd),aD ver] ⟨aD (aeL k r c w ps kd ver),[]⟩:=by
 have hp:=hv.rd.plain
 have h1:=atT k r c w v ps cells hv
 have h2:=atU kd ver
 unfold aeL
 by_cases h:x9 k r c w ps=0
 ·rw [h] at h1
  simp only [h,if_true] at h1 ⊢
  refine bE follows Tryz.func231 (by unfold Tryz.f231;rfl) (by unfold Tryz.f231;simp) aE (by unfold Tryz.f231;simp) (by kernel_rfl) ?_;unfold Tryz.f231
  simp only [↓pre,simprocAttr,aA,sx,acp,aE,aC]
  refine aM (h1) (by simp only [aA,aV, *]) ?_;simp only [↓pre,simprocAttr,aA,sx,acp,aE,aC,eq_self];refine aM (h2) (by rfl) ?_;simp only [↓pre,simprocAttr,aA,sx,acp,aE,aC,eq_self]
 ·rw [if_neg h]
  simp only [if_neg h] at h1
  refine bE follows Tryz.func231 (by unfold Tryz.f231;rfl) (by unfold Tryz.f231;simp) aE (by unfold Tryz.f231;simp) (by kernel_rfl) ?_;unfold Tryz.f231
  simp only [↓pre,simprocAttr,aA,sx,acp,aE,aC]
  refine aM (h1) (by simp only [aA,aV, *]) ?_;simp only [↓pre,simprocAttr,aA,sx,acp,aE,aC,h]
def jK (k r c w:Int) (bs:List UInt8) (ix kd ver:Int):Bool:=eR k r c w bs && (decide ((fU k r c w bs).kd=kd) && (decide ((fU k r c w bs).ix=ix) && decide ((fU k r c w bs).st=ver)))
def sM (k r c w:Int) (p:bX) (ix kd ver:Int):Option (List Int):=if jK k r c w p.1 ix kd ver=true then some (cV k r p.1).vec else if jK k r c w p.2 ix kd ver=true then some (cV k r p.2).vec else none
def o9 (k r c w:Int) (ps:List bX) (kd ver:Int):Nat→Option (List Int)
 | 0=>none
 | n+1=>(o9 k r c w ps kd ver n).or (sM k r c w (ps.getD n ([],[])) (n:Nat) kd ver)
def iJ (k r c w:Int) (ps:List bX) (kd ver:Int):Option (List Int):=o9 k r c w ps kd ver ps.length
theorem ahb {k r c w : Int} {ps : List bX} {kd ver : Int} {n : Nat} {l : List Int} (h : o9 k r c w ps kd ver n = some l) : ∀ m, n ≤ m → o9 k r c w ps kd ver m = some l
 | 0, hm => by have : n = 0 := by omega
               subst this; exact h
 | m + 1, hm => by
   by_cases e : n = m + 1
   · subst e; exact h
   · unfold o9
     rw [ahb h m (by omega)]
     rfl
def sN:Option (List Int)→AV
 | some l => .tree l.length l.length (cC l) false
 | none=>aO
theorem am7 {k r c w:Int} {bs:List UInt8} (h:eR k r c w bs=true):(fU k r c w bs).vv=sN (some (cV k r bs).vec):=by
 unfold fU
 rw [if_pos h]
 rfl
theorem am8 {k r c w:Int} {bs:List UInt8} (h:eR k r c w bs=true):(fU k r c w bs).dv = .tree (cV k r bs).data.length (cV k r bs).data.length (aT (cV k r bs).data) false:=by
 unfold fU
 rw [if_pos h]
 rfl
theorem atW (k r c w kd ver:Int) (v:AV) (ps:List bX) (cells:List AV) (hv:fR v ps cells) (hm:bU k r c w=true) (hr:dS k r c ps=true):aX Tryz.prog 163 [aA k r c w,v,.val (.int .u8 kd),aD ver] ⟨sN (iJ k r c w ps kd ver),[]⟩:=by
 refine eA ?_
 have hp:=hv.rd.plain
 have hmn:=g7 hm
 obtain ⟨hl,hpr⟩:=vM hr
 generalize hres:iJ k r c w ps kd ver=T
 replace hres:=aB.mk hres
 replace hmn:=aB.mk hmn
 replace hpr:=aB.mk hpr
 have hl16:ps.length≤16:=by have:=hmn.out;omega
 replace hl:=aB.mk hl
 refine bZ follows Tryz.func163 (by unfold Tryz.f163;rfl) (by unfold Tryz.f163;simp) aE (by unfold Tryz.f163;simp) (by kernel_rfl) ?_;unfold Tryz.f163
 simp only [↓pre,simprocAttr,aA,sx,jM,aE,aC,aI,Int.natCast_zero,Int.cast_ofNat_Int,Int.natCast_one,dC,dD,aJ,aK,aG,aH,hv.rd.len',sr]
 rw [b9]
 refine cA (fun q e m=>∃ i,q+i=ps.length∧e 2 = .val (.int .u8 kd)∧e 3=aD ver∧e 4 = .tptr 0 [aD k,aD r,aD c,aD w]∧e 16=v∧e 17=aD (ps.length:Nat)∧e 18=aD (i:Nat)∧aB (o9 k r c w ps kd ver i=none)) ps.length ⟨0,by omega,rfl,rfl,rfl,rfl,rfl,rfl,⟨rfl⟩⟩ ?_
 rintro q e m ⟨i,hq,e2,e3,e4,e16,e17,e18,hJ⟩
 replace hq:=aB.mk hq
 by_cases hlt:i < ps.length
 ·have hlt':((i:Nat):Int) < ((ps.length:Nat):Int):=by omega
  have wi:=cI (n:=i) (by omega)
  obtain ⟨p,hpi⟩:∃ p,ps[i]? = some p:=⟨_,List.getElem?_eq_getElem hlt⟩
  obtain ⟨a,b,xa,xb,ha,hb,hra,hrb⟩:=hv.at_ i p hpi
  have hpp:=hpr.out p (List.mem_of_getElem? hpi)
  unfold jR at hpp
  rw [Bool.and_eq_true] at hpp
  have hP0:=aeK k r c w a p.1 xa hra hm hpp.1
  have hP1:=aeK k r c w b p.2 xb hrb hm hpp.2
  obtain ⟨ht,htl⟩:=nZ ha hb
  have fa:=cM hra
  have fb:=cM hrb
  have oa:=b6 hra
  have ob:=b6 hrb
  have hgd:ps.getD i ([],[])=p:=by rw [List.getD_eq_getElem?_getD,hpi];rfl
  have hstep:o9 k r c w ps kd ver (i+1)=sM k r c w p (i:Nat) kd ver:=by
   show (o9 k r c w ps kd ver i).or _=_
   rw [hJ.out,hgd]
   rfl
  have hdone:∀ l,sM k r c w p (i:Nat) kd ver=some l→T=some l:=fun l h=>by
   rw [←hres.out]
   exact ahb (hstep.trans h) _ (by omega)
  have hvv0:eR k r c w p.1=true→(fU k r c w p.1).vv=sN (some (cV k r p.1).vec):=am7
  have hvv1:eR k r c w p.2=true→(fU k r c w p.2).vv=sN (some (cV k r p.2).vec):=am7
  have hR0:=uU k r c w p.1
  have hR1:=uU k r c w p.2
  have htd:sM k r c w p (i:Nat) kd ver=if jK k r c w p.1 (i:Nat) kd ver=true then some (cV k r p.1).vec else if jK k r c w p.2 (i:Nat) kd ver=true then some (cV k r p.2).vec else none:=rfl
  generalize sM k r c w p (i:Nat) kd ver=T1 at *
  have hB0:jK k r c w p.1 (i:Nat) kd ver=(eR k r c w p.1 && (decide ((fU k r c w p.1).kd=kd) && (decide ((fU k r c w p.1).ix=(i:Nat)) && decide ((fU k r c w p.1).st=ver)))):=rfl
  have hB1:jK k r c w p.2 (i:Nat) kd ver=(eR k r c w p.2 && (decide ((fU k r c w p.2).kd=kd) && (decide ((fU k r c w p.2).ix=(i:Nat)) && decide ((fU k r c w p.2).st=ver)))):=rfl
  generalize jK k r c w p.1 (i:Nat) kd ver=B0 at *
  generalize jK k r c w p.2 (i:Nat) kd ver=B1 at *
  generalize fU k r c w p.1=s0 at *
  generalize fU k r c w p.2=s1 at *
  generalize eR k r c w p.1=i0 at *
  generalize eR k r c w p.2=i1 at *
  generalize (cV k r p.1).vec=l0 at *
  generalize (cV k r p.2).vec=l1 at *
  obtain ⟨⟨n1,y1,g1⟩,⟨n2,y2,g2⟩⟩:=hR0
  obtain ⟨⟨n3,y3,g3⟩,⟨n4,y4,g4⟩⟩:=hR1
  have f1:=cM g1
  have f2:=cM g2
  have f3:=cM g3
  have f4:=cM g4
  have q1:=b6 g1
  have q2:=b6 g2
  have q3:=b6 g3
  have q4:=b6 g4
  have t1:=cQ g1
  have t2:=cQ g2
  have t3:=cQ g3
  have t4:=cQ g4
  have pa:=hra.plain
  have pb:=hrb.plain
  simp only [fT.cells] at hP0 hP1
  replace hpi:=aB.mk hpi
  replace hgd:=aB.mk hgd
  replace hstep:=aB.mk hstep
  replace hdone:=aB.mk hdone
  replace hvv0:=aB.mk hvv0
  replace hvv1:=aB.mk hvv1
  replace htd:=aB.mk htd
  replace hB0:=aB.mk hB0
  replace hB1:=aB.mk hB1
  simp only [↓pre,simprocAttr,aA,sx,jM,aE,aC,aI,Int.natCast_zero,Int.cast_ofNat_Int,Int.natCast_one,dC,dD,aJ,aK,aG,aH,fa,fb,oa,ob,f1,f2,f3,f4,q1,q2,q3,q4,t1,t2,t3,t4,e2,e3,e4,e16,e17,e18,hlt',hv.rd.addr',hlt,ht,htl,sr]
  rw [b9]
  refine cA (fun q2 e m=>∃ kk,q2+kk=2∧e 2 = .val (.int .u8 kd)∧e 3=aD ver∧e 4 = .tptr 0 [aD k,aD r,aD c,aD w]∧e 9=aD (i:Nat)∧e 16=v∧e 17=aD (ps.length:Nat)∧e 18=aD (i:Nat)∧e 23 = .agg [a,b]∧e 24=aD (kk:Nat)∧(1≤kk→B0=false)∧(2≤kk→B1=false)) 2 ⟨0,by omega,e2,e3,e4,rfl,e16,e17,e18,rfl,rfl,fun h=>by omega,fun h=>by omega⟩ ?_
  rintro q2' e m ⟨kk,hq2,e2,e3,e4,e9,e16,e17,e18,e23,e24,c1,c2⟩
  obtain rfl | rfl | rfl:kk=0∨kk=1∨kk=2:=by omega
  ·replace hq2:=aB.mk hq2
   clear c1 c2
   have hno:B0=false→∃ n',n' < q2'∧n'+1=2∧(1≤1→B0=false)∧(2≤1→B1=false):=fun h=>⟨q2' - 1,by have:=hq2.out;omega,by have:=hq2.out;omega,fun _=>h,fun h=>by omega⟩
   replace hno:=aB.mk hno
   cases i0 with
   | false =>
    simp only [↓pre,simprocAttr,aA,sx,jM,aE,aC,aI,Int.natCast_zero,Int.cast_ofNat_Int,Int.natCast_one,dC,dD,aJ,aK,aG,aH,fa,fb,oa,ob,f1,f2,f3,f4,q1,q2,q3,q4,t1,t2,t3,t4,e2,e3,e4,e9,e16,e17,e18,e23,e24,sr]
    refine aM (hP0) (by simp only [aA,aV, *]) ?_;simp only [↓pre,simprocAttr,aA,sx,jM,aE,aC,aI,Int.natCast_zero,Int.cast_ofNat_Int,Int.natCast_one,dC,dD,aJ,aK,aG,aH,fa,fb,oa,ob,f1,f2,f3,f4,q1,q2,q3,q4,t1,t2,t3,t4,e2,e3,e4,e9,e16,e17,e18,e23,e24,sr]
    obtain ⟨n',h1,h2,h3,h4⟩:=hno.out (by rw [hB0.out];rfl)
    exact ⟨n',h1,1,h2,rfl,h3,h4⟩
   | true =>
    by_cases k1:s0.kd=kd
    ·by_cases k2:s0.ix=(i:Nat)
     ·by_cases k3:s0.st=ver
      ·have hT:=hdone.out l0 (by rw [htd.out,hB0.out,decide_eq_true k1,decide_eq_true k2,decide_eq_true k3];rfl)
       have hvv:=hvv0.out rfl
       have hf:=fun m=>ach (k:=0) (m:=m) g1
       rw [hvv] at hf
       replace hvv:=aB.mk hvv
       subst hT
       replace hf:=aB.mk hf
       simp only [↓pre,simprocAttr,aA,sx,jM,aE,aC,aI,Int.natCast_zero,Int.cast_ofNat_Int,Int.natCast_one,dC,dD,aJ,aK,aG,aH,fa,fb,oa,ob,f1,f2,f3,f4,q1,q2,q3,q4,t1,t2,t3,t4,e2,e3,e4,e9,e16,e17,e18,e23,e24,sr]
       refine aM (hP0) (by simp only [aA,aV, *]) ?_;simp only [↓pre,simprocAttr,aA,sx,jM,aE,aC,aI,Int.natCast_zero,Int.cast_ofNat_Int,Int.natCast_one,dC,dD,aJ,aK,aG,aH,fa,fb,oa,ob,f1,f2,f3,f4,q1,q2,q3,q4,t1,t2,t3,t4,e2,e3,e4,e9,e16,e17,e18,e23,e24,k1,k2,k3,sr]
       rw [hvv.out]
       exact ⟨0,hf.out _⟩
      ·simp only [↓pre,simprocAttr,aA,sx,jM,aE,aC,aI,Int.natCast_zero,Int.cast_ofNat_Int,Int.natCast_one,dC,dD,aJ,aK,aG,aH,fa,fb,oa,ob,f1,f2,f3,f4,q1,q2,q3,q4,t1,t2,t3,t4,e2,e3,e4,e9,e16,e17,e18,e23,e24,sr]
       refine aM (hP0) (by simp only [aA,aV, *]) ?_;simp only [↓pre,simprocAttr,aA,sx,jM,aE,aC,aI,Int.natCast_zero,Int.cast_ofNat_Int,Int.natCast_one,dC,dD,aJ,aK,aG,aH,fa,fb,oa,ob,f1,f2,f3,f4,q1,q2,q3,q4,t1,t2,t3,t4,e2,e3,e4,e9,e16,e17,e18,e23,e24,k1,k2,k3,sr]
       obtain ⟨n',h1,h2,h3,h4⟩:=hno.out (by rw [hB0.out,decide_eq_false k3];simp)
       exact ⟨n',h1,1,h2,rfl,h3,h4⟩
     ·simp only [↓pre,simprocAttr,aA,sx,jM,aE,aC,aI,Int.natCast_zero,Int.cast_ofNat_Int,Int.natCast_one,dC,dD,aJ,aK,aG,aH,fa,fb,oa,ob,f1,f2,f3,f4,q1,q2,q3,q4,t1,t2,t3,t4,e2,e3,e4,e9,e16,e17,e18,e23,e24,sr]
      refine aM (hP0) (by simp only [aA,aV, *]) ?_;simp only [↓pre,simprocAttr,aA,sx,jM,aE,aC,aI,Int.natCast_zero,Int.cast_ofNat_Int,Int.natCast_one,dC,dD,aJ,aK,aG,aH,fa,fb,oa,ob,f1,f2,f3,f4,q1,q2,q3,q4,t1,t2,t3,t4,e2,e3,e4,e9,e16,e17,e18,e23,e24,k1,k2,sr]
      obtain ⟨n',h1,h2,h3,h4⟩:=hno.out (by rw [hB0.out,decide_eq_false k2];simp)
      exact ⟨n',h1,1,h2,rfl,h3,h4⟩
    ·simp only [↓pre,simprocAttr,aA,sx,jM,aE,aC,aI,Int.natCast_zero,Int.cast_ofNat_Int,Int.natCast_one,dC,dD,aJ,aK,aG,aH,fa,fb,oa,ob,f1,f2,f3,f4,q1,q2,q3,q4,t1,t2,t3,t4,e2,e3,e4,e9,e16,e17,e18,e23,e24,sr]
     refine aM (hP0) (by simp only [aA,aV, *]) ?_;simp only [↓pre,simprocAttr,aA,sx,jM,aE,aC,aI,Int.natCast_zero,Int.cast_ofNat_Int,Int.natCast_one,dC,dD,aJ,aK,aG,aH,fa,fb,oa,ob,f1,f2,f3,f4,q1,q2,q3,q4,t1,t2,t3,t4,e2,e3,e4,e9,e16,e17,e18,e23,e24,k1,sr]
     obtain ⟨n',h1,h2,h3,h4⟩:=hno.out (by rw [hB0.out,decide_eq_false k1];simp)
     exact ⟨n',h1,1,h2,rfl,h3,h4⟩
  ·replace hq2:=aB.mk hq2
   replace c1:=aB.mk (c1 (by omega))
   clear c2
   have hno:B1=false→∃ n',n' < q2'∧n'+2=2∧(1≤2→B0=false)∧(2≤2→B1=false):=fun h=>⟨q2' - 1,by have:=hq2.out;omega,by have:=hq2.out;omega,fun _=>c1.out,fun _=>h⟩
   replace hno:=aB.mk hno
   cases i1 with
   | false =>
    simp only [↓pre,simprocAttr,aA,sx,jM,aE,aC,aI,Int.natCast_zero,Int.cast_ofNat_Int,Int.natCast_one,dC,dD,aJ,aK,aG,aH,fa,fb,oa,ob,f1,f2,f3,f4,q1,q2,q3,q4,t1,t2,t3,t4,e2,e3,e4,e9,e16,e17,e18,e23,e24,sr]
    refine aM (hP1) (by simp only [aA,aV, *]) ?_;simp only [↓pre,simprocAttr,aA,sx,jM,aE,aC,aI,Int.natCast_zero,Int.cast_ofNat_Int,Int.natCast_one,dC,dD,aJ,aK,aG,aH,fa,fb,oa,ob,f1,f2,f3,f4,q1,q2,q3,q4,t1,t2,t3,t4,e2,e3,e4,e9,e16,e17,e18,e23,e24,sr]
    obtain ⟨n',h1,h2,h3,h4⟩:=hno.out (by rw [hB1.out];rfl)
    exact ⟨n',h1,2,h2,rfl,h3,h4⟩
   | true =>
    by_cases k1:s1.kd=kd
    ·by_cases k2:s1.ix=(i:Nat)
     ·by_cases k3:s1.st=ver
      ·have hT:=hdone.out l1 (by rw [htd.out,c1.out,hB1.out,decide_eq_true k1,decide_eq_true k2,decide_eq_true k3];rfl)
       have hvv:=hvv1.out rfl
       have hf:=fun m=>ach (k:=0) (m:=m) g3
       rw [hvv] at hf
       replace hvv:=aB.mk hvv
       subst hT
       replace hf:=aB.mk hf
       simp only [↓pre,simprocAttr,aA,sx,jM,aE,aC,aI,Int.natCast_zero,Int.cast_ofNat_Int,Int.natCast_one,dC,dD,aJ,aK,aG,aH,fa,fb,oa,ob,f1,f2,f3,f4,q1,q2,q3,q4,t1,t2,t3,t4,e2,e3,e4,e9,e16,e17,e18,e23,e24,sr]
       refine aM (hP1) (by simp only [aA,aV, *]) ?_;simp only [↓pre,simprocAttr,aA,sx,jM,aE,aC,aI,Int.natCast_zero,Int.cast_ofNat_Int,Int.natCast_one,dC,dD,aJ,aK,aG,aH,fa,fb,oa,ob,f1,f2,f3,f4,q1,q2,q3,q4,t1,t2,t3,t4,e2,e3,e4,e9,e16,e17,e18,e23,e24,k1,k2,k3,sr]
       rw [hvv.out]
       exact ⟨0,hf.out _⟩
      ·simp only [↓pre,simprocAttr,aA,sx,jM,aE,aC,aI,Int.natCast_zero,Int.cast_ofNat_Int,Int.natCast_one,dC,dD,aJ,aK,aG,aH,fa,fb,oa,ob,f1,f2,f3,f4,q1,q2,q3,q4,t1,t2,t3,t4,e2,e3,e4,e9,e16,e17,e18,e23,e24,sr]
       refine aM (hP1) (by simp only [aA,aV, *]) ?_;simp only [↓pre,simprocAttr,aA,sx,jM,aE,aC,aI,Int.natCast_zero,Int.cast_ofNat_Int,Int.natCast_one,dC,dD,aJ,aK,aG,aH,fa,fb,oa,ob,f1,f2,f3,f4,q1,q2,q3,q4,t1,t2,t3,t4,e2,e3,e4,e9,e16,e17,e18,e23,e24,k1,k2,k3,sr]
       obtain ⟨n',h1,h2,h3,h4⟩:=hno.out (by rw [hB1.out,decide_eq_false k3];simp)
       exact ⟨n',h1,2,h2,rfl,h3,h4⟩
     ·simp only [↓pre,simprocAttr,aA,sx,jM,aE,aC,aI,Int.natCast_zero,Int.cast_ofNat_Int,Int.natCast_one,dC,dD,aJ,aK,aG,aH,fa,fb,oa,ob,f1,f2,f3,f4,q1,q2,q3,q4,t1,t2,t3,t4,e2,e3,e4,e9,e16,e17,e18,e23,e24,sr]
      refine aM (hP1) (by simp only [aA,aV, *]) ?_;simp only [↓pre,simprocAttr,aA,sx,jM,aE,aC,aI,Int.natCast_zero,Int.cast_ofNat_Int,Int.natCast_one,dC,dD,aJ,aK,aG,aH,fa,fb,oa,ob,f1,f2,f3,f4,q1,q2,q3,q4,t1,t2,t3,t4,e2,e3,e4,e9,e16,e17,e18,e23,e24,k1,k2,sr]
      obtain ⟨n',h1,h2,h3,h4⟩:=hno.out (by rw [hB1.out,decide_eq_false k2];simp)
      exact ⟨n',h1,2,h2,rfl,h3,h4⟩
    ·simp only [↓pre,simprocAttr,aA,sx,jM,aE,aC,aI,Int.natCast_zero,Int.cast_ofNat_Int,Int.natCast_one,dC,dD,aJ,aK,aG,aH,fa,fb,oa,ob,f1,f2,f3,f4,q1,q2,q3,q4,t1,t2,t3,t4,e2,e3,e4,e9,e16,e17,e18,e23,e24,sr]
     refine aM (hP1) (by simp only [aA,aV, *]) ?_;simp only [↓pre,simprocAttr,aA,sx,jM,aE,aC,aI,Int.natCast_zero,Int.cast_ofNat_Int,Int.natCast_one,dC,dD,aJ,aK,aG,aH,fa,fb,oa,ob,f1,f2,f3,f4,q1,q2,q3,q4,t1,t2,t3,t4,e2,e3,e4,e9,e16,e17,e18,e23,e24,k1,sr]
     obtain ⟨n',h1,h2,h3,h4⟩:=hno.out (by rw [hB1.out,decide_eq_false k1];simp)
     exact ⟨n',h1,2,h2,rfl,h3,h4⟩
  ·replace c1:=aB.mk (c1 (by omega))
   replace c2:=aB.mk (c2 (by omega))
   simp only [↓pre,simprocAttr,aA,sx,jM,aE,aC,aI,Int.natCast_zero,Int.cast_ofNat_Int,Int.natCast_one,dC,dD,aJ,aK,aG,aH,fa,fb,oa,ob,f1,f2,f3,f4,q1,q2,q3,q4,t1,t2,t3,t4,e2,e3,e4,e9,e16,e17,e18,e23,e24,wi,sr]
   refine ⟨q - 1,by have:=hq.out;omega,i+1,by have:=hq.out;omega,rfl,⟨?_⟩⟩
   rw [hstep.out,htd.out,c1.out,c2.out]
   rfl
 ·have hlt':¬ ((i:Nat):Int) < ((ps.length:Nat):Int):=by omega
  have hi:i=ps.length:=by have:=hq.out;omega
  have hT:T=none:=by rw [←hres.out];unfold iJ;rw [←hi];exact hJ.out
  subst hT
  simp only [↓pre,simprocAttr,aA,sx,jM,aE,aC,aI,Int.natCast_zero,Int.cast_ofNat_Int,Int.natCast_one,dC,dD,aJ,aK,aG,aH,e2,e3,e4,e16,e17,e18,hlt',sr]
  exact ⟨0,by unfold sN aO;rw [fZ]⟩
structure atX (k r c w:Int) (s:qU):Prop where
 vec:iV k r c w s.vec=0
 st:s.st=jO s.vec
 ix0:0≤s.ix
 ix1:s.ix < s.vec.length
 kd:s.kd=1∨s.kd=2
 ce:s.vec[s.ix.toNat]? = some s.ce
 data:(s.data.length:Int)=c
theorem aeM {k r c w:Int} {bs:List UInt8} (h:eR k r c w bs=true):atX k r c w (cV k r bs):=by
 unfold eR tO eC at h
 simp only [Bool.and_eq_true,decide_eq_true_eq,Bool.or_eq_true] at h
 obtain ⟨h1,h2,h3,h4,h5,h6,h7,h8,h9⟩:=h
 exact ⟨h4,h5,h6.1,h6.2,h7,h8,h9⟩
theorem atY {k r c w:Int} {l:List Int} (h:iV k r c w l=0):(l.length:Int)=k+r∧∀ v∈l,1≤v∧v≤1073741824:=by
 unfold iV at h
 split at h
 ·split at h
  ·split at h
   ·omega
   ·rename_i h1 h2 h3
    refine ⟨h2,fun v hv => ?_⟩
    have:¬ (l.any fun n => !g8 n)=true:=h3
    rw [List.any_eq_true] at this
    have h4:g8 v=true:=by
     cases hb:g8 v with
     | true=>rfl
     | false=>exact absurd ⟨v,hv,by rw [hb];rfl⟩ this
    unfold g8 at h4
    exact of_decide_eq_true h4
  ·omega
 ·omega
theorem atZ {k r c w:Int} {p:bX} {ix kd ver:Int} {l:List Int} (h:sM k r c w p ix kd ver=some l):iV k r c w l=0∧∃ bs,(bs=p.1∨bs=p.2)∧jK k r c w bs ix kd ver=true∧l=(cV k r bs).vec:=by
 unfold sM at h
 split at h
 ·rename_i h1
  cases h
  have h2:=h1
  unfold jK at h1
  rw [Bool.and_eq_true] at h1
  exact ⟨(aeM h1.1).vec,_,.inl rfl,h2,rfl⟩
 ·split at h
  ·rename_i h1
   cases h
   have h2:=h1
   unfold jK at h1
   rw [Bool.and_eq_true] at h1
   exact ⟨(aeM h1.1).vec,_,.inr rfl,h2,rfl⟩
  ·cases h
theorem am9 {k r c w:Int} {ps:List bX} {kd ver:Int}:∀ (n:Nat) (l:List Int),o9 k r c w ps kd ver n=some l→∃ i,i < n∧sM k r c w (ps.getD i ([],[])) (i:Nat) kd ver=some l
 | 0,l,h=>by cases h
 | n+1,l,h=>by
  unfold o9 at h
  cases h1:o9 k r c w ps kd ver n with
  | some l' =>
   rw [h1] at h
   cases h
   obtain ⟨i,hi,h2⟩:=am9 n _ h1
   exact ⟨i,by omega,h2⟩
  | none =>
   rw [h1] at h
   exact ⟨n,by omega,h⟩
theorem ahc {k r c w:Int} {ps:List bX} {kd ver:Int} {l:List Int} (h:iJ k r c w ps kd ver=some l):(l.length:Int)=k+r∧∀ v∈l,1≤v∧v≤1073741824:=by
 obtain ⟨i,hi,h2⟩:=am9 _ _ h
 exact atY (atZ h2).1
def nH (k r c w:Int) (p:bX) (ix kd ver:Int):Option fT:=if kE k r c w p.1 ix kd ver=true then some (fU k r c w p.1) else if kE k r c w p.2 ix kd ver=true then some (fU k r c w p.2) else none
theorem ana {k r c w:Int} {p:bX} {ix kd ver:Int} {s:fT} (h:nH k r c w p ix kd ver=some s):s.Rd∧∃ n,abw k r c w p ix kd ver = .tup [aD n,s.v,bB true,aD 0]:=by
 unfold nH at h
 unfold abw
 split at h
 ·rename_i h1;cases h;exact ⟨uU _ _ _ _ _,0,by rw [if_pos h1]⟩
 ·rename_i h1
  split at h
  ·rename_i h2;cases h;exact ⟨uU _ _ _ _ _,1,by rw [if_neg h1,if_pos h2]⟩
  ·cases h
theorem at0 {k r c w:Int} {p:bX} {ix kd ver:Int} (h:nH k r c w p ix kd ver=none):abw k r c w p ix kd ver = .tup [aD 0,sK.v,bB false,aD 0]:=by
 unfold nH at h
 unfold abw
 split at h
 ·cases h
 ·rename_i h1
  split at h
  ·cases h
  ·rename_i h2;rw [if_neg h1,if_neg h2]
def nI:Nat→Bool:=fun d=>d != 13
theorem at1 (k r c w kd ver : Int) (v : AV) (ps : List bX) (cells : List AV) (hv : fR v ps cells) (hm : bU k r c w = true) (hr : dS k r c ps = true) (hk : kd = 1 ∨ kd = 2) (m0 : aF) (g : FuncId) (caps : List AV) (nS : Nat → aF → Prop) (h0 : nS 0 m0) (hkeep : ∀ i m m', nS i m → lC m m' → nS i m')
   (hdo : ∀ (l : List Int) (i : Nat) (p : bX) (m : aF) (s : fT), iJ k r c w ps kd ver = some l → i < ps.length → ps[i]? = some p → nH k r c w p (i : Nat) kd (l.getD i 0) = some s → nS i m → fA Tryz.prog g (aD (i : Nat) :: .agg s.cells :: caps) m fun res m' => res = .tup [] ∧ nS (i + 1) m')
   (hno : ∀ (l : List Int) (i : Nat) (p : bX) (m : aF), iJ k r c w ps kd ver = some l → i < ps.length → ps[i]? = some p → nH k r c w p (i : Nat) kd (l.getD i 0) = none → nS i m → nS (i + 1) m) :
   fA Tryz.prog 161 [aA k r c w, v, .val (.int .u8 kd), aD ver, .clo g caps] m0 fun res m' => res = .tup [] ∧ nS (if (iJ k r c w ps kd ver).isSome = true then ps.length else 0) m' := by
 have hp := hv.rd.plain
 have htold := atW k r c w kd ver v ps cells hv hm hr
 have hmn := g7 hm
 obtain ⟨hl, hpr⟩ := vM hr
 replace hdo := aB.mk hdo
 replace hno := aB.mk hno
 replace hkeep := aB.mk hkeep
 replace hmn := aB.mk hmn
 replace hpr := aB.mk hpr
 replace hl := aB.mk hl
 cases hT : iJ k r c w ps kd ver with
 | none =>
   rw [hT] at htold
   unfold sN aO at htold
   have hlen0 : lenE Tryz.prog 41 (.val (.slice none 0 0)) = some (.val (.int .i64 0)) := by kernel_rfl
   refine bZ follows Tryz.func161 (by unfold Tryz.f161; rfl) (by unfold Tryz.f161; simp) nI (by unfold Tryz.f161; simp) (by kernel_rfl) ?_; unfold Tryz.f161
   simp only [↓pre, simprocAttr, aA, sx, oV, nI, bne, aC, aI, aJ, aK, aG, aH, sr]
   refine aM (htold) (by simp only [aA, aV, *]) ?_; simp only [↓pre, simprocAttr, aA, sx, oV, nI, bne, aC, aI, aJ, aK, aG, aH, hlen0, sr]
   rw [b9]
   refine cA (fun q e m => e 21 = .val (.int .i64 0) ∧ e 22 = .val (.int .i64 0) ∧ aB (nS 0 m)) 0 ⟨rfl, rfl, ⟨h0⟩⟩ ?_
   rintro q e m ⟨e21, e22, hJ⟩
   have : ¬ (0 : Int) < 0 := by omega
   simp only [↓pre, simprocAttr, aA, sx, oV, nI, bne, aC, aI, aJ, aK, aG, aH, e21, e22, this, sr]
   exact hJ.out
 | some l =>
   rw [hT] at htold
   obtain ⟨hll, hlv⟩ := ahc hT
   have hlp : l.length = ps.length := by have := hl.out; omega
   have hrdl : bC (.tree l.length l.length (cC l) false) l.length (cC l ++ []) := ⟨.inr (.inr ⟨_, false, by rw [List.append_nil], Nat.le_refl _⟩)⟩
   have hl16 : l.length ≤ 16 := by have := hmn.out; omega
   unfold sN at htold
   replace hlv := aB.mk hlv
   replace hll := aB.mk hll
   replace hT := aB.mk hT
   refine bZ follows Tryz.func161 (by unfold Tryz.f161; rfl) (by unfold Tryz.f161; simp) nI (by unfold Tryz.f161; simp) (by kernel_rfl) ?_; unfold Tryz.f161
   simp only [↓pre, simprocAttr, aA, sx, oV, nI, bne, aC, aI, aJ, aK, aG, aH, sr]
   refine aM (htold) (by simp only [aA, aV, *]) ?_; simp only [↓pre, simprocAttr, aA, sx, oV, nI, bne, aC, aI, aJ, aK, aG, aH, hrdl.len', sr]
   rw [b9]
   refine cA (fun q e m => ∃ i, q + i = l.length ∧ e 1 = v ∧ e 2 = .val (.int .u8 kd) ∧ e 4 = .clo g caps ∧ e 5 = .tptr 0 [aD k, aD r, aD c, aD w] ∧ e 20 = .tree l.length l.length (cC l) false ∧ e 21 = aD (l.length : Nat) ∧ e 22 = aD (i : Nat) ∧ aB (nS i m)) l.length ⟨0, by omega, rfl, rfl, rfl, rfl, rfl, rfl, rfl, ⟨h0⟩⟩ ?_
   rintro q e m ⟨i, hq, e1, e2, e4, e5, e20, e21, e22, hJ⟩
   replace hq := aB.mk hq
   by_cases hlt : i < l.length
   · have hlt' : ((i : Nat) : Int) < ((l.length : Nat) : Int) := by omega
     have wi := cI (n := i) (by omega)
     have hip : i < ps.length := by omega
     obtain ⟨z, hz⟩ : ∃ z, l[i]? = some z := ⟨_, List.getElem?_eq_getElem hlt⟩
     have hza := qT (x := []) hz
     rw [List.append_nil] at hza hrdl
     obtain ⟨p, hpi⟩ : ∃ p, ps[i]? = some p := ⟨_, List.getElem?_eq_getElem hip⟩
     obtain ⟨a, b, xa, xb, ha, hb, hra, hrb⟩ := hv.at_ i p hpi
     obtain ⟨ht, htl⟩ := nZ ha hb
     have hzv := hlv.out z (List.mem_of_getElem? hz)
     have hgz : l.getD i 0 = z := by rw [List.getD_eq_getElem?_getD, hz]; rfl
     have hfi := atS k r c w (i : Nat) kd z a b p xa xb hra hrb hm (hpr.out p (List.mem_of_getElem? hpi)) hk (by omega) (by have := hl.out; omega) hzv.1 hzv.2
     have pa := hra.plain
     have pb := hrb.plain
     have hpush : ∀ (cs : List AV), lC m ((m.push ⟨sK.cells, 127, .var, true⟩).put m.next (some ⟨cs, 127, .var, true⟩)) := fun cs => ⟨rfl, by rw [aZ, aW]; omega, fun j x hj hl => by rw [aG, if_neg (by omega), aH, if_neg (by omega)]; exact hj⟩
     replace hz := aB.mk hz
     replace hpi := aB.mk hpi
     replace hzv := aB.mk hzv
     replace hgz := aB.mk hgz
     replace hpush := aB.mk hpush
     cases hF : nH k r c w p (i : Nat) kd z with
     | none =>
       rw [at0 hF] at hfi
       replace hF := aB.mk hF
       simp only [fT.v, fT.cells, sK, aO, aD, bB] at hfi
       simp only [↓pre, simprocAttr, aA, sx, oV, nI, bne, aC, aI, aJ, aK, aG, aH, e1, e2, e4, e5, e20, e21, e22, hlt', hrdl.addr', hlt, hza, hv.rd.addr', hip, ht, htl, sr]
       (refine cE (hfi) (by simp only [aA, aV, *]) (by intro k; rfl) ?_); simp only [↓pre, simprocAttr, aA, sx, oV, nI, bne, aC, aI, aJ, aK, aG, aH, e1, e2, e4, e5, e20, e21, e22, sr]
       refine dJ (by kernel_rfl) ?_
       simp only [↓pre, simprocAttr, aA, sx, oV, nI, bne, aC, aI, aJ, aK, aG, aH, e1, e2, e4, e5, e20, e21, e22, sr]
       refine dJ (by kernel_rfl) ?_
       simp only [↓pre, simprocAttr, aA, sx, oV, nI, bne, aC, aI, aJ, aK, aG, aH, e1, e2, e4, e5, e20, e21, e22, wi, sr]
       exact ⟨q - 1, by have := hq.out; omega, i + 1, by have := hq.out; omega, rfl, ⟨hno.out l i p _ hT.out hip hpi.out (by rw [hgz.out]; exact hF.out) (hkeep.out i m _ hJ.out (hpush.out _))⟩⟩
     | some s =>
       obtain ⟨hsR, n0, hfv⟩ := ana hF
       rw [hfv] at hfi
       obtain ⟨⟨n1, y1, g1⟩, ⟨n2, y2, g2⟩⟩ := hsR
       have q1 := b6 g1
       have q2 := b6 g2
       have t1 := cQ g1
       have t2 := cQ g2
       replace hF := aB.mk hF
       replace hfv := aB.mk hfv
       simp only [fT.v, fT.cells, aD, bB] at hfi
       simp only [↓pre, simprocAttr, aA, sx, oV, nI, bne, aC, aI, aJ, aK, aG, aH, e1, e2, e4, e5, e20, e21, e22, hlt', hrdl.addr', hlt, hza, hv.rd.addr', hip, ht, htl, q1, q2, t1, t2, sr]
       (refine cE (hfi) (by simp only [aA, aV, *]) (by intro k; simp only [sq, sr, *]) ?_); simp only [↓pre, simprocAttr, aA, sx, oV, nI, bne, aC, aI, aJ, aK, aG, aH, e1, e2, e4, e5, e20, e21, e22, q1, q2, t1, t2, sr]
       refine dJ (by kernel_rfl) ?_
       simp only [↓pre, simprocAttr, aA, sx, oV, nI, bne, aC, aI, aJ, aK, aG, aH, e1, e2, e4, e5, e20, e21, e22, q1, q2, t1, t2, sr]
       refine dJ (by kernel_rfl) ?_
       simp only [↓pre, simprocAttr, aA, sx, oV, nI, bne, aC, aI, aJ, aK, aG, aH, e1, e2, e4, e5, e20, e21, e22, q1, q2, t1, t2, wi, sr]
       refine m9 (hdo.out l i p _ s hT.out hip hpi.out (by rw [hgz.out]; exact hF.out) (hkeep.out i m _ hJ.out (hpush.out _))) ?_
       rintro res m' ⟨rfl, hI⟩
       simp only [↓pre, simprocAttr, aA, sx, oV, nI, bne, aC, aI, aJ, aK, aG, aH, e1, e2, e4, e5, e20, e21, e22, wi, sr]
       exact ⟨q - 1, by have := hq.out; omega, i + 1, by have := hq.out; omega, rfl, ⟨hI⟩⟩
   · have hlt' : ¬ ((i : Nat) : Int) < ((l.length : Nat) : Int) := by omega
     have hi : i = ps.length := by have := hq.out; omega
     simp only [↓pre, simprocAttr, aA, sx, oV, nI, bne, aC, aI, aJ, aK, aG, aH, e1, e2, e4, e5, e20, e21, e22, hlt', Option.isSome_some, sr]
     rw [← hi]
     exact hJ.out
def mH (k r c w:Int) (p:bX) (ix kd ver:Int):List UInt8:=if kE k r c w p.1 ix kd ver=true then (cV k r p.1).data else if kE k r c w p.2 ix kd ver=true then (cV k r p.2).data else []
def iL (k r c w:Int) (ps:List bX) (kd ver:Int):List (List UInt8):=match iJ k r c w ps kd ver with
 | some l=>(List.range ps.length).map fun j=>mH k r c w (ps.getD j ([],[])) (j:Nat) kd (l.getD j 0)
 | none=>(List.range ps.length).map fun _=>[]
theorem ahd (k r c w:Int) (ps:List bX) (kd ver:Int):(iL k r c w ps kd ver).length=ps.length:=by
 unfold iL
 split <;> simp
theorem aeN {k r c w:Int} {bs:List UInt8} {ix kd ver:Int} (h:kE k r c w bs ix kd ver=true):eR k r c w bs=true:=by
 unfold kE nG at h
 rw [Bool.and_eq_true] at h
 have:=h.1
 unfold gQ at this
 rw [Bool.and_eq_true] at this
 exact this.1
theorem ahe {k r c w:Int} {p:bX} {ix kd ver:Int} {s:fT} (h:nH k r c w p ix kd ver=some s):(((mH k r c w p ix kd ver).length:Nat):Int)=c∧s.dv = .tree (mH k r c w p ix kd ver).length (mH k r c w p ix kd ver).length (aT (mH k r c w p ix kd ver)) false:=by
 unfold nH at h
 unfold mH
 split at h
 ·rename_i h1
  cases h
  rw [if_pos h1]
  exact ⟨(aeM (aeN h1)).data,am8 (aeN h1)⟩
 ·rename_i h1
  split at h
  ·rename_i h2
   cases h
   rw [if_neg h1,if_pos h2]
   exact ⟨(aeM (aeN h2)).data,am8 (aeN h2)⟩
  ·cases h
theorem anb {k r c w:Int} {p:bX} {ix kd ver:Int} (h:nH k r c w p ix kd ver=none):mH k r c w p ix kd ver=[]:=by
 unfold nH at h
 unfold mH
 split at h
 ·cases h
 ·rename_i h1
  split at h
  ·cases h
  ·rename_i h2;rw [if_neg h1,if_neg h2]
theorem at2 (k r c w:Int) (p:bX) (ix kd ver:Int):(mH k r c w p ix kd ver).length=0∨(((mH k r c w p ix kd ver).length:Nat):Int)=c:=by
 cases h:nH k r c w p ix kd ver with
 | none=>left;rw [anb h];rfl
 | some s=>right;exact (ahe h).1
theorem anc (k r c w:Int) (C:Nat) (hc:c=(C:Nat)) (ps:List bX) (kd ver:Int):abv (iL k r c w ps kd ver) C:=by
 intro b hb
 unfold iL at hb
 split at hb
 ·obtain ⟨j,_,rfl⟩:=List.mem_map.1 hb
  rcases at2 k r c w (ps.getD j ([],[])) (j:Nat) kd _ with h | h
  ·exact .inl h
  ·exact .inr (by omega)
 ·obtain ⟨j,_,rfl⟩:=List.mem_map.1 hb
  exact .inl rfl
def fQ (b:List UInt8):AV:=if b.length=0 then aO else .tree b.length b.length (aT b) false
theorem abx (b:List UInt8):bC (fQ b) b.length (b.map aU++[]):=by
 unfold fQ
 split
 ·rename_i h;rw [h];exact ⟨.inl ⟨rfl,rfl⟩⟩
 ·exact ⟨.inr (.inr ⟨_,false,by rw [List.append_nil];rfl,Nat.le_refl _⟩)⟩
def fO (T:List (List UInt8)) (n:Nat):List AV:=(List.range T.length).map fun j=>if j < n then fQ (T.getD j []) else aO
theorem aeO (T:List (List UInt8)) (n:Nat):(fO T n).length=T.length:=by simp [fO]
theorem aeP {T:List (List UInt8)} {n j:Nat} (h:j < T.length):(fO T n)[j]? = some (if j < n then fQ (T.getD j []) else aO):=by
 unfold fO
 rw [List.getElem?_map,List.getElem?_range h]
 rfl
theorem ahf {T:List (List UInt8)} {n n':Nat} (h:∀ j,j < T.length→(if j < n then fQ (T.getD j []) else aO)=(if j < n' then fQ (T.getD j []) else aO)):fO T n=fO T n':=by
 unfold fO
 apply List.map_congr_left
 intro j hj
 exact h j (List.mem_range.1 hj)
theorem ane {T:List (List UInt8)} {i:Nat} (hi:i < T.length):cN (fO T i) i [fQ (T.getD i [])]=fO T (i+1):=by
 have hl:=aeO T i
 unfold cN
 apply List.ext_getElem?
 intro j
 by_cases hj:j < T.length
 ·rw [aeP hj,List.append_assoc]
  have htl:((fO T i).take i).length=i:=by rw [List.length_take,hl];omega
  by_cases h1:j < i
  ·rw [List.getElem?_append_left (by omega),List.getElem?_take_of_lt h1,aeP hj,if_pos h1,if_pos (by omega)]
  ·rw [List.getElem?_append_right (by omega),htl]
   by_cases h2:j=i
   ·subst h2;rw [Nat.sub_self,if_pos (by omega)];rfl
   ·rw [List.getElem?_append_right (by simp;omega),List.getElem?_drop]
    simp only [List.length_cons,List.length_nil]
    rw [show i+(0+1)+(j - i - (0+1))=j by omega,aeP hj,if_neg (by omega),if_neg (by omega)]
 ·rw [List.getElem?_eq_none (by simp [hl];omega),List.getElem?_eq_none (by rw [aeO];omega)]
theorem anf (T:List (List UInt8)) (v:AV) (hv:bC v T.length (fO T T.length)):gI v T (fO T T.length):=⟨hv,fun i b hb=>by
 have hi:=(List.getElem?_eq_some_iff.1 hb).1
 refine ⟨_,[],aeP hi, ?_⟩
 rw [if_pos hi,sJ hb]
 exact abx b⟩
theorem at3 (T:List (List UInt8)) (n:Nat):eB (fO T n)=true:=z8 _ fun c hc=>by
 unfold fO at hc
 obtain ⟨j,_,rfl⟩:=List.mem_map.1 hc
 split
 ·exact (abx _).plain
 ·rfl
theorem at4 (m:aF) (i N cnt:Nat) (s:fT) (hs:s.Rd) (cs:List AV) (hi:i < N) (hN:cs.length=N) (hcnt:cnt < 1000) (h0:m.at_ 0=some ⟨cs,52,.var,true⟩) (h1:m.at_ 1=some ⟨[.sl 0 0 N N true],45,.var,true⟩) (h2:m.at_ 2=some ⟨[aD (cnt:Nat)],3,.var,true⟩):fA Tryz.prog 235 [aD (i:Nat),.agg s.cells,.ptr 1 0,.ptr 2 0] m fun res m'=>res = .tup []∧m'=(m.put 0 (some ⟨cN cs i [s.dv],52,.var,true⟩)).put 2 (some ⟨[aD (cnt+1:Nat)],3,.var,true⟩):=by
 obtain ⟨⟨n1,y1,g1⟩,⟨n2,y2,g2⟩⟩:=hs
 have f1:=cM g1
 have f2:=cM g2
 have q1:=b6 g1
 have q2:=b6 g2
 have w1:=cI (n:=cnt) (by omega)
 have hl:i+1≤cs.length:=by omega
 obtain ⟨kd,ix,ce,st,vv,dv⟩:=s
 simp only [fT.cells] at *
 rcases g2.form with ⟨rfl,_⟩ | ⟨_,_,rfl,_⟩ | ⟨_,_,rfl,_⟩
 ·refine bZ follows Tryz.func235 (by unfold Tryz.f235;rfl) (by unfold Tryz.f235;simp) aE (by unfold Tryz.f235;simp) (by kernel_rfl) ?_;unfold Tryz.f235
  simp only [↓pre,simprocAttr,aA,sx,ago,aE,aC,aI,aJ,aK,aG,aH,Nat.one_ne_zero,Nat.reduceEqDiff,f1,f2,q1,q2,h0,h1,h2,hi,hl,w1,d6,aO,sr]
 ·refine bZ follows Tryz.func235 (by unfold Tryz.f235;rfl) (by unfold Tryz.f235;simp) aE (by unfold Tryz.f235;simp) (by kernel_rfl) ?_;unfold Tryz.f235
  simp only [↓pre,simprocAttr,aA,sx,ago,aE,aC,aI,aJ,aK,aG,aH,Nat.one_ne_zero,Nat.reduceEqDiff,f1,f2,q1,q2,h0,h1,h2,hi,hl,w1,d6,sr]
 ·refine bZ follows Tryz.func235 (by unfold Tryz.f235;rfl) (by unfold Tryz.f235;simp) aE (by unfold Tryz.f235;simp) (by kernel_rfl) ?_;unfold Tryz.f235
  simp only [↓pre,simprocAttr,aA,sx,ago,aE,aC,aI,aJ,aK,aG,aH,Nat.one_ne_zero,Nat.reduceEqDiff,f1,f2,q1,q2,h0,h1,h2,hi,hl,w1,d6,sr]
theorem ahg {k r c w:Int} {ps:List bX} {kd ver:Int} {l:List Int} (hT:iJ k r c w ps kd ver=some l) {i:Nat} {p:bX} (hp:ps[i]? = some p):(iL k r c w ps kd ver).getD i []=mH k r c w p (i:Nat) kd (l.getD i 0):=by
 have hi:=(List.getElem?_eq_some_iff.1 hp).1
 unfold iL
 rw [hT]
 simp only
 rw [List.getD_eq_getElem?_getD,List.getElem?_map,List.getElem?_range hi,Option.map_some,Option.getD_some,List.getD_eq_getElem?_getD (l:=ps),hp]
 rfl
theorem ang {k r c w:Int} {ps:List bX} {kd ver:Int} (hT:iJ k r c w ps kd ver=none) (n:Nat):cB (iL k r c w ps kd ver) n=[]:=by
 unfold cB
 rw [List.filter_eq_nil_iff]
 intro i hi
 unfold iL
 rw [hT]
 simp only
 rw [List.getD_eq_getElem?_getD,List.getElem?_map]
 cases (List.range ps.length)[i]? <;> simp
def nJ (k r c w:Int) (ps:List bX) (kd ver:Int):Mx:=abo k.toNat ((cB (iL k r c w ps kd ver) (k+r).toNat).take k.toNat) (gF (iL k r c w ps kd ver))
def jU (k r c w:Int) (ps:List bX) (kd ver:Int):Nat:=(cB (iL k r c w ps kd ver) (k+r).toNat).length
def wK (k r c w:Int) (ps:List bX) (kd ver:Int):AV:=if jU k r c w ps kd ver < k.toNat then .tup [aO,aD 5] else .tup [bJ (k+r).toNat (eN c.toNat (nJ k r c w ps kd ver) 0 (k+r).toNat),aD 0]
def aby:Nat→Bool:=fun d=>d != 10 && d != 11
theorem at5 (k r c w kd ver:Int) (v:AV) (ps:List bX) (cells:List AV) (hv:fR v ps cells) (hm:bU k r c w=true) (hr:dS k r c ps=true) (hk:kd=1∨kd=2):aX Tryz.prog 160 [aA k r c w,v,.val (.int .u8 kd),aD ver] ⟨wK k r c w ps kd ver,[]⟩:=by
 refine eA ?_
 have hp:=hv.rd.plain
 have hmn:=g7 hm
 have hml:=jN.1 hm
 obtain ⟨hl,hpr⟩:=vM hr
 obtain ⟨K,hK⟩:∃ K:Nat,k=(K:Int):=⟨k.toNat,by omega⟩
 obtain ⟨R,hR⟩:∃ R:Nat,r=(R:Int):=⟨r.toNat,by omega⟩
 obtain ⟨C,hC⟩:∃ C:Nat,c=(C:Int):=⟨c.toNat,by omega⟩
 have hkr:(k+r).toNat=K+R:=by omega
 have hkn:k.toNat=K:=by omega
 have hcn:c.toNat=C:=by omega
 have hpsl:ps.length=K+R:=by omega
 have hTl:=ahd k r c w ps kd ver
 have hTa:=anc k r c w C hC ps kd ver
 have hdat:∀ (l:List Int) (i:Nat) (p:bX) (s:fT),iJ k r c w ps kd ver=some l→ps[i]? = some p→nH k r c w p (i:Nat) kd (l.getD i 0)=some s→s.dv=fQ ((iL k r c w ps kd ver).getD i [])∧((iL k r c w ps kd ver).getD i []).length≠0:=fun l i p s h1 h2 h3=>by
  obtain ⟨g1,g2⟩:=ahe h3
  rw [ahg h1 h2]
  refine ⟨?_,by omega⟩
  unfold fQ
  rw [if_neg (by omega)]
  exact g2
 have hdno:∀ (l:List Int) (i:Nat) (p:bX),iJ k r c w ps kd ver=some l→ps[i]? = some p→nH k r c w p (i:Nat) kd (l.getD i 0)=none→((iL k r c w ps kd ver).getD i []).length=0:=fun l i p h1 h2 h3=>by
  rw [ahg h1 h2,anb h3]
  rfl
 have hTnone:=fun h n=>ang (k:=k) (r:=r) (c:=c) (w:=w) (ps:=ps) (kd:=kd) (ver:=ver) h n
 have heach:=fun m0 g caps nS h0 hkeep hdo hno=>at1 k r c w kd ver v ps cells hv hm hr hk m0 g caps nS h0 hkeep hdo hno
 unfold wK jU nJ
 rw [hkr,hkn,hcn]
 generalize hTT:iL k r c w ps kd ver=T at *
 have hn:T.length=K+R:=by omega
 have hmk:=fun m=>ag5 m (n:=K+R) (by omega)
 generalize hres:(if (cB T (K+R)).length < K then AV.tup [aO,aD 5] else .tup [bJ (K+R) (eN C (abo K ((cB T (K+R)).take K) (gF T)) 0 (K+R)),aD 0])=RES
 have hfin:∀ m,fzT 1 m RES=some RES:=fun m=>by
  rw [←hres]
  split
  ·exact iI (b8 _) (b8 _) 1 m
  ·exact iI (kD (dX _ _)) (b8 _) 1 m
 have hdec:K≤(cB T (K+R)).length→∀ av,bC av T.length (fO T T.length)→aX Tryz.prog 236 [aD (K:Nat),aD (R:Nat),av] ⟨RES,[]⟩:=fun h av hav=>by
  have:=atN av K R C T _ (anf T av hav) hn hTa (by omega) (by omega) (by omega) (by omega) (by omega) h
  rw [←hres,if_neg (by omega)]
  exact this
 replace hdat:=aB.mk hdat
 replace hdno:=aB.mk hdno
 replace hTa:=aB.mk hTa
 replace hpr:=aB.mk hpr
 replace heach:=aB.mk heach
 replace hml:=aB.mk hml
 replace hmn:=aB.mk hmn
 replace hfin:=aB.mk hfin
 replace hdec:=aB.mk hdec
 replace hTnone:=aB.mk hTnone
 refine bZ follows Tryz.func160 (by unfold Tryz.f160;rfl) (by unfold Tryz.f160;simp) aby (by unfold Tryz.f160;simp) (by kernel_rfl) ?_;unfold Tryz.f160
 simp only [↓pre,simprocAttr,aA,sx,ack,aby,bne,aC,aI,aJ,aK,aG,aH,aQ,Nat.one_ne_zero,Nat.reduceEqDiff,Array.size_empty,List.size_toArray,hv.rd.len',hpsl,hmk,sr]
 generalize hm3:aF.put (aF.push _ _) _ _=m3
 have hb0:m3.at_ 0=some ⟨fO T 0,52,.var,true⟩:=by
  rw [←hm3]
  have:fO T 0=(List.range (K+R)).map fun _=>aO:=by unfold fO;rw [hn];apply List.map_congr_left;intro j _;rw [if_neg (by omega)]
  rw [this]
  simp [aG,aH,aZ,aW,aQ]
 have hb1:m3.at_ 1=some ⟨[.sl 0 0 (K+R) (K+R) true],45,.var,true⟩:=by rw [←hm3];simp [aG,aH,aZ,aW,aQ]
 have hb2:m3.at_ 2=some ⟨[aD (0:Nat)],3,.var,true⟩:=by rw [←hm3];simp [aG,aH,aZ,aW,aQ];rfl
 have hnx:2 < m3.next:=by rw [←hm3];simp [aZ,aW,aQ]
 refine m9 (heach.out m3 235 [.ptr 1 0,.ptr 2 0] (fun i m=>m.at_ 0=some ⟨fO T i,52,.var,true⟩∧m.at_ 1=some ⟨[.sl 0 0 (K+R) (K+R) true],45,.var,true⟩∧m.at_ 2=some ⟨[aD ((cB T i).length:Nat)],3,.var,true⟩∧2 < m.next) ⟨hb0,hb1,hb2,hnx⟩ ?_ ?_ ?_) ?_
 ·rintro i m m' ⟨h1,h2,h3,h4⟩ hkp
  exact ⟨hkp.at_ 0 _ h1 (by omega),hkp.at_ 1 _ h2 (by omega),hkp.at_ 2 _ h3 (by omega),Nat.lt_of_lt_of_le h4 hkp.next⟩
 ·rintro l i p m s hTl2 hi hpi hF ⟨h1,h2,h3,h4⟩
  obtain ⟨hsR,_⟩:=ana hF
  obtain ⟨hd1,hd2⟩:=hdat.out l i p s hTl2 hpi hF
  have hle:=aeH T i
  have hiT:i < T.length:=by omega
  refine pX (at4 m i (K+R) _ s hsR _ (by omega) (by rw [aeO];omega) (by have:=hmn.out;omega) h1 h2 h3) ?_
  rintro res m' ⟨rfl,rfl⟩
  refine ⟨rfl, ?_, ?_, ?_, ?_⟩
  ·rw [aG,if_neg (by decide),aG,if_pos rfl,hd1,ane hiT]
  ·rw [aG,if_neg (by decide),aG,if_neg (by decide)]
   exact h2
  ·rw [aG,if_pos rfl,wG,if_pos hd2,List.length_append]
   rfl
  ·exact h4
 ·rintro l i p m hTl2 hi hpi hF ⟨h1,h2,h3,h4⟩
  have hd:=hdno.out l i p hTl2 hpi hF
  refine ⟨?_,h2, ?_,h4⟩
  ·rw [h1]
   congr 2
   refine ahf fun j hj => ?_
   by_cases e:j=i
   ·subst e
    rw [if_neg (by omega),if_pos (by omega)]
    unfold fQ
    rw [if_pos hd]
   ·by_cases e2:j < i
    ·rw [if_pos e2,if_pos (by omega)]
    ·rw [if_neg e2,if_neg (by omega)]
  ·rw [wG,if_neg (by omega),List.append_nil]
   exact h3
 rintro res m4 ⟨rfl,hInv⟩
 clear hm3 hb0 hb1 hb2 hnx
 by_cases hsome:(iJ k r c w ps kd ver).isSome=true
 ·rw [if_pos hsome,hpsl] at hInv
  obtain ⟨h0,h1,h2,h4⟩:=hInv
  by_cases hlt:(cB T (K+R)).length < K
  ·have hlt':(((cB T (K+R)).length:Nat):Int) < k:=by omega
   rw [if_pos hlt] at hres
   subst hres
   have hf:=hfin.out
   unfold aO aD at hf
   replace hf:=aB.mk hf
   simp only [↓pre,simprocAttr,aA,sx,ack,aby,bne,aC,aI,aJ,aK,aG,aH,aQ,Nat.one_ne_zero,Nat.reduceEqDiff,Array.size_empty,List.size_toArray,h1,h2,hlt',sr]
   exact ⟨1,hf.out _⟩
  ·have hlt':¬ (((cB T (K+R)).length:Nat):Int) < k:=by omega
   have hTle:T.length=K+R:=by omega
   have hHas:mN m4 (.sl 0 0 (K+R) (K+R) true) (K+R) (fO T (K+R)):=⟨.inr ⟨0,0,K+R,true,_,rfl,h0,.inr ⟨rfl,at3 _ _⟩,rfl,Nat.le_refl _⟩⟩
   obtain ⟨av,m5,hfz,hav,_⟩:=hHas.fz
   rw [←hTle] at hav
   have hdd:=hdec.out (by omega) av hav
   rw [if_neg hlt] at hres
   subst hres
   have hfz2:fzs m4 [aD k,aD r,.sl 0 0 (K+R) (K+R) true]=some ([aD (K:Nat),aD (R:Nat),av],m5):=by rw [hK,hR];simp [fzs,fz,aD] at hfz ⊢;simp [hfz]
   have hf:=hfin.out
   simp only [aD] at hdd hfz2 hf
   replace hf:=aB.mk hf
   simp only [↓pre,simprocAttr,aA,sx,ack,aby,bne,aC,aI,aJ,aK,aG,aH,aQ,Nat.one_ne_zero,Nat.reduceEqDiff,Array.size_empty,List.size_toArray,h0,h1,h2,hlt',sr]
   refine yX hdd hfz2 ?_
   simp only [↓pre,simprocAttr,aA,sx,ack,aby,bne,aC,aI,aJ,aK,aG,aH,aQ,Nat.one_ne_zero,Nat.reduceEqDiff,Array.size_empty,List.size_toArray,bQ,sr]
   exact ⟨1,hf.out _⟩
 ·rw [if_neg hsome] at hInv
  obtain ⟨h0,h1,h2,h4⟩:=hInv
  have hnone:iJ k r c w ps kd ver=none:=by simpa using hsome
  have hlt:(cB T (K+R)).length < K:=by have:=hml.out;rw [hTnone.out hnone];simp;omega
  have hlt':(0:Int) < k:=by have:=hml.out;omega
  rw [if_pos hlt] at hres
  subst hres
  have hf:=hfin.out
  unfold aO aD at hf
  replace hf:=aB.mk hf
  have h2':m4.at_ 2=some ⟨[.val (.int .i64 0)],3,.var,true⟩:=h2
  simp only [↓pre,simprocAttr,aA,sx,ack,aby,bne,aC,aI,aJ,aK,aG,aH,aQ,Nat.one_ne_zero,Nat.reduceEqDiff,Array.size_empty,List.size_toArray,h1,h2',hlt',sr]
  exact ⟨1,hf.out _⟩
end Go.Proofs.YtaekhhlgnbhnpaaGreat
set_option linter.unusedVariables false
set_option linter.unusedSimpArgs false
set_option maxRecDepth 10000
namespace Go.Tw
open Go
structure anh (m:aF) (el:TypeId) (sz:Nat) (v:AV) (n:Nat) (cells:List AV):Prop where
 form:cY m el sz v n cells∨∃ b c,v = .sl b 0 0 c true∧m.at_ b=some ⟨[],el,.flat,true⟩∧b < m.next∧n=0∧cells=[]∧0 < c
theorem at6 {P : Program} {el : TypeId} {m : aF} {v x : AV} {K : bY → Prop} {sz y n cnt : Nat} {zl : List Value} {cells new : List AV} (hkd : bW P el = .flat) (ho : anh m el sz v n cells) (h1 : cH P el = some sz) (h2 : hY P el = some y) (h3 : eX P el = some zl) (h4 : zl.length = sz) (h5 : eZ P el sz m x = some (new, cnt)) (h6 : new.length = cnt * sz) (h7 : (n + cnt) * y ≤ 140737488355328) (h8 : n + cnt ≤ 140737488355328) (hc : 0 < cnt)
   (hK : ∀ v' m', cY m' el sz v' (n + cnt) (cells ++ new) → m.next ≤ m'.next → K ⟨v', m', none⟩) : eG (dW P el m v x) K := by
 rcases ho.form with ho | ⟨b, c, rfl, hb, hlt, rfl, rfl, hc0⟩
 · exact oT hkd ho h1 h2 h3 h4 h5 h6 h7 h8 hK
 · by_cases ht : c < 0 + cnt
   · have : dW P el m (.sl b 0 0 c true) x = some ⟨.sl m.next 0 cnt cnt false, m.push ⟨new, el, .flat, true⟩, none⟩ := by
       simp only [dW, h1, h2, h3, h5, dR, hb, hkd, Option.bind_some]
       simp at h7 h8 ht
       simp [vA, ht, bO, h4, h7, h8, Nat.ne_of_gt hc0]
     rw [this]
     refine hK _ _ ⟨.inr ⟨m.next, by rw [Nat.zero_add], by rw [aH, if_pos rfl]; rfl, by rw [aW]; omega, by omega⟩, by simpa using h6⟩ (by rw [aW]; omega)
   · have : dW P el m (.sl b 0 0 c true) x = some ⟨.sl m.next 0 cnt cnt false, (m.put b none).push ⟨new, el, .flat, true⟩, none⟩ := by
       simp only [dW, h1, h2, h3, h5, dR, hb, hkd, Option.bind_some]
       simp at h7 h8 ht
       have ht2 : ¬ c < cnt := by omega
       simp [vA, ht2, bO, h4, h7, h8, Nat.ne_of_gt hc0, hb]
     rw [this]
     refine hK _ _ ⟨.inr ⟨m.next, by rw [Nat.zero_add], by rw [aH, if_pos (by rw [aZ])]; rfl, by rw [aW, aZ]; omega, by omega⟩, by simpa using h6⟩ (by rw [aW, aZ]; omega)
end Go.Tw
namespace Go.Proofs.YtaekhhlgnbhnpaaGreat
open Go Go.Tw Go.Proofs Go.Gf
theorem at7 {kd ver:Int} (hk:kd=1∨kd=2) (hv:g8 ver=true):acS kd ver=0:=by unfold acS;rw [if_pos ⟨hk,hv⟩]
theorem at8 {k r c w:Int} {ps:List bX} (hm:bU k r c w=true) (hr:dS k r c ps=true):x9 k r c w ps=0:=by unfold x9;rw [hm,hr];rfl
theorem at9 {k r c w:Int} {ps:List bX} {kd ver:Int} (hm:bU k r c w=true) (hr:dS k r c ps=true) (hk:kd=1∨kd=2) (hv:g8 ver=true):aeL k r c w ps kd ver=0:=by
 unfold aeL;rw [at8 hm hr,if_pos rfl,at7 hk hv]
theorem aua (k r c w:Int) (ps:List bX) (kd ver:Int):∃ a e,wK k r c w ps kd ver = .tup [a,aD e]∧(∀ n,shift n a=a)∧fE a:=by
 unfold wK
 split
 ·exact ⟨_,_,rfl,fun n=>rfl,b8 _⟩
 ·exact ⟨_,_,rfl,fun n=>af8,kD (dX _ _)⟩
theorem aub (k r c w kd ver:Int) (v:AV) (ps:List bX) (cells:List AV) (hv:fR v ps cells) (hm:bU k r c w=true) (hr:dS k r c ps=true) (hk:kd=1∨kd=2) (hver:g8 ver=true):aX Tryz.prog 165 [aA k r c w,v,.val (.int .u8 kd),aD ver] ⟨wK k r c w ps kd ver,[]⟩:=by
 refine eA ?_
 have hp:=hv.rd.plain
 have h1:=atV k r c w v ps cells hv kd ver
 rw [at9 hm hr hk hver] at h1
 have h2:=at5 k r c w kd ver v ps cells hv hm hr hk
 obtain ⟨a,e,he,hsh,hid⟩:=aua k r c w ps kd ver
 rw [he] at h2 ⊢
 have hf:=fun m=>iI hid (b8 (.int .i64 e)) 1 m
 replace hf:=aB.mk hf
 refine bZ follows Tryz.func165 (by unfold Tryz.f165;rfl) (by unfold Tryz.f165;simp) aE (by unfold Tryz.f165;simp) (by kernel_rfl) ?_;unfold Tryz.f165
 simp only [↓pre,simprocAttr,aA,sx,agj,aE,aC]
 refine aM (h1) (by simp only [aA,aV, *]) ?_;simp only [↓pre,simprocAttr,aA,sx,agj,aE,aC,eq_self,hsh];refine aM (h2) (by simp only [aA,aV, *]) ?_;simp only [↓pre,simprocAttr,aA,sx,agj,aE,aC,eq_self,hsh]
 exact ⟨1,hf.out _⟩
def nK (k r c w:Int) (ps:List bX) (kd ver:Int) (n:Nat):List UInt8:=(List.range n).flatMap fun i=>tab c.toNat (nJ k r c w ps kd ver i)
theorem ahh (k r c w:Int) (ps:List bX) (kd ver:Int) (n:Nat):nK k r c w ps kd ver (n+1)=nK k r c w ps kd ver n++tab c.toNat (nJ k r c w ps kd ver n):=by
 unfold nK
 rw [List.range_succ,List.flatMap_append]
 simp
theorem aaa (k r c w:Int) (ps:List bX) (kd ver:Int):∀ n,(nK k r c w ps kd ver n).length=n*c.toNat
 | 0=>by simp [nK]
 | n+1=>by rw [ahh,List.length_append,aaa k r c w ps kd ver n,aeC,Nat.add_mul,Nat.one_mul]
def wL (k r c w:Int) (ps:List bX) (kd ver:Int):AV:=if jU k r c w ps kd ver < k.toNat then .tup [aO,aD 5] else .tup [bJ (k.toNat*c.toNat) (aT (nK k r c w ps kd ver k.toNat)),aD 0]
theorem ani (k r c w kd ver:Int) (v:AV) (ps:List bX) (cells:List AV) (hv:fR v ps cells) (hm:bU k r c w=true) (hr:dS k r c ps=true) (hk:kd=1∨kd=2) (hver:g8 ver=true):aX Tryz.prog 91 [aA k r c w,v,.val (.int .u8 kd),aD ver] ⟨wL k r c w ps kd ver,[]⟩:=by
 refine eA ?_
 have hp:=hv.rd.plain
 have h1:=aub k r c w kd ver v ps cells hv hm hr hk hver
 have hml:=jN.1 hm
 have hw:=gZ hm
 unfold wL
 unfold wK at h1
 by_cases hlt:jU k r c w ps kd ver < k.toNat
 ·rw [if_pos hlt] at h1 ⊢
  have hf:=fun m=>iI (b8 (.slice none 0 0)) (b8 (.int .i64 5)) 1 m
  replace hf:=aB.mk hf
  simp only [aO] at h1
  refine bZ follows Tryz.func91 (by unfold Tryz.f91;rfl) (by unfold Tryz.f91;simp) aE (by unfold Tryz.f91;simp) (by kernel_rfl) ?_;unfold Tryz.f91
  simp only [↓pre,simprocAttr,aA,sx,y7,aE,aC,aO,sr]
  refine aM (h1) (by simp only [aA,aV, *]) ?_;simp only [↓pre,simprocAttr,aA,sx,y7,aE,aC,aO,sr]
  exact ⟨1,hf.out _⟩
 ·rw [if_neg hlt] at h1 ⊢
  obtain ⟨K,hK⟩:∃ K:Nat,k=(K:Int):=⟨k.toNat,by omega⟩
  obtain ⟨C,hC⟩:∃ C:Nat,c=(C:Int):=⟨c.toNat,by omega⟩
  have hkn:k.toNat=K:=by omega
  have hcn:c.toNat=C:=by omega
  have hR1:K≤(k+r).toNat:=by omega
  rw [hkn,hcn]
  rw [hcn] at h1
  have hrd:=dX (k+r).toNat (eN C (nJ k r c w ps kd ver) 0 (k+r).toNat)
  have hds:=ahh k r c w ps kd ver
  have hdl:=aaa k r c w ps kd ver
  rw [hcn] at hds hdl
  have hcat:=fun i (h:i < (k+r).toNat)=>aeJ (L:=C) (F:=nJ k r c w ps kd ver) (a:=0) h
  have hKC:k*c=((K*C:Nat):Int):=by rw [hK,hC];simp
  have hKC2:K*C≤768:=by omega
  have hKC3:32≤K*C:=by omega
  have wkc:IntKind.i64.wrap (k*c)=((K*C:Nat):Int):=by rw [hKC];exact dT (by omega)
  have hmk:∀ m,pJ Tryz.prog m 52 0 (K*C)=some ⟨.sl m.next 0 0 (K*C) true,m.push ⟨[],5,.flat,true⟩,none⟩:=fun m=>by
   have h1:cD Tryz.prog 52=some 5:=by kernel_rfl
   have h2:cH Tryz.prog 5=some 1:=by kernel_rfl
   have h3:hY Tryz.prog 5=some 1:=by kernel_rfl
   have h4:bW Tryz.prog 5 = .flat:=by kernel_rfl
   have hz:=aeE h2 (x := .int .u8 0) (by kernel_rfl) (K*C)
   simp only [pJ,h1,h2,h3,h4,hz,bO,Option.bind_some,Nat.mul_one]
   rw [if_pos (by omega)]
   rfl
  generalize nJ k r c w ps kd ver=W at *
  generalize nK k r c w ps kd ver=D at *
  have hD0:D 0=[]:=List.eq_nil_of_length_eq_zero (by rw [hdl];omega)
  replace hds:=aB.mk hds
  replace hdl:=aB.mk hdl
  replace hcat:=aB.mk hcat
  replace hlt:=aB.mk hlt
  replace hKC:=aB.mk hKC
  replace hml:=aB.mk hml
  replace hw:=aB.mk hw
  refine bZ follows Tryz.func91 (by unfold Tryz.f91;rfl) (by unfold Tryz.f91;simp) aE (by unfold Tryz.f91;simp) (by kernel_rfl) ?_;unfold Tryz.f91
  simp only [↓pre,simprocAttr,aA,sx,y7,aE,aC,aI,bQ,sr]
  refine aM (h1) (by simp only [aA,aV, *]) ?_;simp only [↓pre,simprocAttr,aA,sx,y7,aE,aC,aI,bQ,wkc,hmk,sr]
  rw [b9]
  refine cA (fun q e m=>∃ i lv,q+i=K∧e 10=bJ (k+r).toNat (eN C W 0 (k+r).toNat)∧e 12=lv∧e 32=aD (K:Nat)∧e 33=aD (i:Nat)∧aB (anh m 5 1 lv (i*C) (aT (D i))∧(i=0∨cY m 5 1 lv (i*C) (aT (D i)))) ) K ⟨0,_,by omega,rfl,rfl,by simp [bN.set,aD,hK],rfl,⟨⟨.inr ⟨_,K*C,rfl,by rw [aH,if_pos rfl],by rw [aW];omega,by omega,by rw [hD0];rfl,by omega⟩⟩,.inl rfl⟩⟩ ?_
  rintro q e m ⟨i,lv,hq,e10,e12,e32,e33,hJ⟩
  replace hq:=aB.mk hq
  by_cases hlt2:i < K
  ·have hlt2':((i:Nat):Int) < ((K:Nat):Int):=by omega
   have wi:=cI (n:=i) (by have:=hml.out;omega)
   have hin:i < (k+r).toNat:=by omega
   have hca:=hcat.out i hin
   rw [Nat.zero_add] at hca
   have hiC:i*C+C≤768:=by
    have:(i+1)*C≤K*C:=Nat.mul_le_mul_right _ (by omega)
    rw [Nat.add_mul,Nat.one_mul] at this
    omega
   have hC8:8≤C:=by have:=hml.out;omega
   have hsrc:∀ m:aF,eZ Tryz.prog 5 1 m (.tree C C (bA C (W i)) true)=some (bA C (W i),C):=fun m=>by
    rw [uD (by rw [fC];omega),Nat.mul_one,List.take_of_length_le (by rw [fC];omega)]
   simp only [↓pre,simprocAttr,aA,sx,y7,aE,aC,aI,bQ,e10,e12,e32,e33,hlt2',hin,hca,sr]
   refine at6 (sz:=1) (y:=1) (zl:=[.int .u8 0]) (by kernel_rfl) hJ.out.1 (by kernel_rfl) (by kernel_rfl) (by kernel_rfl) rfl (hsrc m) (by rw [fC];omega) (by omega) (by omega) (by omega) ?_
   intro lv' m' ho' hn'
   simp only [↓pre,simprocAttr,aA,sx,y7,aE,aC,aI,bQ,e10,e12,e32,e33,wi,sr]
   have hb:aT (D (i+1))=aT (D i)++bA C (W i):=by rw [hds.out];unfold aT bA;rw [List.map_append]
   have hm':(i+1)*C=i*C+C:=by rw [Nat.add_mul,Nat.one_mul]
   refine ⟨q - 1,by have:=hq.out;omega,i+1,lv',by have:=hq.out;omega,rfl,rfl,⟨⟨.inl ?_⟩,.inr ?_⟩⟩
   ·rw [hb,hm'];exact ho'
   ·rw [hb,hm'];exact ho'
  ·have hlt2':¬ ((i:Nat):Int) < ((K:Nat):Int):=by omega
   have hi:i=K:=by have:=hq.out;omega
   subst hi
   have hown:=hJ.out.2.resolve_left (by have:=hml.out;omega)
   simp only [↓pre,simprocAttr,aA,sx,y7,aE,aC,aI,bQ,e10,e12,e32,e33,hlt2',sr]
   exact ⟨0,by rw [j6,dY,tY hown,Option.bind_some,dY,fZ,i7];rfl⟩
end Go.Proofs.YtaekhhlgnbhnpaaGreat
namespace Go.Proofs.YtaekhhlgnbhnpaaGreat
open Go Go.Tw Go.Proofs Go.Gf
theorem auc {P:Program} {t:TypeId} {x y:Operand} {k yk:IntKind} {a:Int} {n:Nat}:dV P .shr t x y (.val (.int k a)) (.val (.int yk ((n:Nat):Int)))=some (.val (.int k (a / 2 ^ min n k.bits))):=by
 have h1:¬ (((n:Nat):Int) < 0):=by omega
 have h2:((n:Nat):Int).toNat=n:=rfl
 have h3:a.fdiv (2 ^ min n k.bits)=a / 2 ^ min n k.bits:=Int.fdiv_eq_ediv_of_nonneg _ (Int.le_of_lt (Int.pow_pos (by decide)))
 simp only [dV,qN,eqGuard,binOp,Op.shift,h1,h2,cT,Bind.bind,Sem.bind,Pure.pure,if_false,h3]
 simp [cT,Sem.bind]
def cU (n:Int):Nat→List UInt8
 | 0=>[]
 | c+1=>UInt8.ofNat (n / 2 ^ (8*c)).toNat::cU n c
theorem kF (n:Int):∀ c,(cU n c).length=c
 | 0=>rfl
 | c+1=>by simp [cU,kF n c]
theorem aeQ (m0:aF) (lv:AV) (cs:List AV) (n:Int) (c:Nat) (ho:cY m0 5 1 lv cs.length cs) (hn:0≤n) (hn2:n≤1073741824) (hc:c≤4) (hl:cs.length≤100000):fA Tryz.prog 192 [lv,aD n,aD (c:Nat)] m0 fun r m'=>r=(i8 5 m0 lv cs (aT (cU n c))).2∧m'=(i8 5 m0 lv cs (aT (cU n c))).1:=by
 have w0:IntKind.i64.wrap ((c:Int) - 1)=(c:Int) - 1:=eD (by omega) (by omega)
 refine bZ follows Tryz.func192 (by unfold Tryz.f192;rfl) (by unfold Tryz.f192;simp) aE (by unfold Tryz.f192;simp) (by kernel_rfl) ?_;unfold Tryz.f192
 simp only [↓pre,simprocAttr,aA,sx,agm,aE,aC,aI,aL,w0,sr]
 rw [b9]
 refine cA (fun q e m=>∃ (c':Nat) (ys:List UInt8),q=c'∧c'≤c∧aB (ys++cU n c'=cU n c)∧e 0=(i8 5 m0 lv cs (aT ys)).2∧e 1=aD n∧e 7=aD ((c':Int) - 1)∧m=(i8 5 m0 lv cs (aT ys)).1) c ⟨c,[],rfl,Nat.le_refl _,⟨rfl⟩,rfl,rfl,rfl,rfl⟩ ?_
 rintro q e m ⟨c',ys,rfl,hcc,hys,e0,e1,e7,hmm⟩
 replace hcc:=aB.mk hcc
 cases q with
 | zero =>
  have hno:¬ (0:Int)≤((0:Nat):Int) - 1:=by omega
  have hy:=hys.out
  simp only [cU,List.append_nil] at hy
  subst hy
  simp only [↓pre,simprocAttr,aA,sx,agm,aE,aC,aI,aL,e0,e1,e7,hno,sr]
  exact hmm
 | succ d =>
  have hyes:(0:Int)≤((d+1:Nat):Int) - 1:=by omega
  have hd:((d+1:Nat):Int) - 1=(d:Nat):=by omega
  have w1:IntKind.i64.wrap (8*((d:Nat):Int))=((8*d:Nat):Int):=by rw [show 8*((d:Nat):Int)=((8*d:Nat):Int) by simp];exact dT (by have:=hcc.out;omega)
  have w2:IntKind.i64.wrap (((d:Nat):Int) - 1)=((d:Nat):Int) - 1:=eD (by omega) (by have:=hcc.out;omega)
  have hmin:min (8*d) IntKind.i64.bits=8*d:=by have:=hcc.out;have:IntKind.i64.bits=64:=rfl;omega
  have hpos:0≤n / 2 ^ (8*d):=Int.ediv_nonneg hn (Int.le_of_lt (Int.pow_pos (by decide)))
  have wu:IntKind.u8.wrap (n / 2 ^ (8*d))=((UInt8.ofNat (n / 2 ^ (8*d)).toNat).toNat:Int):=by
   have:=adH (n / 2 ^ (8*d)).toNat
   rw [Int.toNat_of_nonneg hpos] at this
   exact this
  have hown:=vR (aT ys) m0 lv cs ho
  rw [←hmm,←e0] at hown
  have hyl:(aT ys).length≤4:=by
   have h9:=congrArg List.length hys.out
   rw [List.length_append,kF,kF] at h9
   simp [aT]
   omega
  have happ:=aqY (P:=Tryz.prog) (x := .tree 1 1 [.val (.int .u8 (UInt8.ofNat (n / 2 ^ (8*d)).toNat).toNat)] true) (y := .val (.int .u8 (UInt8.ofNat (n / 2 ^ (8*d)).toNat).toNat)) (yb:=1) (zl:=[.int .u8 0]) (by kernel_rfl) hown (by kernel_rfl) (by kernel_rfl) (by kernel_rfl) rfl l8 (by omega) (by omega)
  have hga:=akU (el:=5) (aT ys) [.val (.int .u8 (UInt8.ofNat (n / 2 ^ (8*d)).toNat).toNat)] m0 lv cs
  rw [←hmm,←e0] at hga
  simp only [i8] at hga
  generalize hv0:e 0=v0 at *
  rw [hd] at e7
  replace hyl:=aB.mk hyl
  replace hown:=aB.mk hown
  replace hga:=aB.mk hga
  replace hmm:=aB.mk hmm
  replace e0:=aB.mk e0
  replace hpos:=aB.mk hpos
  have hyes2:(0:Int)≤((d:Nat):Int):=by omega
  simp only [↓pre,simprocAttr,aA,sx,agm,aE,aC,aI,aL,hv0,e1,e7,hyes2,w1,w2,auc,hmin,wu,happ,sr]
  refine ⟨d,by omega,d,ys++[UInt8.ofNat (n / 2 ^ (8*d)).toNat],rfl,by have:=hcc.out;omega,⟨by rw [List.append_assoc];exact hys.out⟩, ?_,rfl, ?_⟩
  ·unfold aT at hga ⊢
   rw [List.map_append,List.map_cons,List.map_nil]
   exact (congrArg Prod.snd hga.out).symm
  ·unfold aT at hga ⊢
   rw [List.map_append,List.map_cons,List.map_nil]
   exact (congrArg Prod.fst hga.out).symm
abbrev bP:=Int×Int
def bI (l:List bP):List AV:=l.flatMap fun x=>[aD x.1,aD x.2]
theorem lW (l:List bP):(bI l).length=l.length*2:=by
 induction l with
 | nil=>rfl
 | cons a l ih=>simp only [bI,List.flatMap_cons,List.length_append,List.length_cons,List.length_nil] at ih ⊢;omega
theorem acT (a b:List bP):bI (a++b)=bI a++bI b:=by simp [bI]
theorem qX:∀ (l:List bP) (x:List AV) (i:Nat) (a:bP),l[i]? = some a→(bI l++x)[i*2]? = some (aD a.1)∧(bI l++x)[i*2+1]? = some (aD a.2)
 | [],x,i,a,h=>by simp at h
 | b::l,x,0,a,h=>by simp at h;subst h;exact ⟨rfl,rfl⟩
 | b::l,x,i+1,a,h=>by
  have ih:=qX l x i a (by simpa using h)
  have e:bI (b::l)=aD b.1::aD b.2::bI l:=rfl
  rw [e,show (i+1)*2=i*2+1+1 by omega]
  simpa using ih
def sO (v:AV) (l:List bP):Prop:=∃ x,bC v l.length (bI l++x)
def dO (l:List bP):List UInt8:=l.flatMap fun x=>cU x.1 2++cU x.2 4
theorem qY (l:List bP):(dO l).length=l.length*6:=by
 induction l with
 | nil=>rfl
 | cons a l ih=>simp only [dO,List.flatMap_cons,List.length_append,kF,List.length_cons] at ih ⊢;omega
theorem qZ (a b:List UInt8):aT (a++b)=aT a++aT b:=by unfold aT;rw [List.map_append]
theorem iO (a:List UInt8):(aT a).length=a.length:=by simp [aT]
def aab (m:aF):aF:=(m.push ⟨[.val (.int .i64 0),.val (.int .i64 0)],67,.hole,true⟩).put m.next none
theorem ahi {m:aF} {el:TypeId} {sz n:Nat} {v:AV} {cs:List AV} (h:cY m el sz v n cs):cY (aab m) el sz v n cs:=h.pp _ _
def qH:aF→AV→List AV→List bP→aF×AV
 | m,v,_,[]=>(m,v)
 | m,v,cs,x::xs=>qH (i8 5 (i8 5 (aab m) v cs (aT (cU x.1 2))).1 (i8 5 (aab m) v cs (aT (cU x.1 2))).2 (cs++aT (cU x.1 2)) (aT (cU x.2 4))).1
  (i8 5 (i8 5 (aab m) v cs (aT (cU x.1 2))).1 (i8 5 (aab m) v cs (aT (cU x.1 2))).2 (cs++aT (cU x.1 2)) (aT (cU x.2 4))).2 (cs++aT (cU x.1 2)++aT (cU x.2 4)) xs
theorem ahj:∀ (l:List bP) (m:aF) (v:AV) (cs:List AV),cY m 5 1 v cs.length cs→cY (qH m v cs l).1 5 1 (qH m v cs l).2 (cs.length+(dO l).length) (cs++aT (dO l))
 | [],m,v,cs,h=>by simpa [qH,dO,aT] using h
 | x::xs,m,v,cs,h=>by
  rw [qH]
  have h1:=vR (aT (cU x.1 2)) _ _ cs (ahi h)
  rw [←List.length_append] at h1
  have h2:=vR (aT (cU x.2 4)) _ _ _ h1
  rw [←List.length_append] at h2
  have h3:=ahj xs _ _ _ h2
  have e:dO (x::xs)=cU x.1 2++(cU x.2 4++dO xs):=by simp [dO]
  have hlen:cs.length+(dO (x::xs)).length=(cs++aT (cU x.1 2)++aT (cU x.2 4)).length+(dO xs).length:=by rw [e];simp [iO];omega
  have hcs:cs++aT (dO (x::xs))=cs++aT (cU x.1 2)++aT (cU x.2 4)++aT (dO xs):=by rw [e,qZ,qZ,←List.append_assoc,←List.append_assoc]
  rw [hlen,hcs]
  exact h3
theorem anj (m0:aF) (lv:AV) (cs:List AV) (v:AV) (l:List bP) (hv:sO v l) (ho:cY m0 5 1 lv cs.length cs) (hl:∀ x∈l,(0≤x.1∧x.1≤1073741824)∧0≤x.2∧x.2≤1073741824) (hn:l.length≤1000) (hc:cs.length≤1000):fA Tryz.prog 194 [lv,v] m0 fun r m'=>r=(qH m0 lv cs l).2∧m'=(qH m0 lv cs l).1:=by
 obtain ⟨x,hv⟩:=hv
 replace hl:=aB.mk hl
 generalize hG:qH m0 lv cs l=G
 replace hG:=aB.mk hG
 have hG0:qH m0 lv (cs++aT (dO (l.take 0))) (l.drop 0)=G:=by simpa [dO,aT] using hG.out
 have ho0:cY m0 5 1 lv (cs++aT (dO (l.take 0))).length (cs++aT (dO (l.take 0))):=by simpa [dO,aT] using ho
 have htd:=fun m v cs n c a b d e f=>aeQ m v cs n c a b d e f
 replace htd:=aB.mk htd
 refine bZ follows Tryz.func194 (by unfold Tryz.f194;rfl) (by unfold Tryz.f194;simp) aE (by unfold Tryz.f194;simp) (by kernel_rfl) ?_;unfold Tryz.f194
 simp only [↓pre,simprocAttr,aA,sx,acn,aE,aC,aI,aL,aJ,aK,aG,aH,hv.len',sr]
 rw [b9]
 refine cA (fun q e m=>∃ i,q+i=l.length∧e 7=v∧e 8=aD (l.length:Nat)∧e 9=aD (i:Nat)∧aB (qH m (e 0) (cs++aT (dO (l.take i))) (l.drop i)=G∧cY m 5 1 (e 0) (cs++aT (dO (l.take i))).length (cs++aT (dO (l.take i))))) l.length ⟨0,by omega,rfl,rfl,rfl,⟨hG0,ho0⟩⟩ ?_
 rintro q e m ⟨i,hq,e7,e8,e9,hJ⟩
 replace hq:=aB.mk hq
 obtain ⟨hGG,hown⟩:=hJ.out
 generalize hv0:e 0=v0 at *
 by_cases hlt:i < l.length
 ·have hlt':((i:Nat):Int) < ((l.length:Nat):Int):=by omega
  have wi:=cI (n:=i) (by omega)
  obtain ⟨y,hy⟩:∃ y,l[i]? = some y:=⟨_,List.getElem?_eq_getElem hlt⟩
  obtain ⟨ha,hb⟩:=qX l x i y hy
  obtain ⟨ht,htl⟩:=nZ ha hb
  have hyl:=hl.out y (List.mem_of_getElem? hy)
  have hdrop:l.drop i=y::l.drop (i+1):=by
   rw [List.drop_eq_getElem_cons hlt]
   congr 1
   rw [List.getElem?_eq_getElem hlt] at hy
   exact Option.some.inj hy
  have htake:dO (l.take (i+1))=dO (l.take i)++(cU y.1 2++cU y.2 4):=by
   rw [List.take_add_one,hy]
   simp [dO]
  have hcl:(cs++aT (dO (l.take i))).length≤7000:=by
   rw [List.length_append,iO,qY,List.length_take]
   omega
  rw [hdrop,qH] at hGG
  have h1:=htd.out (aab m) v0 (cs++aT (dO (l.take i))) y.1 2 (ahi hown) hyl.1.1 hyl.1.2 (by omega) (by omega)
  have hown2:=vR (aT (cU y.1 2)) _ _ _ (ahi hown)
  rw [←List.length_append] at hown2
  have h2:=htd.out _ _ _ y.2 4 hown2 hyl.2.1 hyl.2.2 (by omega) (by rw [List.length_append,iO,kF];omega)
  have hown3:=vR (aT (cU y.2 4)) _ _ _ hown2
  rw [←List.length_append] at hown3
  rw [show cs++aT (dO (l.take i))++aT (cU y.1 2)++aT (cU y.2 4)=cs++aT (dO (l.take (i+1))) by rw [htake,qZ,qZ,List.append_assoc,List.append_assoc]] at hGG hown3
  replace hy:=aB.mk hy
  replace hdrop:=aB.mk hdrop
  replace htake:=aB.mk htake
  replace hGG:=aB.mk hGG
  replace hown:=aB.mk hown
  replace hown2:=aB.mk hown2
  replace hown3:=aB.mk hown3
  have hhop:(m.push ⟨[.val (.int .i64 0),.val (.int .i64 0)],67,.hole,true⟩).put m.next none=aab m:=rfl
  simp only [aD] at h1 h2
  simp only [↓pre,simprocAttr,aA,sx,acn,aE,aC,aI,aL,aJ,aK,aG,aH,hv0,e7,e8,e9,hlt',hv.addr',hlt,ht,htl,aD,hhop,sr]
  refine m9 h1 ?_
  rintro res m2 ⟨rfl,rfl⟩
  simp only [↓pre,simprocAttr,aA,sx,acn,aE,aC,aI,aL,aJ,aK,aG,aH,hv0,e7,e8,e9,sr]
  refine m9 h2 ?_
  rintro res m3 ⟨rfl,rfl⟩
  simp only [↓pre,simprocAttr,aA,sx,acn,aE,aC,aI,aL,aJ,aK,aG,aH,hv0,e7,e8,e9,wi,sr]
  exact ⟨q - 1,by have:=hq.out;omega,i+1,by have:=hq.out;omega,rfl,⟨hGG.out,hown3.out⟩⟩
 ·have hlt':¬ ((i:Nat):Int) < ((l.length:Nat):Int):=by omega
  have hi:i=l.length:=by have:=hq.out;omega
  rw [List.drop_of_length_le (by omega),qH] at hGG
  have hg:=hG.out
  subst hGG
  simp only [↓pre,simprocAttr,aA,sx,acn,aE,aC,aI,aL,aJ,aK,aG,aH,hv0,e7,e8,e9,hlt',sr]
def jV (w:Int) (x:bP):Bool:=decide ((0≤x.1∧x.1 < w)∧1≤x.2∧x.2≤1073741824)
def jW (w:Int) (l:List bP):Bool:=l.all (jV w)
theorem ank (k r c w:Int) (v:AV) (l:List bP) (hv:sO v l) (hn:l.length≤9223372036854775807):aX Tryz.prog 251 [aA k r c w,v] ⟨bB (jW w l),[]⟩:=by
 obtain ⟨x,hv⟩:=hv
 have hp:=hv.plain
 generalize hres:jW w l=B
 replace hres:=aB.mk hres
 refine bE follows Tryz.func251 (by unfold Tryz.f251;rfl) (by unfold Tryz.f251;simp) aE (by unfold Tryz.f251;simp) (by kernel_rfl) ?_;unfold Tryz.f251
 simp only [↓pre,simprocAttr,aA,sx,zG,aE,aC,aI,aJ,aK,aG,aH,hv.len',sr]
 rw [b9]
 refine cA (fun q e m=>∃ i,q+i=l.length∧e 2 = .tptr 0 [aD k,aD r,aD c,aD w]∧e 7=v∧e 8=aD (l.length:Nat)∧e 9=aD (i:Nat)∧aB (∀ j y,j < i→l[j]? = some y→jV w y=true)) l.length ⟨0,by omega,rfl,rfl,rfl,rfl,⟨fun j y h=>by omega⟩⟩ ?_
 rintro q e m ⟨i,hq,e2,e7,e8,e9,hJ⟩
 replace hq:=aB.mk hq
 by_cases hlt:i < l.length
 ·have hlt':((i:Nat):Int) < ((l.length:Nat):Int):=by omega
  have wi:=cI (n:=i) (by omega)
  obtain ⟨y,hy⟩:∃ y,l[i]? = some y:=⟨_,List.getElem?_eq_getElem hlt⟩
  obtain ⟨ha,hb⟩:=qX l x i y hy
  obtain ⟨ht,htl⟩:=nZ ha hb
  have hbad:jV w y=false→B=false:=fun h=>by
   rw [←hres.out]
   unfold jW
   rw [List.all_eq_false]
   exact ⟨y,List.mem_of_getElem? hy,by rw [h];decide⟩
  have hgood:jV w y=true→∃ n',n' < q∧n'+(i+1)=l.length∧∀ j y,j < i+1→l[j]? = some y→jV w y=true:=fun h=>⟨q - 1,by have:=hq.out;omega,by have:=hq.out;omega,fun j y' hj hy'=>by
   by_cases e:j=i
   ·subst e;rw [hy] at hy';cases hy';exact h
   ·exact hJ.out j y' (by omega) hy'⟩
  have hd:jV w y=decide ((0≤y.1∧y.1 < w)∧1≤y.2∧y.2≤1073741824):=rfl
  replace hy:=aB.mk hy
  replace hbad:=aB.mk hbad
  replace hgood:=aB.mk hgood
  replace hd:=aB.mk hd
  simp only [aD] at ht
  by_cases k1:y.1 < 0
  ·have hB:=hbad.out (by rw [hd.out];simp;omega)
   subst hB
   simp only [↓pre,simprocAttr,aA,sx,zG,aE,aC,aI,aJ,aK,aG,aH,e2,e7,e8,e9,hlt',hv.addr',hlt,ht,htl,k1,sr]
  ·by_cases k2:w≤y.1
   ·have hB:=hbad.out (by rw [hd.out];simp;omega)
    subst hB
    simp only [↓pre,simprocAttr,aA,sx,zG,aE,aC,aI,aJ,aK,aG,aH,e2,e7,e8,e9,hlt',hv.addr',hlt,ht,htl,k1,k2,sr]
   ·by_cases k3:y.2 < 1
    ·have hB:=hbad.out (by rw [hd.out];simp;omega)
     subst hB
     simp only [↓pre,simprocAttr,aA,sx,zG,aE,aC,aI,aJ,aK,aG,aH,e2,e7,e8,e9,hlt',hv.addr',hlt,ht,htl,k1,k2,k3,sr]
    ·by_cases k4:(1073741824:Int) < y.2
     ·have hB:=hbad.out (by rw [hd.out];simp;omega)
      subst hB
      simp only [↓pre,simprocAttr,aA,sx,zG,aE,aC,aI,aJ,aK,aG,aH,e2,e7,e8,e9,hlt',hv.addr',hlt,ht,htl,k1,k2,k3,k4,sr]
     ·obtain ⟨n',h1,h2,h3⟩:=hgood.out (by rw [hd.out];simp;omega)
      simp only [↓pre,simprocAttr,aA,sx,zG,aE,aC,aI,aJ,aK,aG,aH,e2,e7,e8,e9,hlt',hv.addr',hlt,ht,htl,k1,k2,k3,k4,wi,sr]
      exact ⟨n',h1,i+1,h2,rfl,⟨h3⟩⟩
 ·have hlt':¬ ((i:Nat):Int) < ((l.length:Nat):Int):=by omega
  have hB:B=true:=by
   rw [←hres.out]
   unfold jW
   rw [List.all_eq_true]
   intro y hy
   obtain ⟨j,hj⟩:=List.getElem?_of_mem hy
   have:=(List.getElem?_eq_some_iff.1 hj).1
   exact hJ.out j y (by omega) hj
  subst hB
  simp only [↓pre,simprocAttr,aA,sx,zG,aE,aC,aI,aJ,aK,aG,aH,e2,e7,e8,e9,hlt',sr]
def sP (k r c w len dep:Int) (l:List bP):Bool:=decide (oE k r c w len=0) && (decide (min (oF k r c w len) 1=dep) && (decide ((l.length:Int)=(if dep=1 then oF k r c w len else oS k r c w len)) && jW w l))
def kT (k r c w len dep:Int) (l:List bP):Int:=if bU k r c w=true then (if sP k r c w len dep l=true then 0 else 150) else 2
theorem aeR {k r c w n:Int} (hm:bU k r c w=true):0≤oF k r c w n:=by
 unfold oF
 split
 ·rename_i h
  unfold oE at h
  rw [hm,if_pos rfl] at h
  split at h
  ·omega
  ·split at h
   ·omega
   ·unfold fI
    split
    ·omega
    ·have hw:=gZ hm
     have hb:=acF (a:=n) (b:=wI k c) (by omega) (by have:=aei k c;omega) (by unfold wI;omega) (by unfold wI;omega)
     have hl:=tN hw.1 hw.2
     have h2:0≤sI k c n:=hb.1
     unfold gU lI
     refine Int.ediv_nonneg ?_ ?_ <;> omega
 ·omega
theorem aud (k r c w len dep:Int) (v:AV) (l:List bP) (hv:sO v l) (hn:l.length≤9223372036854775807):aX Tryz.prog 191 [aA k r c w,.agg [aD len,aD dep,v]] ⟨aD (kT k r c w len dep l),[]⟩:=by
 have h1:=aeg k r c w
 have h2:=arn k r c w len
 have h3:=arm k r c w len
 have h4:=alM k r c w len
 have h5:=ank k r c w v l hv hn
 obtain ⟨x,hv⟩:=hv
 have hp:=hv.plain
 have f1:=cM hv
 have o1:=b6 hv
 generalize hres:kT k r c w len dep l=E
 unfold kT at hres
 cases hm:bU k r c w with
 | false =>
  rw [hm] at h1 hres
  subst hres
  simp only [Bool.false_eq_true,if_false] at h1
  refine bE follows Tryz.func191 (by unfold Tryz.f191;rfl) (by unfold Tryz.f191;simp) aE (by unfold Tryz.f191;simp) (by kernel_rfl) ?_;unfold Tryz.f191
  simp only [↓pre,simprocAttr,aA,sx,gC,aE,aC,aI,f1,o1,sr]
  refine aM (h1) (by rfl) ?_;simp only [↓pre,simprocAttr,aA,sx,gC,aE,aC,aI,f1,o1,sr]
 | true =>
  have hF0:=aeR (n:=len) hm
  rw [hm] at h1 hres
  simp only [if_true] at h1 hres
  unfold sP at hres
  generalize oE k r c w len=e1 at *
  generalize oF k r c w len=f at *
  generalize oS k r c w len=s at *
  generalize jW w l=B at *
  by_cases k1:e1=0
  ·subst k1
   by_cases k2:min f 1=dep
   ·rw [decide_eq_true k2] at hres
    by_cases kd:dep=1
    ·subst kd
     by_cases k3:f=(l.length:Int)
     ·rw [if_pos rfl,k3] at hres
      have hk2:min (l.length:Int) 1=1:=by omega
      cases B with
      | true =>
       simp only [decide_true,Bool.and_self,if_true] at hres
       subst hres
       refine bE follows Tryz.func191 (by unfold Tryz.f191;rfl) (by unfold Tryz.f191;simp) aE (by unfold Tryz.f191;simp) (by kernel_rfl) ?_;unfold Tryz.f191
       simp only [↓pre,simprocAttr,aA,sx,gC,aE,aC,aI,f1,o1,sr]
       refine aM (h1) (by rfl) ?_;simp only [↓pre,simprocAttr,aA,sx,gC,aE,aC,aI,f1,o1,k2,k3,hv.len',hk2,sr];refine aM (h2) (by rfl) ?_;simp only [↓pre,simprocAttr,aA,sx,gC,aE,aC,aI,f1,o1,k2,k3,hv.len',hk2,sr];refine aM (h3) (by rfl) ?_;simp only [↓pre,simprocAttr,aA,sx,gC,aE,aC,aI,f1,o1,k2,k3,hv.len',hk2,sr];refine aM (h5) (by simp only [aA,aV, *]) ?_;simp only [↓pre,simprocAttr,aA,sx,gC,aE,aC,aI,f1,o1,k2,k3,hv.len',hk2,sr]
      | false =>
       simp only [decide_true,Bool.and_false,Bool.false_eq_true,if_false] at hres
       subst hres
       refine bE follows Tryz.func191 (by unfold Tryz.f191;rfl) (by unfold Tryz.f191;simp) aE (by unfold Tryz.f191;simp) (by kernel_rfl) ?_;unfold Tryz.f191
       simp only [↓pre,simprocAttr,aA,sx,gC,aE,aC,aI,f1,o1,sr]
       refine aM (h1) (by rfl) ?_;simp only [↓pre,simprocAttr,aA,sx,gC,aE,aC,aI,f1,o1,k2,k3,hv.len',hk2,sr];refine aM (h2) (by rfl) ?_;simp only [↓pre,simprocAttr,aA,sx,gC,aE,aC,aI,f1,o1,k2,k3,hv.len',hk2,sr];refine aM (h3) (by rfl) ?_;simp only [↓pre,simprocAttr,aA,sx,gC,aE,aC,aI,f1,o1,k2,k3,hv.len',hk2,sr];refine aM (h5) (by simp only [aA,aV, *]) ?_;simp only [↓pre,simprocAttr,aA,sx,gC,aE,aC,aI,f1,o1,k2,k3,hv.len',hk2,sr]
     ·have k3':¬ (l.length:Int)=f:=fun h=>k3 h.symm
      rw [if_pos rfl,decide_eq_false k3'] at hres
      simp only [Bool.false_and,Bool.and_false,Bool.false_eq_true,if_false] at hres
      subst hres
      refine bE follows Tryz.func191 (by unfold Tryz.f191;rfl) (by unfold Tryz.f191;simp) aE (by unfold Tryz.f191;simp) (by kernel_rfl) ?_;unfold Tryz.f191
      simp only [↓pre,simprocAttr,aA,sx,gC,aE,aC,aI,f1,o1,sr]
      refine aM (h1) (by rfl) ?_;simp only [↓pre,simprocAttr,aA,sx,gC,aE,aC,aI,f1,o1,k2,k3,hv.len',sr];refine aM (h2) (by rfl) ?_;simp only [↓pre,simprocAttr,aA,sx,gC,aE,aC,aI,f1,o1,k2,k3,hv.len',sr];refine aM (h3) (by rfl) ?_;simp only [↓pre,simprocAttr,aA,sx,gC,aE,aC,aI,f1,o1,k2,k3,hv.len',sr]
    ·have hd0:dep=0:=by omega
     subst hd0
     rw [if_neg (show ¬ (0:Int)=1 by decide)] at hres
     by_cases k3:s=(l.length:Int)
     ·rw [k3] at hres
      cases B with
      | true =>
       simp only [decide_true,Bool.and_self,if_true] at hres
       subst hres
       refine bE follows Tryz.func191 (by unfold Tryz.f191;rfl) (by unfold Tryz.f191;simp) aE (by unfold Tryz.f191;simp) (by kernel_rfl) ?_;unfold Tryz.f191
       simp only [↓pre,simprocAttr,aA,sx,gC,aE,aC,aI,f1,o1,sr]
       refine aM (h1) (by rfl) ?_;simp only [↓pre,simprocAttr,aA,sx,gC,aE,aC,aI,f1,o1,k2,k3,hv.len',sr];refine aM (h2) (by rfl) ?_;simp only [↓pre,simprocAttr,aA,sx,gC,aE,aC,aI,f1,o1,k2,k3,hv.len',sr];refine aM (h4) (by rfl) ?_;simp only [↓pre,simprocAttr,aA,sx,gC,aE,aC,aI,f1,o1,k2,k3,hv.len',sr];refine aM (h5) (by simp only [aA,aV, *]) ?_;simp only [↓pre,simprocAttr,aA,sx,gC,aE,aC,aI,f1,o1,k2,k3,hv.len',sr]
      | false =>
       simp only [decide_true,Bool.and_false,Bool.false_eq_true,if_false] at hres
       subst hres
       refine bE follows Tryz.func191 (by unfold Tryz.f191;rfl) (by unfold Tryz.f191;simp) aE (by unfold Tryz.f191;simp) (by kernel_rfl) ?_;unfold Tryz.f191
       simp only [↓pre,simprocAttr,aA,sx,gC,aE,aC,aI,f1,o1,sr]
       refine aM (h1) (by rfl) ?_;simp only [↓pre,simprocAttr,aA,sx,gC,aE,aC,aI,f1,o1,k2,k3,hv.len',sr];refine aM (h2) (by rfl) ?_;simp only [↓pre,simprocAttr,aA,sx,gC,aE,aC,aI,f1,o1,k2,k3,hv.len',sr];refine aM (h4) (by rfl) ?_;simp only [↓pre,simprocAttr,aA,sx,gC,aE,aC,aI,f1,o1,k2,k3,hv.len',sr];refine aM (h5) (by simp only [aA,aV, *]) ?_;simp only [↓pre,simprocAttr,aA,sx,gC,aE,aC,aI,f1,o1,k2,k3,hv.len',sr]
     ·have k3':¬ (l.length:Int)=s:=fun h=>k3 h.symm
      rw [decide_eq_false k3'] at hres
      simp only [Bool.false_and,Bool.and_false,Bool.false_eq_true,if_false] at hres
      subst hres
      refine bE follows Tryz.func191 (by unfold Tryz.f191;rfl) (by unfold Tryz.f191;simp) aE (by unfold Tryz.f191;simp) (by kernel_rfl) ?_;unfold Tryz.f191
      simp only [↓pre,simprocAttr,aA,sx,gC,aE,aC,aI,f1,o1,sr]
      refine aM (h1) (by rfl) ?_;simp only [↓pre,simprocAttr,aA,sx,gC,aE,aC,aI,f1,o1,k2,k3,hv.len',sr];refine aM (h2) (by rfl) ?_;simp only [↓pre,simprocAttr,aA,sx,gC,aE,aC,aI,f1,o1,k2,k3,hv.len',sr];refine aM (h4) (by rfl) ?_;simp only [↓pre,simprocAttr,aA,sx,gC,aE,aC,aI,f1,o1,k2,k3,hv.len',sr]
   ·rw [decide_eq_false k2] at hres
    simp only [Bool.false_and,Bool.and_false,Bool.false_eq_true,if_false] at hres
    subst hres
    refine bE follows Tryz.func191 (by unfold Tryz.f191;rfl) (by unfold Tryz.f191;simp) aE (by unfold Tryz.f191;simp) (by kernel_rfl) ?_;unfold Tryz.f191
    simp only [↓pre,simprocAttr,aA,sx,gC,aE,aC,aI,f1,o1,sr]
    refine aM (h1) (by rfl) ?_;simp only [↓pre,simprocAttr,aA,sx,gC,aE,aC,aI,f1,o1,k2,sr];refine aM (h2) (by rfl) ?_;simp only [↓pre,simprocAttr,aA,sx,gC,aE,aC,aI,f1,o1,k2,sr]
  ·rw [decide_eq_false k1] at hres
   simp only [Bool.false_and,Bool.false_eq_true,if_false] at hres
   subst hres
   refine bE follows Tryz.func191 (by unfold Tryz.f191;rfl) (by unfold Tryz.f191;simp) aE (by unfold Tryz.f191;simp) (by kernel_rfl) ?_;unfold Tryz.f191
   simp only [↓pre,simprocAttr,aA,sx,gC,aE,aC,aI,f1,o1,sr]
   refine aM (h1) (by rfl) ?_;simp only [↓pre,simprocAttr,aA,sx,gC,aE,aC,aI,f1,o1,k1,sr];refine aM (h2) (by rfl) ?_;simp only [↓pre,simprocAttr,aA,sx,gC,aE,aC,aI,f1,o1,k1,sr]
theorem lX {P:Program} {m:aF} {t t2 ty:TypeId} {d x:AV}:oO P m #[t,t2] ty [d,x] .copy=(cD P t).bind fun el=>sZ P el m d x:=rfl
def pA (bs:List UInt8) (W:Nat):List UInt8:=bs++List.replicate (W - bs.length) 0
theorem aeS {bs:List UInt8} {W:Nat} (h:bs.length≤W):(pA bs W).length=W:=by simp [pA];omega
theorem anl (W:Nat):bA W (fun _=>0)=aT (List.replicate W 0):=by
 unfold bA tab aT
 congr 1
 apply List.ext_getElem
 ·simp
 ·intro i h1 h2;simp
theorem anm (k r c w:Int) (hm:bU k r c w=true) (m0:aF) (lv:AV) (bs:List UInt8) (ho:cY m0 5 1 lv bs.length (aT bs)) (hl:bs.length≤(wI k c).toNat):fA Tryz.prog 193 [aA k r c w,lv] m0 fun res m'=>res = .tup [.sl m0.next 0 (wI k c).toNat (wI k c).toNat true,aD 0]∧m'=m0.push ⟨aT (pA bs (wI k c).toNat),5,.flat,true⟩:=by
 have hw:=alN k r c w
 have hwb:=gZ hm
 simp only [hm,if_true] at hw
 obtain ⟨W,hW⟩:∃ W:Nat,wI k c=(W:Int):=⟨(wI k c).toNat,by unfold wI;omega⟩
 have hWn:(wI k c).toNat=W:=by omega
 have hW8:W≤768:=by unfold wI at hW;omega
 rw [hWn] at hl ⊢
 rw [hW] at hw
 have hmk:=fun m=>sH m (n:=W) (by omega)
 have hown:=ho.push (x:=⟨bA W fun _=>0,5,.flat,true⟩)
 have hsrc:=am2 (P:=Tryz.prog) (el':=5) (kd := .flat) hown (by kernel_rfl)
 have hcp:sZ Tryz.prog 5 (m0.push ⟨bA W fun _=>0,5,.flat,true⟩) (.sl m0.next 0 W W true) lv=some ⟨aD (bs.length:Nat),m0.push ⟨aT (pA bs W),5,.flat,true⟩,none⟩:=by
  have h2:cH Tryz.prog 5=some 1:=by kernel_rfl
  have h4:bW Tryz.prog 5 = .flat:=by kernel_rfl
  have hb:(m0.push ⟨bA W fun _=>0,5,.flat,true⟩).at_ m0.next=some ⟨bA W fun _=>0,5,.flat,true⟩:=by rw [aH,if_pos rfl]
  simp only [sZ,h2,hsrc,hb,Option.bind_some,h4]
  rw [if_pos ⟨trivial,trivial,by rw [fC];omega⟩,ag7 rfl]
  have hmin:min bs.length W=bs.length:=by omega
  rw [hmin,Nat.mul_one,List.take_of_length_le (by rw [iO];omega),anl]
  congr 4
  unfold pA cN
  rw [qZ,iO,List.take_zero,List.nil_append,Nat.zero_add]
  congr 1
  unfold aT
  rw [←List.map_drop,List.drop_replicate]
 refine bZ follows Tryz.func193 (by unfold Tryz.f193;rfl) (by unfold Tryz.f193;simp) aE (by unfold Tryz.f193;simp) (by kernel_rfl) ?_;unfold Tryz.f193
 simp only [↓pre,simprocAttr,aA,sx,als,aE,aC,sr]
 refine aM (hw) (by rfl) ?_;simp only [↓pre,simprocAttr,aA,sx,als,aE,aC,hmk,lX,hcp,sr]
def oH (len dep:Int) (n:Nat):List UInt8:=cU len 4++(cU dep 1++cU (n:Nat) 2)
def kU (k c len dep:Int) (l:List bP):List UInt8:=pA (oH len dep l.length++dO l) (wI k c).toNat
def ann (k r c w len dep:Int) (l:List bP):AV:=if kT k r c w len dep l=0 then .tup [.tree (wI k c).toNat (wI k c).toNat (aT (kU k c len dep l)) true,aD 0] else .tup [aO,aD (kT k r c w len dep l)]
theorem aeT {k r c w len dep:Int} {l:List bP} (h:kT k r c w len dep l=0):bU k r c w=true∧sP k r c w len dep l=true:=by
 unfold kT at h
 split at h
 ·rename_i h1
  split at h
  ·rename_i h2;exact ⟨h1,h2⟩
  ·omega
 ·omega
theorem ano {a b d:Int} (hb:0 < b) (h:a≤d*b):gU a b≤d:=by
 unfold gU
 have:a+b - 1 < (d+1)*b:=by rw [Int.add_mul,Int.one_mul];omega
 have:=Int.ediv_lt_of_lt_mul hb this
 omega
theorem wM {k r c w len dep:Int} {l:List bP} (h:kT k r c w len dep l=0):0≤len∧len≤32768∧(dep=0∨dep=1)∧(l.length:Int)≤dI k c∧(∀ x∈l,(0≤x.1∧x.1 < w)∧1≤x.2∧x.2≤1073741824):=by
 obtain ⟨hm,hd⟩:=aeT h
 unfold sP at hd
 simp only [Bool.and_eq_true,decide_eq_true_eq] at hd
 obtain ⟨h1,h2,h3,h4⟩:=hd
 have hF0:=aeR (n:=len) hm
 have hml:=aei k c
 have hw:=gZ hm
 have hl0:0≤len∧len≤mI k c:=by
  unfold oE at h1
  rw [hm,if_pos rfl] at h1
  split at h1
  ·omega
  ·split at h1
   ·omega
   ·omega
 have hrf:∀ x∈l,(0≤x.1∧x.1 < w)∧1≤x.2∧x.2≤1073741824:=fun x hx=>by
  have:=List.all_eq_true.1 h4 x hx
  unfold jV at this
  exact of_decide_eq_true this
 refine ⟨hl0.1,by omega,by omega, ?_,hrf⟩
 rw [h3]
 have hdb:=vX hw.1 hw.2
 have hlb:=tN hw.1 hw.2
 have hmd:len≤dI k c*lI k c*(k*c):=by unfold mI at hl0;omega
 unfold oF oS at *
 rw [h1,if_pos rfl] at *
 have hs:sI k c len≤dI k c*lI k c:=ano (by unfold wI;omega) (by unfold wI;omega)
 by_cases hf:sI k c len≤dI k c
 ·have:fI k c len=0:=by unfold fI;rw [if_pos hf]
  rw [this] at h2 ⊢
  have hd0:dep=0:=by omega
  rw [if_neg (by omega)]
  exact hf
 ·have hfi:fI k c len=gU (sI k c len) (lI k c):=by unfold fI;rw [if_neg hf]
  have hle:gU (sI k c len) (lI k c)≤dI k c:=ano (by unfold lI;omega) hs
  split
  ·rw [hfi];exact hle
  ·rename_i hd1
   exfalso
   have hpos:1≤gU (sI k c len) (lI k c):=by
    unfold gU
    have h9:1*lI k c≤sI k c len+lI k c - 1:=by unfold dI at hf;omega
    exact (Int.le_ediv_iff_mul_le (by unfold lI;omega)).2 h9
   rw [hfi] at h2
   omega
def kG (m:aF) (v:AV) (r:gJ):Prop:=iT Tryz.prog m v=some r
theorem aac {f:FuncId} {args:List AV} {r:gJ} (h:fA Tryz.prog f args aF.empty fun v m=>kG m v r):aX Tryz.prog f args r:=akS h
def uV (bs:List UInt8) (e:Int):gJ:=if bs.length=0 then ⟨.tup [.val (.slice none 0 0),.val (.int .i64 e)],[]⟩ else ⟨.tup [.sl 0 0 bs.length bs.length true,.val (.int .i64 e)],[(5,aT bs)]⟩
theorem anp (m:aF) (e:Int):kG m (.tup [.val (.slice none 0 0),.val (.int .i64 e)]) (uV [] e):=by
 simp [kG,iT,canon,f9,uV]
theorem anq {m:aF} {bs:List UInt8} {b n:Nat} {e:Int} (hn:bs.length=n) (h0:n≠0) (hb:m.at_ b=some ⟨aT bs,5,.flat,true⟩):kG m (.tup [.sl b 0 n n true,.val (.int .i64 e)]) (uV bs e):=by
 have h4:bW Tryz.prog 5 = .flat:=by kernel_rfl
 subst hn
 unfold uV
 rw [if_neg h0]
 simp [kG,iT,canon,f9,hb,h4]
structure ahk (m m1:aF) (a:AV) (bs:List UInt8):Prop where
 form:(a = .val (.slice none 0 0)∧bs=[]∧m1=m)∨(a = .sl m.next 0 bs.length bs.length true∧bs.length≠0∧m1=m.push ⟨aT bs,5,.flat,true⟩)
theorem ahk.canon {m m1:aF} {a:AV} {bs:List UInt8} (h:ahk m m1 a bs) (e:Int):kG m1 (.tup [a,.val (.int .i64 e)]) (uV bs e):=by
 rcases h.form with ⟨rfl,rfl,rfl⟩ | ⟨rfl,h0,rfl⟩
 ·exact anp _ _
 ·exact anq rfl h0 (by rw [aH,if_pos rfl])
theorem aue {d:Bool} {f:FuncId} {args args':List AV} {m:aF} {K:bY→Prop} {bs:List UInt8} {e:Int} (h:aX Tryz.prog f args' (uV bs e)) (hl:eM 3 m args=some args') (hk:∀ a m1,ahk m m1 a bs→K ⟨.tup [a,.val (.int .i64 e)],m1,none⟩):m6 Tryz.prog d f args m K:=by
 refine adF h hl ?_ ?_
 ·unfold uV
  split <;> simp [gJ.apart,jH,kW,show kW (aT bs)=true from ag9 _]
 ·have h4:bW Tryz.prog 5 = .flat:=by kernel_rfl
  unfold uV
  by_cases h0:bs.length=0
  ·rw [if_pos h0]
   have:=List.eq_nil_of_length_eq_zero h0
   subst this
   exact hk _ _ ⟨.inl ⟨rfl,rfl,rfl⟩⟩
  ·rw [if_neg h0]
   have:=hk _ _ ⟨.inr ⟨rfl,h0,rfl⟩⟩
   simpa [shift,gS,d8,gG,h4] using this
def q8 (F:AV→AV) (l:List bP):gJ:=if l.length=0 then ⟨F (.val (.slice none 0 0)),[]⟩ else ⟨F (.sl 0 0 l.length l.length false),[(67,bI l)]⟩
theorem anr:∀ l:List bP,kW (bI l)=true
 | []=>rfl
 | a::l=>by
  have:=anr l
  simpa [bI,kW,jH,aD] using this
structure abz (m m1:aF) (a:AV) (l:List bP):Prop where
 form:(a = .val (.slice none 0 0)∧l=[]∧m1=m)∨(a = .sl m.next 0 l.length l.length false∧l.length≠0∧m1=m.push ⟨bI l,67,.flat,true⟩)
theorem abz.own {m m1:aF} {a:AV} {l:List bP} (h:abz m m1 a l):cY m1 67 2 a l.length (bI l):=by
 rcases h.form with ⟨rfl,rfl,rfl⟩ | ⟨rfl,h0,rfl⟩
 ·exact fB
 ·exact ⟨.inr ⟨_,rfl,by rw [aH,if_pos rfl],by rw [aW];omega,by omega⟩,lW _⟩
theorem acU {d:Bool} {f:FuncId} {args args':List AV} {m:aF} {K:bY→Prop} {l:List bP} (F:AV→AV) (h:aX Tryz.prog f args' (q8 F l)) (hl:eM 3 m args=some args') (hF:∀ k a,shift k (F a)=F (shift k a)) (hN:∀ k n,jH (F (.val (.slice none 0 0)))=true∧jH (F (.sl k 0 n n false))=true) (hk:∀ a m1,abz m m1 a l→K ⟨F a,m1,none⟩):m6 Tryz.prog d f args m K:=by
 refine adF h hl ?_ ?_
 ·unfold q8
  split
  ·simp [gJ.apart,(hN 0 0).1]
  ·simp [gJ.apart,(hN 0 l.length).2,anr]
 ·have h4:bW Tryz.prog 67 = .flat:=by kernel_rfl
  unfold q8
  by_cases h0:l.length=0
  ·rw [if_pos h0]
   have:=List.eq_nil_of_length_eq_zero h0
   subst this
   have:=hk _ _ ⟨.inl ⟨rfl,rfl,rfl⟩⟩
   simpa [hF,shift,d8,gG] using this
  ·rw [if_neg h0]
   have:=hk _ _ ⟨.inr ⟨rfl,h0,rfl⟩⟩
   simpa [hF,shift,d8,gG,h4] using this
theorem acf {m:aF} {a:AV} {l:List bP} (h:cY m 67 2 a l.length (bI l)):lend 3 m a=some (bJ l.length (bI l)):=by
 rcases h.form with ⟨rfl,h1,h2⟩ | ⟨b,rfl,hb,_,hn⟩
 ·rw [h2,h1]
  simp [lend,aO,bJ]
 ·unfold lend bJ
  simp [hb,Nat.ne_of_gt hn]
theorem ans {m:aF} {a:AV} {l:List bP} (h:cY m 67 2 a l.length (bI l)):eM 3 m [a]=some [bJ l.length (bI l)]:=by
 simp [eM,acf h]
theorem nL {m:aF} {a:AV} {l:List bP} (h:cY m 67 2 a l.length (bI l)):∀ j,cF a=some j→j < m.next:=by
 rcases h.form with ⟨rfl,_⟩ | ⟨b,rfl,_,hb,_⟩
 ·intro j h;cases h
 ·intro j h;cases h;exact hb
theorem ant {m:aF} {a:AV} {l:List bP} (h:cY m 67 2 a l.length (bI l)):lenE Tryz.prog 31 a=some (.val (.int .i64 (l.length:Nat))):=by
 have h1:cD Tryz.prog 31=some 67:=by kernel_rfl
 rcases h.form with ⟨rfl,h2,_⟩ | ⟨b,rfl,_⟩
 ·rw [h2]
  show lenE Tryz.prog 31 (.val (.slice none 0 0))=some (.val (.int .i64 0))
  kernel_rfl
 ·simp [lenE,h1,rH,aD]
structure abA (m m1:aF) (a:AV) (l:List bP):Prop where
 own:cY m1 67 2 a l.length (bI l)
 blk:∀ j,cF a=some j→j=m.next
 keep:∀ j k,m.at_ j=some k→j < m.next→m1.at_ j=some k
 next:m.next≤m1.next
 cells:a.cells=[a]
 ok:fK a=true
 one:dF a=true
theorem abz.abs {m m1:aF} {a:AV} {l:List bP} (h:abz m m1 a l):abA m m1 a l:=by
 have ho:=h.own
 rcases h.form with ⟨rfl,rfl,rfl⟩ | ⟨rfl,h0,rfl⟩
 ·exact ⟨ho,fun j h=>(by cases h),fun _ _ h _=>h,Nat.le_refl _,rfl,rfl,rfl⟩
 ·exact ⟨ho,fun j h=>(by cases h;rfl),fun j k h hj=>by rw [aH,if_neg (by omega)];exact h,by rw [aW];omega,rfl,rfl,rfl⟩
theorem ahl {m:aF} {a:AV} {l:List bP} (F:AV→AV) (h:cY m 67 2 a l.length (bI l)) (h0:kG m (F (.val (.slice none 0 0))) ⟨F (.val (.slice none 0 0)),[]⟩) (h1:∀ (b n:Nat) (cs:List AV),bW Tryz.prog 67 = .flat→m.at_ b=some ⟨cs,67,.flat,true⟩→kG m (F (.sl b 0 n n false)) ⟨F (.sl 0 0 n n false),[(67,cs)]⟩):kG m (F a) (q8 F l):=by
 rcases h.form with ⟨rfl,hl,h2⟩ | ⟨b,rfl,hb,_,hn⟩
 ·unfold q8
  rw [if_pos hl]
  exact h0
 ·unfold q8
  rw [if_neg (by omega)]
  exact h1 b _ _ (by kernel_rfl) hb
theorem auf {m:aF} {a:AV} {l:List bP} {x y e:Value} (h:cY m 67 2 a l.length (bI l)):kG m (.tup [.agg [.val x,.val y,a],.val e]) (q8 (fun a => .tup [.agg [.val x,.val y,a],.val e]) l) :=
 ahl (fun a => .tup [.agg [.val x,.val y,a],.val e]) h (by simp [kG,iT,canon,f9]) fun b n cs h4 hb=>by simp [kG,iT,canon,f9,hb,h4]
theorem aug {m:aF} {a:AV} {l:List bP} {x y v e:Value} (h:cY m 67 2 a l.length (bI l)):kG m (.tup [.agg [.val x,.val y,a],.val v,.val e]) (q8 (fun a => .tup [.agg [.val x,.val y,a],.val v,.val e]) l) :=
 ahl (fun a => .tup [.agg [.val x,.val y,a],.val v,.val e]) h (by simp [kG,iT,canon,f9]) fun b n cs h4 hb=>by simp [kG,iT,canon,f9,hb,h4]
theorem anu {m:aF} {a:AV} {l:List bP} (h:cY m 67 2 a l.length (bI l)):kG m a (q8 (fun a=>a) l) :=
 ahl (fun a=>a) h (by simp [kG,iT,canon]) fun b n cs h4 hb=>by simp [kG,iT,canon,hb,h4]
def yA:Nat→Bool:=fun d=>d != 30 && d != 31
def aeU (k r c w len dep:Int) (l:List bP):List UInt8:=if kT k r c w len dep l=0 then kU k c len dep l else []
theorem auh (k r c w len dep:Int) (v:AV) (l:List bP) (hv:sO v l) (hn:l.length≤9223372036854775807):fA Tryz.prog 109 [aA k r c w,.agg [aD len,aD dep,v]] aF.empty fun a m=>(∃ q,fzT q m a=some (ann k r c w len dep l))∧kG m a (uV (aeU k r c w len dep l) (kT k r c w len dep l)):=by
 have h1:=aud k r c w len dep v l hv hn
 unfold ann aeU
 by_cases hc:kT k r c w len dep l=0
 ·rw [if_pos hc,if_pos hc]
  rw [hc] at h1 ⊢
  obtain ⟨hlen0,hlen1,hdep,hll,hlr⟩:=wM hc
  obtain ⟨hm,_⟩:=aeT hc
  have hw:=gZ hm
  have hdb:=vX hw.1 hw.2
  have hl126:l.length≤126:=by unfold dI at hll;omega
  have ho0:cY aF.empty 5 1 aO ([]:List AV).length []:=fB
  have t1:=aeQ aF.empty aO [] len 4 ho0 hlen0 (by omega) (by omega) (by simp)
  have o1:=vR (aT (cU len 4)) _ _ _ ho0
  rw [←List.length_append] at o1
  have t2:=aeQ _ _ _ dep 1 o1 (by omega) (by omega) (by omega) (by rw [List.length_append,iO,kF];simp)
  have o2:=vR (aT (cU dep 1)) _ _ _ o1
  rw [←List.length_append] at o2
  have t3:=aeQ _ _ _ (l.length:Nat) 2 o2 (by omega) (by omega) (by omega) (by rw [List.length_append,List.length_append,iO,kF,iO,kF];simp)
  have o3:=vR (aT (cU (l.length:Nat) 2)) _ _ _ o2
  rw [←List.length_append] at o3
  have t4:=anj _ _ _ v l hv o3 (fun x hx=>by have:=hlr x hx;have:=jN.1 hm;omega) (by omega) (by rw [List.length_append,List.length_append,List.length_append,iO,kF,iO,kF,iO,kF];simp)
  have o4:=ahj l _ _ _ o3
  have hcs:(([]:List AV)++aT (cU len 4)++aT (cU dep 1)++aT (cU (l.length:Nat) 2))++aT (dO l)=aT (oH len dep l.length++dO l):=by
   unfold oH
   simp only [qZ,List.nil_append,List.append_assoc]
  have hcl:(([]:List AV)++aT (cU len 4)++aT (cU dep 1)++aT (cU (l.length:Nat) 2)).length+(dO l).length=(oH len dep l.length++dO l).length:=by
   unfold oH
   simp [iO,kF]
   omega
  rw [hcs,hcl] at o4
  have hfit:(oH len dep l.length++dO l).length≤(wI k c).toNat:=by
   unfold oH
   simp only [List.length_append,kF,qY]
   unfold dI at hll
   unfold wI
   omega
  have t5:=anm k r c w hm _ _ _ o4 hfit
  have hmB:=aB.mk (show (kU k c len dep l).length=(wI k c).toNat∧(wI k c).toNat≠0 from ⟨aeS hfit,by unfold wI;omega⟩)
  obtain ⟨x,hv⟩:=hv
  have f1:=cM hv
  have q1:=b6 hv
  have hp:=hv.plain
  replace hlr:=aB.mk hlr
  replace hfit:=aB.mk hfit
  replace o4:=aB.mk o4
  replace hcs:=aB.mk hcs
  replace hcl:=aB.mk hcl
  replace o1:=aB.mk o1
  replace o2:=aB.mk o2
  replace o3:=aB.mk o3
  generalize i8 5 aF.empty aO [] (aT (cU len 4))=G1 at *
  generalize i8 5 G1.1 G1.2 ([]++aT (cU len 4)) (aT (cU dep 1))=G2 at *
  generalize i8 5 G2.1 G2.2 ([]++aT (cU len 4)++aT (cU dep 1)) (aT (cU (l.length:Nat) 2))=G3 at *
  generalize qH G3.1 G3.2 ([]++aT (cU len 4)++aT (cU dep 1)++aT (cU (l.length:Nat) 2)) l=G4 at *
  have n4:(((4:Nat):Nat):Int)=4:=rfl
  have n1:(((1:Nat):Nat):Int)=1:=rfl
  have n2:(((2:Nat):Nat):Int)=2:=rfl
  rw [n4] at t1
  rw [n1] at t2
  rw [n2] at t3
  simp only [aD,aO] at t1 t2 t3 t4 t5
  refine bZ follows Tryz.func109 (by unfold Tryz.f109;rfl) (by unfold Tryz.f109;simp) yA (by unfold Tryz.f109;simp) (by kernel_rfl) ?_;unfold Tryz.f109
  simp only [↓pre,simprocAttr,aA,sx,vT,yA,bne,aC,f1,q1,sr]
  refine aM (h1) (by simp only [aA,aV, *]) ?_;simp only [↓pre,simprocAttr,aA,sx,vT,yA,bne,aC,f1,q1,sr]
  refine pY t1 ?_
  simp only [↓pre,simprocAttr,aA,sx,vT,yA,bne,aC,f1,q1,sr]
  refine pY t2 ?_
  simp only [↓pre,simprocAttr,aA,sx,vT,yA,bne,aC,f1,q1,hv.len',sr]
  refine pY t3 ?_
  simp only [↓pre,simprocAttr,aA,sx,vT,yA,bne,aC,f1,q1,sr]
  refine pY t4 ?_
  refine dJ (by kernel_rfl) ?_
  simp only [↓pre,simprocAttr,aA,sx,vT,yA,bne,aC,f1,q1,sr]
  refine pY t5 ?_
  refine dJ (by kernel_rfl) ?_
  simp only [↓pre,simprocAttr,aA,sx,vT,yA,bne,aC,f1,q1,sr]
  refine ⟨⟨0, ?_⟩,anq hmB.out.1 hmB.out.2 (by rw [aH,if_pos rfl];rfl)⟩
  rw [j6,dY,rU (by rw [aH,if_pos rfl]),Option.bind_some,dY,fZ,i7,List.drop_zero]
  rfl
 ·rw [if_neg hc,if_neg hc]
  obtain ⟨x,hv⟩:=hv
  have f1:=cM hv
  have q1:=b6 hv
  have hp:=hv.plain
  have hf:=fun m=>iI (b8 (.slice none 0 0)) (b8 (.int .i64 (kT k r c w len dep l))) 1 m
  replace hf:=aB.mk hf
  refine bZ follows Tryz.func109 (by unfold Tryz.f109;rfl) (by unfold Tryz.f109;simp) aE (by unfold Tryz.f109;simp) (by kernel_rfl) ?_;unfold Tryz.f109
  simp only [↓pre,simprocAttr,aA,sx,vT,aE,aC,f1,q1]
  refine aM (h1) (by simp only [aA,aV, *]) ?_;simp only [↓pre,simprocAttr,aA,sx,vT,aE,aC,hc,aO]
  exact ⟨⟨1,hf.out _⟩,anp _ _⟩
theorem aui (k r c w len dep:Int) (v:AV) (l:List bP) (hv:sO v l) (hn:l.length≤9223372036854775807):aX Tryz.prog 109 [aA k r c w,.agg [aD len,aD dep,v]] (uV (aeU k r c w len dep l) (kT k r c w len dep l)):=aac (pX (auh k r c w len dep v l hv hn) fun _ _ h=>h.2)
theorem acV (v:AV) (n:Nat) (bs:List UInt8) (x:List AV) (hv:bC v n (aT bs++x)) (hn:n≤bs.length) (hn4:n≤4):aX Tryz.prog 167 [v] ⟨aD (dN (bs.take n):Nat),[]⟩:=by
 have hp:=hv.plain
 refine bE follows Tryz.func167 (by unfold Tryz.f167;rfl) (by unfold Tryz.f167;simp) aE (by unfold Tryz.f167;simp) (by kernel_rfl) ?_;unfold Tryz.f167
 simp only [↓pre,simprocAttr,aA,sx,agk,aE,aC,aL,c8,hv.len']
 rw [b9]
 refine cA (fun q e m=>∃ i,q+i=n∧e 6=v∧e 7=aD (n:Nat)∧e 8=aD (i:Nat)∧e 3=aD (dN (bs.take i):Nat)) n ⟨0,by omega,rfl,rfl,rfl,by simp [bN.set,aD,dN]⟩ ?_
 rintro q e m ⟨i,hi,e6,e7,e8,e3⟩
 replace hi:=aB.mk hi
 by_cases hlt:i < n
 ·have hlt':((i:Nat):Int) < ((n:Nat):Int):=by omega
  obtain ⟨a,ha⟩:∃ a,bs[i]? = some a:=⟨_,List.getElem?_eq_getElem (by omega)⟩
  have a1:=lR (x:=x) ha
  have a2:=aek ha
  have hle:=zO i bs
  have ha256:=a.toNat_lt
  have w1:=cI (n:=i) (by omega)
  have hpow:256 ^ i≤256 ^ 3:=Nat.pow_le_pow_right (by decide) (by omega)
  have h3:256 ^ 3=16777216:=by decide
  have w5:IntKind.i64.wrap (a.toNat:Int)=(a.toNat:Int):=dT (by omega)
  have w7:IntKind.i64.wrap (((dN (bs.take i):Nat):Int)*2 ^ min 8 IntKind.i64.bits)=((dN (bs.take i)*256:Nat):Int):=by
   rw [show (((dN (bs.take i):Nat):Int)*2 ^ min 8 IntKind.i64.bits)=((dN (bs.take i)*256:Nat):Int) by simp [IntKind.bits]]
   exact dT (by omega)
  have w8:aaK .i64 ((dN (bs.take i)*256:Nat):Int) (a.toNat:Int)=((dN (bs.take i)*256+a.toNat:Nat):Int):=by
   rw [akB (by omega) (by omega),akC (by omega)]
  replace hle:=aB.mk hle
  replace hpow:=aB.mk hpow
  replace ha256:=aB.mk ha256
  replace a2:=aB.mk a2
  simp only [↓pre,simprocAttr,aA,sx,agk,aE,aC,aL,c8,e6,e7,e8,e3,hlt',hv.addr',hlt,Nat.mul_one,a1,w1,w5,dH,cW]
  exact ⟨q - 1,by have:=hi.out;omega,i+1,by have:=hi.out;omega,rfl,by rw [w7,w8,a2.out]⟩
 ·have hlt':¬ ((i:Nat):Int) < ((n:Nat):Int):=by omega
  have hi4:i=n:=by have:=hi.out;omega
  subst hi4
  simp only [↓pre,simprocAttr,aA,sx,agk,aE,aC,e6,e7,e8,e3,hlt',dH,cW]
def aeV (bs:List UInt8) (i:Nat):bP:=((dN ((bs.drop (6*i)).take 2):Nat),(dN ((bs.drop (6*i+2)).take 4):Nat))
def dP (bs:List UInt8) (n:Nat):List bP:=(List.range n).map (aeV bs)
theorem abB (bs:List UInt8) (n:Nat):(dP bs n).length=n:=by simp [dP]
theorem anv (bs:List UInt8) (n:Nat):dP bs (n+1)=dP bs n++[aeV bs n]:=by unfold dP;rw [List.range_succ,List.map_append];rfl
theorem anw (v:AV) (bs:List UInt8) (x:List AV) (n:Nat) (hv:bC v bs.length (aT bs++x)) (hn:6*n≤bs.length) (hb:bs.length≤100000):fA Tryz.prog 168 [v,aD (n:Nat)] aF.empty fun a m=>cY m 67 2 a n (bI (dP bs n)):=by
 have nt2:iA (.val (.int .i64 2))=some 2:=rfl
 have nt6:iA (.val (.int .i64 6))=some 6:=rfl
 refine bZ follows Tryz.func168 (by unfold Tryz.f168;rfl) (by unfold Tryz.f168;simp) aE (by unfold Tryz.f168;simp) (by kernel_rfl) ?_;unfold Tryz.f168
 simp only [↓pre,simprocAttr,aA,sx,aa6,aE,aC,aL,bH,Option.map_none,Option.map_some,nt2,nt6,sr]
 rw [b9]
 refine cA (fun q e m=>∃ i u,q+i=n∧e 0=u∧e 6=aD (n:Nat)∧e 7=aD (i:Nat)∧bC u (bs.drop (6*i)).length (aT (bs.drop (6*i))++x)∧aB (cY m 67 2 (e 5) i (bI (dP bs i)))) n ⟨0,v,by omega,rfl,rfl,rfl,by simpa using hv,⟨fB⟩⟩ ?_
 rintro q e m ⟨i,u,hq,e0,e6,e7,hu,hJ⟩
 replace hq:=aB.mk hq
 generalize hv0:e 5=v0 at *
 by_cases hlt:i < n
 ·have hlt':((i:Nat):Int) < ((n:Nat):Int):=by omega
  have w1:=cI (n:=i) (by omega)
  have hdl:(bs.drop (6*i)).length=bs.length - 6*i:=List.length_drop
  obtain ⟨v1,s1,r1⟩:=hu.slice (P:=Tryz.prog) (t:=52) (sz:=1) (lo:=none) (hi:=some 2) (by kernel_rfl) (by simp) (by simp only [Option.getD_some];omega)
  obtain ⟨v2,s2,r2⟩:=hu.slice (P:=Tryz.prog) (t:=52) (sz:=1) (lo:=some 2) (hi:=some 6) (by kernel_rfl) (by simp) (by simp only [Option.getD_some];omega)
  obtain ⟨v3,s3,r3⟩:=hu.slice (P:=Tryz.prog) (t:=52) (sz:=1) (lo:=some 6) (hi:=none) (by kernel_rfl) (by simp only [Option.getD_some,Option.getD_none];omega) (by simp)
  simp only [Option.getD_some,Option.getD_none,Nat.mul_one,Nat.sub_zero,List.drop_zero] at r1 r2 r3
  rw [rY _ x 2 (by omega),List.drop_drop] at r2
  rw [rY _ x 6 (by omega),List.drop_drop,show (bs.drop (6*i)).length - 6=(bs.drop (6*i+6)).length by rw [List.length_drop,List.length_drop];omega] at r3
  have c1:=acV v1 2 (bs.drop (6*i)) x r1 (by omega) (by omega)
  have c2:=acV v2 4 (bs.drop (6*i+2)) x r2 (by rw [List.length_drop];omega) (by omega)
  have hpu:=hu.slOk (P:=Tryz.prog) (m:=m) (t:=52)
  have pl1:=r1.plain
  have pl2:=r2.plain
  have hso:=anv bs i
  have href:aeV bs i=(((dN ((bs.drop (6*i)).take 2):Nat):Int),((dN ((bs.drop (6*i+2)).take 4):Nat):Int)):=rfl
  generalize dN ((bs.drop (6*i)).take 2)=b1 at *
  generalize dN ((bs.drop (6*i+2)).take 4)=b2 at *
  replace hso:=aB.mk hso
  replace href:=aB.mk href
  replace r1:=aB.mk r1
  replace r2:=aB.mk r2
  replace r3:=aB.mk r3
  replace hdl:=aB.mk hdl
  have hbt:∀ m,eY Tryz.prog m 31 1 [(0,.agg [.val (.int .i64 (b1:Nat)),.val (.int .i64 (b2:Nat))])]=some ⟨.tree 1 1 [.val (.int .i64 (b1:Nat)),.val (.int .i64 (b2:Nat))] true,m,none⟩:=fun m=>af4 rfl rfl (by kernel_rfl) (by kernel_rfl)
  simp only [↓pre,simprocAttr,aA,sx,aa6,aE,aC,aL,bH,Option.map_none,Option.map_some,nt2,nt6,hv0,e0,e6,e7,hlt',hu.slOk,hu.sliceX,s1,s2,sr]
  (refine cE (c1) (by simp only [aA,aV, *]) (by intro k;rfl) ?_);simp only [↓pre,simprocAttr,aA,sx,aa6,aE,aC,aL,bH,Option.map_none,Option.map_some,nt2,nt6,hv0,e0,e6,e7,hu.slOk,hu.sliceX,s1,s2,hbt,sr];(refine cE (c2) (by simp only [aA,aV, *]) (by intro k;rfl) ?_);simp only [↓pre,simprocAttr,aA,sx,aa6,aE,aC,aL,bH,Option.map_none,Option.map_some,nt2,nt6,hv0,e0,e6,e7,hu.slOk,hu.sliceX,s1,s2,hbt,sr]
  refine oT (sz:=2) (y:=16) (zl:=[.int .i64 0,.int .i64 0]) (by kernel_rfl) hJ.out (by kernel_rfl) (by kernel_rfl) (by kernel_rfl) rfl acg rfl (by omega) (by omega) ?_
  intro lv' m' ho' hn'
  refine dJ (by kernel_rfl) ?_
  simp only [↓pre,simprocAttr,aA,sx,aa6,aE,aC,aL,bH,Option.map_none,Option.map_some,nt2,nt6,hv0,e0,e6,e7,hu.slOk,hu.sliceX,s3,w1,sr]
  refine ⟨q - 1,by have:=hq.out;omega,i+1,v3,by have:=hq.out;omega,rfl,rfl,by rw [show 6*(i+1)=6*i+6 by omega];exact r3.out,⟨?_⟩⟩
  rw [hso.out,acT,href.out]
  exact ho'
 ·have hlt':¬ ((i:Nat):Int) < ((n:Nat):Int):=by omega
  have hi:i=n:=by have:=hq.out;omega
  subst hi
  simp only [↓pre,simprocAttr,aA,sx,aa6,aE,aC,aL,bH,Option.map_none,Option.map_some,nt2,nt6,hv0,e0,e6,e7,hlt',sr]
  exact hJ.out
theorem auj (v:AV) (bs:List UInt8) (x:List AV) (n:Nat) (hv:bC v bs.length (aT bs++x)) (hn:6*n≤bs.length) (hb:bs.length≤100000):aX Tryz.prog 168 [v,aD (n:Nat)] ⟨bJ n (bI (dP bs n)),[]⟩:=eA (pX (anw v bs x n hv hn hb) fun _ _ h=>⟨0,tY h 0⟩)
theorem auk (v:AV) (bs:List UInt8) (x:List AV) (n:Nat) (hv:bC v bs.length (aT bs++x)) (hn:6*n≤bs.length) (hb:bs.length≤100000):aX Tryz.prog 168 [v,aD (n:Nat)] (q8 (fun a=>a) (dP bs n)):=aac (pX (anw v bs x n hv hn hb) fun _ m h=>anu (by rw [abB];exact h))
theorem anx (k r c w:Int) (v:AV) (n:Nat) (cs:List AV) (hv:bC v n cs):aX Tryz.prog 166 [aA k r c w,v] ⟨aD (if bU k r c w=true then (if (n:Int)=wI k c then 0 else 20) else 2),[]⟩:=by
 have h1:=alN k r c w
 have hp:=hv.plain
 cases hm:bU k r c w with
 | false =>
  simp only [hm,Bool.false_eq_true,if_false] at h1 ⊢
  refine bE follows Tryz.func166 (by unfold Tryz.f166;rfl) (by unfold Tryz.f166;simp) aE (by unfold Tryz.f166;simp) (by kernel_rfl) ?_;unfold Tryz.f166
  simp only [↓pre,simprocAttr,aA,sx,aa5,aE,aC,l6,l7]
  refine aM (h1) (by rfl) ?_;simp only [↓pre,simprocAttr,aA,sx,aa5,aE,aC,sr]
 | true =>
  simp only [hm,if_true] at h1 ⊢
  by_cases hl:(n:Int)=wI k c
  ·rw [if_pos hl]
   refine bE follows Tryz.func166 (by unfold Tryz.f166;rfl) (by unfold Tryz.f166;simp) aE (by unfold Tryz.f166;simp) (by kernel_rfl) ?_;unfold Tryz.f166
   simp only [↓pre,simprocAttr,aA,sx,aa5,aE,aC,l6,l7]
   refine aM (h1) (by rfl) ?_;simp only [↓pre,simprocAttr,aA,sx,aa5,aE,aC,hv.len',hl,sr]
  ·rw [if_neg hl]
   refine bE follows Tryz.func166 (by unfold Tryz.f166;rfl) (by unfold Tryz.f166;simp) aE (by unfold Tryz.f166;simp) (by kernel_rfl) ?_;unfold Tryz.f166
   simp only [↓pre,simprocAttr,aA,sx,aa5,aE,aC,l6,l7]
   refine aM (h1) (by rfl) ?_;simp only [↓pre,simprocAttr,aA,sx,aa5,aE,aC,hv.len',hl,sr]
def eqB (a b:List UInt8):Bool:=decide ((⟨a.toArray⟩:ByteArray)=⟨b.toArray⟩)
theorem anz (a b:List UInt8):eqB a b=decide (a=b):=by
 unfold eqB
 by_cases h:a=b
 ·subst h;simp
 ·rw [decide_eq_false h,decide_eq_false]
  intro h2
  apply h
  have:=congrArg (fun x:ByteArray=>x.data.toList) h2
  simpa using this
theorem anA (u v:AV) (a b:List UInt8) (x y:List AV) (hu:bC u a.length (aT a++x)) (hv:bC v b.length (aT b++y)):aX Tryz.prog 169 [u,v] ⟨bB (decide (a=b)),[]⟩:=by
 rw [←anz]
 have s1:=fun (d c:Bool) (m:aF)=>wC (d:=d) (c:=c) (m:=m) hu
 have s2:=fun (d c:Bool) (m:aF)=>wC (d:=d) (c:=c) (m:=m) hv
 refine bE follows Tryz.func169 (by unfold Tryz.f169;rfl) (by unfold Tryz.f169;simp) aE (by unfold Tryz.f169;simp) (by kernel_rfl) ?_;unfold Tryz.f169
 simp only [↓pre,simprocAttr,aA,sx,aq1,aE,aC,s1,s2,n9]
 rfl
end Go.Proofs.YtaekhhlgnbhnpaaGreat