import Derived.Test.YtaekhhlgnbhnpaaGreatOycG19
import Derived.Test.YtaekhhlgnbhnpaaGreatOycG15
import Derived.Test.YtaekhhlgnbhnpaaGreatOycG12
import Derived.Test.YtaekhhlgnbhnpaaGreatOycG10
import Derived.Test.YtaekhhlgnbhnpaaGreatOycG18
set_option linter.unusedVariables false
set_option linter.unusedSimpArgs false
set_option maxRecDepth 10000
namespace Go.Proofs.YtaekhhlgnbhnpaaGreat
open Go Go.Tw Go.Proofs Go.Gf
theorem amg {P:Program} {kd:fO} {m:aH} {el el':TypeId} {sz n:Nat} {v:AV} {cells:List AV} (h:cH kd m el sz v n cells) (hk:bR P el'=kd):fW P el' sz m v=some (cells,n):=by
 have hl:=h.len
 rcases h.form with ⟨rfl,rfl,rfl⟩ | ⟨b,rfl,hb,_,_⟩
 ·simp [fW,d6,aP]
 ·simp [fW,d6,hb,hk,hl]
  rw [List.take_of_length_le (by omega)]
theorem y5:∀ (l:List AV),(∀ c∈l,plain c=true)→dX l=true
 | [],_=>rfl
 | c::l,h=>by simp only [dX,h c (by simp),y5 l fun x hx=>h x (by simp [hx]),Bool.and_self]
theorem amh (L:Nat) (F:Mx) (a n:Nat):dX (eJ L F a n)=true:=y5 _ fun c hc=>by
 unfold eJ at hc
 obtain ⟨i,_,rfl⟩:=List.mem_map.1 hc
 rfl
def f9 (C:List (List UInt8)):Mx:=fun i p=>(C.getD i []).getD p 0
theorem ami {C:List (List UInt8)} {i L:Nat} (h:(C.getD i []).length=L):tab L (f9 C i)=C.getD i []:=by
 unfold tab f9
 apply List.ext_getElem
 ·rw [List.length_map,List.length_range,h]
 ·intro j h1 h2
  simp only [List.getElem_map,List.getElem_range]
  rw [List.getD_eq_getElem?_getD,List.getElem?_eq_getElem h2]
  rfl
def mN (k:Nat) (l:List Nat):List AV:=l.map fun a => .tree k k (aZ k (eX k a)) true
def jP (cells:List AV) (l:List Nat):List AV:=l.map fun a=>cells.getD a aP
theorem amj {k:Nat} {at_:List Nat} (hk:at_.length=k):acd k k (kI k at_) (mN k at_):=fun t ht=>by
 obtain ⟨a,ha⟩:∃ a,at_[t]? = some a:=⟨_,List.getElem?_eq_getElem (by omega)⟩
 refine ⟨_,[],by unfold mN;rw [List.getElem?_map,ha];rfl, ?_⟩
 unfold kI
 rw [List.getD_eq_getElem?_getD,ha,List.append_nil]
 exact ⟨.inr (.inr ⟨k,true,rfl,Nat.le_refl _⟩)⟩
theorem asC (v:AV) (k r L:Nat) (C:List (List UInt8)) (cells:List AV) (hv:fT v C cells) (hCl:C.length=k+r) (hC:aaU C L) (hk:1≤k) (hk2:k≤12) (hr:r≤4) (hL:1≤L) (hL2:L≤65536) (hth:k≤(bV C (k+r)).length):aY Tryz.prog 236 [aE (k:Nat),aE (r:Nat),v] ⟨.tup [bE (k+r) (eJ L (aaN k ((bV C (k+r)).take k) (f9 C)) 0 (k+r)),aE 0],[]⟩:=by
 refine dY ?_
 have hp:=hv.rd.plain
 have hm:=ass aH.empty k r hk hk2 hr
 have hthere:=asv v C cells L hv hC hL2 (by omega)
 rw [hCl] at hthere
 have hrd:=dH (bV C (k+r)).length (oN (bV C (k+r)))
 obtain ⟨v',s',r'⟩:=hrd.slice (P:=Tryz.prog) (t:=41) (sz:=1) (lo:=none) (hi:=some k) (by kernel_rfl) (by simp) (by simpa using hth)
 simp only [Option.getD_some,Option.getD_none,Nat.sub_zero,Nat.zero_mul,List.drop_zero] at r'
 have hslok:=hrd.slOk (P:=Tryz.prog) (m:=aH.empty) (t:=41)
 have htk:((bV C (k+r)).take k).length=k:=by rw [List.length_take];omega
 have hmem:∀ a∈(bV C (k+r)).take k,a < k+r∧(C.getD a []).length=L:=fun a ha=>by
  obtain ⟨h1,h2⟩:=agz (List.mem_of_mem_take ha)
  refine ⟨h1, ?_⟩
  obtain ⟨b,hb⟩:∃ b,C[a]? = some b:=⟨_,List.getElem?_eq_getElem (by omega)⟩
  rw [rO hb] at h2 ⊢
  rcases hC b (List.mem_of_getElem? hb) with h | h
  ·exact absurd h h2
  ·exact h
 have hnd:((bV C (k+r)).take k).Nodup:=(al9 C (k+r)).sublist (List.take_sublist _ _)
 have hnat:∀ i,i < k→∃ a,((bV C (k+r)).take k)[i]? = some a∧(oN (bV C (k+r)))[i]? = some (.val (.int .i64 a)):=fun i hi=>by
  obtain ⟨a,ha⟩:∃ a,(bV C (k+r))[i]? = some a:=⟨_,List.getElem?_eq_getElem (by omega)⟩
  exact ⟨a,by rw [List.getElem?_take_of_lt hi];exact ha,amb ha⟩
 generalize hat:(bV C (k+r)).take k=at_ at *
 have k1:¬ (((bV C (k+r)).length:Nat):Int) < ((k:Nat):Int):=by omega
 have w1:IntKind.i64.wrap (((k:Nat):Int)+((r:Nat):Int))=((k+r:Nat):Int):=by rw [←Int.natCast_add];exact dE (by omega)
 replace hC:=aB.mk hC
 replace hmem:=aB.mk hmem
 replace hat:=aB.mk hat
 replace hnat:=aB.mk hnat
 refine bJ follows Tryz.func236 (by unfold Tryz.f236;rfl) (by unfold Tryz.f236;simp) aD (by unfold Tryz.f236;simp) (by kernel_rfl) ?_;unfold Tryz.f236
 simp only [↓pre,simprocAttr,aA,sx,pE,aD,aC,aI,aM,bG,sr]
 refine mX hm ?_
 rintro res m1 ⟨g,mm,rfl,rfl,hCode⟩
 simp only [↓pre,simprocAttr,aA,sx,pE,aD,aC,aI,aM,bG,asA,w1,sr]
 refine aL (hthere) (by simp only [aA,aO, *]) ?_;simp only [↓pre,simprocAttr,aA,sx,pE,aD,aC,aI,aM,bG,hrd.len',k1,s',r'.len',a8,Option.map_none,Option.map_some,sr]
 generalize aH.setM aH.empty mm=m1 at *
 rw [b7]
 refine b8 (fun q e m=>∃ i lm lf,q+i=k∧e 0=aE (k:Nat)∧e 1=aE (r:Nat)∧e 2=v∧e 8 = .val (.map (some g))∧e 11=lm∧e 12=lf∧e 44=v'∧e 45=aE (k:Nat)∧e 46=aE (i:Nat)∧aB (cH .var m 52 1 lm i (mN k (at_.take i))∧cH .var m 52 1 lf i (jP cells (at_.take i))∧mK m1 m∧lY m1 lm∧lY m1 lf∧∀ b,cP lm=some b→cP lf≠some b)) k ⟨0,aP,aP,by omega,rfl,rfl,rfl,rfl,rfl,rfl,rfl,rfl,rfl,⟨gT,gT,mK.refl _,x5 _,x5 _,fun b h=>by cases h⟩⟩ ?_
 rintro q e m ⟨i,lm,lf,hq,e0,e1,e2,e8,e11,e12,e44,e45,e46,hJ⟩
 replace hq:=aB.mk hq
 obtain ⟨hom,hof,hkp,hnm,hnf,hap⟩:=hJ.out
 by_cases hlt:i < k
 ·have hlt':((i:Nat):Int) < ((k:Nat):Int):=by omega
  have wi:=cF (n:=i) (by omega)
  obtain ⟨a,ha,haA⟩:=hnat.out i hlt
  obtain ⟨hal,haL⟩:=hmem.out a (List.mem_of_getElem? ha)
  have htk1:at_.take (i+1)=at_.take i++[a]:=by rw [List.take_add_one,ha];rfl
  have hrA:mN k (at_.take (i+1))=mN k (at_.take i)++[.tree k k (aZ k (eX k a)) true]:=by rw [htk1];unfold mN;rw [List.map_append];rfl
  have hlk:=al6 (m:=m) (g:=g) (k:=k) (r:=r) (n:=k+r) (i:=a) (by unfold oM;rw [hkp.mm];exact hCode) hal
  obtain ⟨b,hb⟩:∃ b,C[a]? = some b:=⟨_,List.getElem?_eq_getElem (by omega)⟩
  have hbl:b.length=L:=by rw [rO hb] at haL;exact haL
  obtain ⟨ca,x,hca,hra⟩:=hv.at_ a b hb
  have haC:a < C.length:=by omega
  obtain ⟨cc,f,rfl,_⟩:∃ cc f,ca = .tree b.length cc (b.map aU++x) f∧b.length≤cc:=by
   rcases hra.form with ⟨_,h⟩ | ⟨_,_,_,h⟩ | h
   ·omega
   ·omega
   ·exact h
  have hpA:jP cells (at_.take (i+1))=jP cells (at_.take i)++[.tree b.length cc (b.map aU++x) f]:=by
   rw [htk1];unfold jP;rw [List.map_append,List.map_cons,List.map_nil,List.getD_eq_getElem?_getD,hca];rfl
  replace ha:=aB.mk ha
  replace hb:=aB.mk hb
  replace htk1:=aB.mk htk1
  replace hrA:=aB.mk hrA
  replace hpA:=aB.mk hpA
  replace haL:=aB.mk haL
  replace hkp:=aB.mk hkp
  replace hbl:=aB.mk hbl
  simp only [aE] at hlk
  simp only [↓pre,simprocAttr,aA,sx,pE,aD,aC,aI,aM,bG,e0,e1,e2,e8,e11,e12,e44,e45,e46,hlt',r'.addr',hlt,haA,hlk,yZ,sr]
  refine adl (kd := .var) (sz:=1) (y:=24) (zl:=[.slice none 0 0]) (by kernel_rfl) hom (by kernel_rfl) (by kernel_rfl) (by kernel_rfl) rfl mH rfl (by omega) (by omega) hkp.out hnm ?_
  intro lm' m' hom' hkp' hnm' hnx hbl' hkeep
  obtain ⟨hof',hap'⟩:=hof.beside hnx hbl' hkeep fun b hb h=>hap b h hb
  simp only [↓pre,simprocAttr,aA,sx,pE,aD,aC,aI,aM,bG,e0,e1,e2,e8,e11,e12,e44,e45,e46,hv.rd.addr',haC,hca,yZ,sr]
  refine adl (kd := .var) (sz:=1) (y:=24) (zl:=[.slice none 0 0]) (by kernel_rfl) hof' (by kernel_rfl) (by kernel_rfl) (by kernel_rfl) rfl mH rfl (by omega) (by omega) hkp' hnf ?_
  intro lf' m'' hof'' hkp'' hnf'' hnx2 hbl2 hkeep2
  obtain ⟨hom'',hap''⟩:=hom'.beside hnx2 hbl2 hkeep2 fun b hb h=>hap' b h hb
  simp only [↓pre,simprocAttr,aA,sx,pE,aD,aC,aI,aM,bG,e0,e1,e2,e8,e11,e12,e44,e45,e46,wi,sr]
  exact ⟨q - 1,by have:=hq.out;omega,i+1,lm',lf',by have:=hq.out;omega,rfl,rfl,rfl,⟨by rw [hrA.out];exact hom'',by rw [hpA.out];exact hof'',hkp'',hnm',hnf'',hap''⟩⟩
 ·have hlt':¬ ((i:Nat):Int) < ((k:Nat):Int):=by omega
  have hi:i=k:=by have:=hq.out;omega
  subst hi
  rw [List.take_of_length_le (by omega)] at hom hof
  have hrp:dX (mN i at_)=true:=y5 _ fun c hc=>by
   unfold mN at hc
   obtain ⟨a,_,rfl⟩:=List.mem_map.1 hc
   rfl
  have hfRd:acd i L (fun t=>f9 C (at_.getD t 0)) (jP cells at_):=fun t ht=>by
   obtain ⟨a,ha,_⟩:=hnat.out t ht
   obtain ⟨hal,haL⟩:=hmem.out a (List.mem_of_getElem? ha)
   obtain ⟨b,hb⟩:∃ b,C[a]? = some b:=⟨_,List.getElem?_eq_getElem (by omega)⟩
   obtain ⟨ca,x,hca,hra⟩:=hv.at_ a b hb
   refine ⟨ca,x, ?_, ?_⟩
   ·unfold jP
    rw [List.getElem?_map,ha,Option.map_some,List.getD_eq_getElem?_getD,hca]
    rfl
   ·simp only [List.getD_eq_getElem?_getD,ha,Option.getD_some]
    unfold aZ
    have:=ami haL
    rw [this,rO hb]
    rw [rO hb] at haL
    rw [haL] at hra
    exact hra
  have hfp:dX (jP cells at_)=true:=y5 _ fun c hc=>by
   obtain ⟨t,ht⟩:=List.getElem?_of_mem hc
   have htl:t < i:=by have:=(List.getElem?_eq_some_iff.1 ht).1;unfold jP at this;rw [List.length_map] at this;omega
   obtain ⟨a,x,h1,h2⟩:=hfRd t htl
   rw [ht] at h1
   cases h1
   exact h2.plain
  obtain ⟨av,m2,hfz,hav,hm2,hn2,hk2'⟩:=(x6 hom (.inr ⟨rfl,hrp⟩)).fz
  have hof2:cH .var m2 52 1 lf i (jP cells at_):=hof.frz hn2 hk2' fun b hb off n c f h=>by
   subst h
   exact hap b rfl hb
  have hkp2:=apN hkp hm2 hn2 hk2'
  have hinv:=asl av i (kI i at_) (mN i at_) ⟨hav,amj htk⟩ hk (by omega) (alL htk hnd fun a ha=>by have:=(hmem.out a ha).1;omega)
  have hVb:=(ad1 true true i i (lO i (kI i at_))).rd
  have hHf:=x6 hof2 (.inr ⟨rfl,hfp⟩)
  have hOf:=afD hof2
  have hfz1:fzs m [lm]=some ([av],m2):=by simp [fzs,hfz]
  simp only [↓pre,simprocAttr,aA,sx,pE,aD,aC,aI,aM,bG,e0,e1,e2,e8,e11,e12,e44,e45,e46,hlt',sr]
  refine xY hinv hfz1 ?_
  simp only [↓pre,simprocAttr,aA,sx,pE,aD,aC,aI,aM,bG,e0,e1,e2,e8,e11,e12,hVb.len',sr]
  rw [b7]
  refine b8 (fun q e m=>∃ j ld,q+j=i∧e 0=aE (i:Nat)∧e 1=aE (r:Nat)∧e 8 = .val (.map (some g))∧e 12=lf∧e 17=ld∧e 75 = .tree i i (mB true i i (lO i (kI i at_))) true∧e 76=aE (i:Nat)∧e 77=aE (j:Nat)∧aB (cH .var m 52 1 ld j (eJ L (j5 i at_ (f9 C)) 0 j)∧kT m2 m∧lY m2 ld)) i ⟨0,aP,by omega,e0,e1,e8,e12,rfl,rfl,rfl,rfl,⟨gT,kT.refl _,x5 _⟩⟩ ?_
  rintro q2 e m ⟨j,ld,hq2,e0,e1,e8,e12,e17,e75,e76,e77,hJ2⟩
  replace hq2:=aB.mk hq2
  obtain ⟨hod,hkd,hnd2⟩:=hJ2.out
  by_cases hlt2:j < i
  ·have hlt2':((j:Nat):Int) < ((i:Nat):Int):=by omega
   have wj:=cF (n:=j) (by omega)
   have hrow:=yW true (w:=i) (lO i (kI i at_)) hlt2
   obtain ⟨av2,hlend,hav2⟩:=(hHf.keep hkd.w hOf).lend2 (a := .tree i i (aZ i (lO i (kI i at_) j)) true) rfl
   have hdot:=al2 (.tree i i (aZ i (lO i (kI i at_) j)) true) av2 i L (lO i (kI i at_) j) (fun t=>f9 C (at_.getD t 0)) [] (jP cells at_) ⟨.inr (.inr ⟨i,true,by rw [List.append_nil],Nat.le_refl _⟩)⟩ ⟨hav2,hfRd⟩ hk (by omega) hL2
   rw [show oK i (lO i (kI i at_) j) (fun t=>f9 C (at_.getD t 0))=j5 i at_ (f9 C) j from rfl] at hdot
   have hkeep2:kT m2 ((m.push ⟨aZ L (j5 i at_ (f9 C) j),5,.flat,true⟩).put m.next (some ⟨aZ L (j5 i at_ (f9 C) j),5,.flat,false⟩)):=⟨hkd.mm,by rw [bX,bO];have:=hkd.next;omega,fun j x hj hl=>by have:=hkd.next;rw [aF,if_neg (by omega),aG,if_neg (by omega)];exact hkd.at_ j x hj hl⟩
   have hbx:=amd (m:=m.push ⟨aZ L (j5 i at_ (f9 C) j),5,.flat,true⟩) (b:=m.next) (n:=L) (f:=true) (by rw [aG,if_pos rfl])
   have hcs:=ad5 L (j5 i at_ (f9 C)) 0 j
   rw [Nat.zero_add] at hcs
   replace hcs:=aB.mk hcs
   replace hkd:=aB.mk hkd
   replace hkeep2:=aB.mk hkeep2
   replace hav2:=aB.mk hav2
   simp only [↓pre,simprocAttr,aA,sx,pE,aD,aC,aI,aM,bG,e0,e1,e8,e12,e17,e75,e76,e77,hlt2',hVb.addr',hlt2,hrow,sr]
   refine ajg hdot hlend (by simp [iO.apart,nI,nU,amf,aE]) ?_
   simp only [↓pre,simprocAttr,aA,sx,pE,aD,aC,aI,aM,bG,e0,e1,e8,e12,e17,e75,e76,e77,hbx,sr]
   refine aj8 (kd := .var) (sz:=1) (y:=24) (zl:=[.slice none 0 0]) (by kernel_rfl) (hod.pp _ _) (by kernel_rfl) (by kernel_rfl) (by kernel_rfl) rfl mH rfl (by omega) (by omega) hkeep2.out hnd2 ?_
   intro ld' m' hod' hkd' hnd'
   simp only [↓pre,simprocAttr,aA,sx,pE,aD,aC,aI,aM,bG,e0,e1,e8,e12,e17,e75,e76,e77,wj,sr]
   exact ⟨q2 - 1,by have:=hq2.out;omega,j+1,ld',by have:=hq2.out;omega,rfl,rfl,⟨by rw [hcs.out];exact hod',hkd',hnd'⟩⟩
  ·have hlt2':¬ ((j:Nat):Int) < ((i:Nat):Int):=by omega
   have hj:j=i:=by have:=hq2.out;omega
   subst hj
   have hC3:oM m g j r (j+r):=by unfold oM;rw [hkd.mm,hkp2.mm];exact hCode
   have hdr:acd j L (j5 j at_ (f9 C)) (eJ L (j5 j at_ (f9 C)) 0 j):=fun t ht=>by
    refine ⟨_,[],ad6 ht, ?_⟩
    rw [List.append_nil,Nat.zero_add]
    exact ⟨.inr (.inr ⟨L,true,rfl,Nat.le_refl _⟩)⟩
   have hce:=asz m g j r j r L ld (j5 j at_ (f9 C)) _ hC3 (x6 hod (.inr ⟨rfl,amh _ _ _ _⟩)) (afD hod) hdr hk hk2 hr (Nat.le_refl _) hL2
   simp only [↓pre,simprocAttr,aA,sx,pE,aD,aC,aI,aM,bG,e0,e1,e8,e12,e17,e75,e76,e77,hlt2',w1,sr]
   refine mX hce ?_
   rintro res m4 ⟨lv,rfl,hov,hkv,hnv⟩
   have hod4:cH .var m4 52 1 ld j (eJ L (j5 j at_ (f9 C)) 0 j):=hod.keep hkv.next fun b x hb hat=>hkv.at_ b x hat (by
    rcases hod.form with ⟨rfl,_⟩ | ⟨b',rfl,_,hlt,_⟩
    ·cases hb
    ·injection hb with hb;omega)
   simp only [↓pre,simprocAttr,aA,sx,pE,aD,aC,aI,aM,bG,e0,e1,e8,e12,e17,e75,e76,e77,sr]
   refine qE (kd := .var) (sz:=1) (y:=24) (zl:=[.slice none 0 0]) (by kernel_rfl) hod4 (by kernel_rfl) (by kernel_rfl) (by kernel_rfl) rfl (amg hov (by kernel_rfl)) (by rw [asw];omega) (by omega) (by omega) ?_
   intro lo m5 ho5 hn5
   have hfin:eJ L (j5 j at_ (f9 C)) 0 j++eJ L (nO j (j5 j at_ (f9 C))) j r=eJ L (aaN j at_ (f9 C)) 0 (j+r):=by
    rw [←asx]
    congr 1
    exact asy fun i _ hi p _=>(ar0 _ (by omega) p).symm
   rw [hfin] at ho5
   simp only [↓pre,simprocAttr,aA,sx,pE,aD,aC,aI,aM,bG,e0,e1,e8,e12,e17,e75,e76,e77,sr]
   exact ⟨1,by rw [kC,dT,ad3 ho5 (amc _ _ _ _),Option.bind_some,dT,fP,jC];rfl⟩
structure fG where
 kd:Int
 ix:Int
 ce:Int
 st:Int
 vv:AV
 dv:AV
def fG.cells (s:fG):List AV:=[.val (.int .u8 s.kd),.val (.int .i64 s.ix),.val (.int .i64 s.ce),.val (.int .i64 s.st),s.vv,s.dv]
def fG.v (s:fG):AV := .agg s.cells
structure fG.Rd (s:fG):Prop where
 vv:∃ n cs,bD s.vv n cs
 dv:∃ n cs,bD s.dv n cs
def rP:fG:=⟨0,0,0,0,aP,aP⟩
def qH.sl (s:qH):fG:=⟨s.kd,s.ix,s.ce,s.st,.tree s.vec.length s.vec.length (cJ s.vec) false,.tree s.data.length s.data.length (aQ s.data) false⟩
def fH (k r c w:Int) (bs:List UInt8):fG:=if eN k r c w bs=true then (cR k r bs).sl else rP
theorem tU (k r c w:Int) (bs:List UInt8):(fH k r c w bs).Rd:=by
 unfold fH
 split
 ·exact ⟨⟨_,_,⟨.inr (.inr ⟨_,_,rfl,Nat.le_refl _⟩)⟩⟩,⟨_,_,⟨.inr (.inr ⟨_,_,rfl,Nat.le_refl _⟩)⟩⟩⟩
 ·exact ⟨⟨0,[],⟨.inl ⟨rfl,rfl⟩⟩⟩,⟨0,[],⟨.inl ⟨rfl,rfl⟩⟩⟩⟩
theorem ad7 (k r c w:Int) (v:AV) (bs:List UInt8) (x:List AV) (hv:bD v bs.length (aQ bs++x)) (hm:bL k r c w=true) (hl:eO k r c bs.length=true):aY Tryz.prog 93 [aA k r c w,v] ⟨.tup [.agg (fH k r c w bs).cells,bC (eN k r c w bs),aE 0],[]⟩:=by
 have h:=ak3 k r c w v bs x hv
 unfold oH at h
 unfold fH
 cases hs:eN k r c w bs with
 | true =>
  rw [hs,if_pos ⟨hm,rfl⟩] at h
  rw [if_pos rfl]
  exact h
 | false =>
  rw [hs,if_neg (fun h=>by cases h.2)] at h
  rw [if_neg (by decide)]
  have he:(if bL k r c w=false then (2:Int) else if (bs.length:Int)=0 then 0 else if (bs.length:Int)=dV k r c then 0 else 100)=0:=by
   rw [hm,if_neg (by decide)]
   unfold eO at hl
   by_cases h1:(bs.length:Int)=0
   ·rw [if_pos h1]
   ·rw [if_neg h1]
    rw [decide_eq_false h1,Bool.false_or] at hl
    rw [if_pos (of_decide_eq_true hl)]
  rw [he] at h
  exact h
theorem amk (k r c w:Int) (bs:List UInt8) (ix:Int):(eN k r c w bs && decide ((fH k r c w bs).ix=ix))=gQ k r c w bs ix:=by
 unfold fH gQ
 cases h:eN k r c w bs with
 | true=>rw [if_pos rfl];rfl
 | false=>rfl
def oO (s0 s1:fG) (b0 b1:Bool):List AV:=s0.cells++(bC b0::s1.cells)++[bC b1]
theorem sY {cs:List AV} (h:∀ c∈cs,eG c):eG (.agg cs):=fun k m=>by rw [abB,aaT cs h];rfl
theorem y6 {cs:List AV} (h:∀ c∈cs,eG c):eG (.tup cs):=fun k m=>by rw [kC,aaT cs h];rfl
theorem fG.Rd.ids {s:fG} (h:s.Rd):∀ c∈s.cells,eG c:=by
 obtain ⟨⟨_,_,h1⟩,⟨_,_,h2⟩⟩:=h
 intro c hc
 simp only [fG.cells,List.mem_cons,List.not_mem_nil,or_false] at hc
 rcases hc with rfl | rfl | rfl | rfl | rfl | rfl
 ·exact bU _
 ·exact bU _
 ·exact bU _
 ·exact bU _
 ·exact kK h1
 ·exact kK h2
theorem asD {s0 s1:fG} (h0:s0.Rd) (h1:s1.Rd) (b0 b1:Bool):∀ c∈oO s0 s1 b0 b1,eG c:=by
 intro c hc
 simp only [oO,List.mem_append,List.mem_cons,List.not_mem_nil,or_false] at hc
 rcases hc with (hc | rfl | hc) | rfl
 ·exact h0.ids c hc
 ·exact bU _
 ·exact h1.ids c hc
 ·exact bU _
theorem gS {a b:AV} (ha:eG a) (hb:eG b):eG (.tup [a,b]):=y6 fun c hc=>by
 simp only [List.mem_cons,List.not_mem_nil,or_false] at hc
 rcases hc with rfl | rfl
 ·exact ha
 ·exact hb
theorem cY:IntKind.i64.wrap 1=1:=by decide
theorem cZ:IntKind.i64.wrap 2=2:=by decide
def qL:Nat→Bool:=fun d=>d != 8
theorem asE (k r c w ix kd : Int) (v0 v1 : AV) (p : bN) (x0 x1 : List AV) (h0 : bD v0 p.1.length (aQ p.1 ++ x0)) (h1 : bD v1 p.2.length (aQ p.2 ++ x1)) (hm : bL k r c w = true) (hp : jN k r c p.1.length p.2.length = true) (hk : kd = 1 ∨ kd = 2) (hix : 0 ≤ ix) (hix2 : ix < k + r) :
   aY Tryz.prog 292 [aA k r c w, .agg [v0, v1], .val (.int .u8 kd), aE ix] ⟨.tup [.agg (oO (fH k r c w p.1) (fH k r c w p.2) (gQ k r c w p.1 ix) (gQ k r c w p.2 ix)), aE 0], []⟩ := by
 refine dY ?_
 unfold jN at hp
 rw [Bool.and_eq_true] at hp
 have hp0 := ad7 k r c w v0 p.1 x0 h0 hm hp.1
 have hp1 := ad7 k r c w v1 p.2 x1 h1 hm hp.2
 have hd := tO k r c w
 simp only [hm, if_true] at hd
 rw [← amk, ← amk]
 have hR0 := tU k r c w p.1
 have hR1 := tU k r c w p.2
 obtain ⟨⟨n1, y1, g1⟩, ⟨n2, y2, g2⟩⟩ := tU k r c w p.1
 obtain ⟨⟨n3, y3, g3⟩, ⟨n4, y4, g4⟩⟩ := tU k r c w p.2
 generalize fH k r c w p.1 = s0 at *
 generalize fH k r c w p.2 = s1 at *
 generalize eN k r c w p.1 = i0 at *
 generalize eN k r c w p.2 = i1 at *
 have f1 := cA h0
 have f2 := cA h1
 have o1 := bP h0
 have o2 := bP h1
 have q1 := bP g1
 have q2 := bP g2
 have q3 := bP g3
 have q4 := bP g4
 have t1 := cK g1
 have t2 := cK g2
 have t3 := cK g3
 have t4 := cK g4
 have pl0 := h0.plain
 have pl1 := h1.plain
 have z1 : ¬ ix < 0 := by omega
 have z2 : ¬ k + r ≤ ix := by omega
 unfold fG.cells at hp0 hp1
 refine bJ follows Tryz.func292 (by unfold Tryz.f292; rfl) (by unfold Tryz.f292; simp) qL (by unfold Tryz.f292; simp) (by kernel_rfl) ?_; unfold Tryz.f292
 simp only [↓pre, simprocAttr, aA, sx, rE, qL, bne, aC, aI, aJ, aK, aF, aG, f1, f2, o1, o2, q1, q2, q3, q4, t1, t2, t3, t4, aW, cY, cZ, Int.natCast_zero, Int.cast_ofNat_Int, Int.natCast_one, sr]
 refine aL (hd) (by rfl) ?_; simp only [↓pre, simprocAttr, aA, sx, rE, qL, bne, aC, aI, aJ, aK, aF, aG, f1, f2, o1, o2, q1, q2, q3, q4, t1, t2, t3, t4, aW, cY, cZ, Int.natCast_zero, Int.cast_ofNat_Int, Int.natCast_one, sr]
 rw [b7]
 refine b8 (fun n e m => ∃ i cs, n + i = 2 ∧ e 2 = .val (.int .u8 kd) ∧ e 3 = aE ix ∧ e 4 = .tptr 0 [aE k, aE r, aE c, aE w] ∧ e 8 = .ptr 0 0 ∧ e 10 = aE (k + r) ∧ e 22 = .agg [v0, v1] ∧ e 23 = aE (i : Nat) ∧ m.at_ 0 = some ⟨cs, 304, .var, true⟩ ∧ (i = 0 → cs = oO rP rP false false) ∧ (i = 1 → cs = oO s0 rP (i0 && decide (s0.ix = ix)) false) ∧ (i = 2 → cs = oO s0 s1 (i0 && decide (s0.ix = ix)) (i1 && decide (s1.ix = ix)))) 2 ⟨0, _, by omega, rfl, rfl, rfl, rfl, rfl, rfl, rfl, rfl, fun _ => rfl, fun h => by omega, fun h => by omega⟩ ?_
 rintro n e m ⟨i, cs, hn, e2, e3, e4, e8, e10, e22, e23, hm0, c0, c1, c2⟩
 obtain rfl | rfl | rfl : i = 0 ∨ i = 1 ∨ i = 2 := by omega
 · obtain rfl := c0 rfl
   clear c0 c1 c2
   replace hn := aB.mk hn
   simp only [oO, fG.cells, rP, List.cons_append, List.nil_append] at hm0
   simp only [↓pre, simprocAttr, aA, sx, rE, qL, bne, aC, aI, aJ, aK, aF, aG, f1, f2, o1, o2, q1, q2, q3, q4, t1, t2, t3, t4, aW, cY, cZ, Int.natCast_zero, Int.cast_ofNat_Int, Int.natCast_one, e2, e3, e4, e8, e10, e22, e23, hm0, Int.natCast_zero, Int.cast_ofNat_Int, sr]
   refine aL (hp0) (by simp only [aA, aO, *]) ?_; simp only [↓pre, simprocAttr, aA, sx, rE, qL, bne, aC, aI, aJ, aK, aF, aG, f1, f2, o1, o2, q1, q2, q3, q4, t1, t2, t3, t4, aW, cY, cZ, Int.natCast_zero, Int.cast_ofNat_Int, Int.natCast_one, e2, e3, e4, e8, e10, e22, e23, hm0, sr]
   cases i0 with
   | false =>
     simp only [↓pre, simprocAttr, aA, sx, rE, qL, bne, aC, aI, aJ, aK, aF, aG, f1, f2, o1, o2, q1, q2, q3, q4, t1, t2, t3, t4, aW, cY, cZ, Int.natCast_zero, Int.cast_ofNat_Int, Int.natCast_one, e2, e3, e4, e8, e10, e22, e23, hm0, sr]
     refine ⟨n - 1, by have := hn.out; omega, 1, _, by have := hn.out; omega, rfl, rfl, fun h => (by cases h), fun _ => rfl, fun h => (by cases h)⟩
   | true =>
     simp only [↓pre, simprocAttr, aA, sx, rE, qL, bne, aC, aI, aJ, aK, aF, aG, f1, f2, o1, o2, q1, q2, q3, q4, t1, t2, t3, t4, aW, cY, cZ, Int.natCast_zero, Int.cast_ofNat_Int, Int.natCast_one, e2, e3, e4, e8, e10, e22, e23, hm0, sr]
     refine ⟨n - 1, by have := hn.out; omega, 1, _, by have := hn.out; omega, rfl, rfl, fun h => (by cases h), fun _ => rfl, fun h => (by cases h)⟩
 · obtain rfl := c1 rfl
   clear c0 c1 c2
   replace hn := aB.mk hn
   generalize hB : (i0 && decide (s0.ix = ix)) = B0 at *
   simp only [oO, fG.cells, rP, List.cons_append, List.nil_append] at hm0
   simp only [↓pre, simprocAttr, aA, sx, rE, qL, bne, aC, aI, aJ, aK, aF, aG, f1, f2, o1, o2, q1, q2, q3, q4, t1, t2, t3, t4, aW, cY, cZ, Int.natCast_zero, Int.cast_ofNat_Int, Int.natCast_one, e2, e3, e4, e8, e10, e22, e23, hm0, sr]
   refine aL (hp1) (by simp only [aA, aO, *]) ?_; simp only [↓pre, simprocAttr, aA, sx, rE, qL, bne, aC, aI, aJ, aK, aF, aG, f1, f2, o1, o2, q1, q2, q3, q4, t1, t2, t3, t4, aW, cY, cZ, Int.natCast_zero, Int.cast_ofNat_Int, Int.natCast_one, e2, e3, e4, e8, e10, e22, e23, hm0, sr]
   cases i1 with
   | false =>
     simp only [↓pre, simprocAttr, aA, sx, rE, qL, bne, aC, aI, aJ, aK, aF, aG, f1, f2, o1, o2, q1, q2, q3, q4, t1, t2, t3, t4, aW, cY, cZ, Int.natCast_zero, Int.cast_ofNat_Int, Int.natCast_one, e2, e3, e4, e8, e10, e22, e23, hm0, sr]
     refine ⟨n - 1, by have := hn.out; omega, 2, _, by have := hn.out; omega, rfl, rfl, fun h => (by cases h), fun h => (by cases h), fun _ => rfl⟩
   | true =>
     simp only [↓pre, simprocAttr, aA, sx, rE, qL, bne, aC, aI, aJ, aK, aF, aG, f1, f2, o1, o2, q1, q2, q3, q4, t1, t2, t3, t4, aW, cY, cZ, Int.natCast_zero, Int.cast_ofNat_Int, Int.natCast_one, e2, e3, e4, e8, e10, e22, e23, hm0, sr]
     refine ⟨n - 1, by have := hn.out; omega, 2, _, by have := hn.out; omega, rfl, rfl, fun h => (by cases h), fun h => (by cases h), fun _ => rfl⟩
 · obtain rfl := c2 rfl
   clear c0 c1 c2
   replace hn := aB.mk hn
   generalize hB : (i0 && decide (s0.ix = ix)) = B0 at *
   generalize hB1 : (i1 && decide (s1.ix = ix)) = B1 at *
   simp only [oO, fG.cells, List.cons_append, List.nil_append] at hm0
   have hfin := fun m => gS (sY (asD hR0 hR1 B0 B1)) (bU (.int .i64 0)) 0 m
   replace hfin := aB.mk hfin
   rcases hk with rfl | rfl
   · simp only [↓pre, simprocAttr, aA, sx, rE, qL, bne, aC, aI, aJ, aK, aF, aG, f1, f2, o1, o2, q1, q2, q3, q4, t1, t2, t3, t4, aW, cY, cZ, Int.natCast_zero, Int.cast_ofNat_Int, Int.natCast_one, e2, e3, e4, e8, e10, e22, e23, hm0, z1, z2, sr]
     exact ⟨0, hfin.out _⟩
   · simp only [↓pre, simprocAttr, aA, sx, rE, qL, bne, aC, aI, aJ, aK, aF, aG, f1, f2, o1, o2, q1, q2, q3, q4, t1, t2, t3, t4, aW, cY, cZ, Int.natCast_zero, Int.cast_ofNat_Int, Int.natCast_one, e2, e3, e4, e8, e10, e22, e23, hm0, z1, z2, sr]
     exact ⟨0, hfin.out _⟩
def nA (s:fG) (b:Bool) (kd ver:Int):Bool:=b && (decide (s.kd=kd) && decide (s.ce=ver))
def xA (s0 s1:fG) (b0 b1:Bool) (kd ver:Int):Int:=if nA s0 b0 kd ver=true then 0 else if nA s1 b1 kd ver=true then 1 else -1
theorem asF {s0 s1:fG} (h0:s0.Rd) (h1:s1.Rd) (b0 b1:Bool) (m:aH):fz m (.agg (oO s0 s1 b0 b1))=some (.agg (oO s0 s1 b0 b1),m):=by
 obtain ⟨⟨n1,y1,g1⟩,⟨n2,y2,g2⟩⟩:=h0
 obtain ⟨⟨n3,y3,g3⟩,⟨n4,y4,g4⟩⟩:=h1
 have f1:=cA g1
 have f2:=cA g2
 have f3:=cA g3
 have f4:=cA g4
 simp [oO,fG.cells,fz,fzs,f1,f2,f3,f4,bC]
theorem asG (s0 s1:fG) (hr0:s0.Rd) (hr1:s1.Rd) (b0 b1:Bool) (kd ver:Int):aY Tryz.prog 293 [.agg (oO s0 s1 b0 b1),.val (.int .u8 kd),aE ver] ⟨aE (xA s0 s1 b0 b1 kd ver),[]⟩:=by
 have hfz:=asF hr0 hr1 b0 b1
 obtain ⟨⟨n1,y1,g1⟩,⟨n2,y2,g2⟩⟩:=hr0
 obtain ⟨⟨n3,y3,g3⟩,⟨n4,y4,g4⟩⟩:=hr1
 have f1:=cA g1
 have f2:=cA g2
 have f3:=cA g3
 have f4:=cA g4
 have q1:=bP g1
 have q2:=bP g2
 have q3:=bP g3
 have q4:=bP g4
 simp only [oO,fG.cells,List.cons_append,List.nil_append]
 refine bB follows Tryz.func293 (by unfold Tryz.f293;rfl) (by unfold Tryz.f293;simp) aD (by unfold Tryz.f293;simp) (by kernel_rfl) ?_;unfold Tryz.f293
 simp only [↓pre,simprocAttr,aA,sx,tL,aD,aC,aI,aJ,aK,aF,aG,f1,f2,f3,f4,q1,q2,q3,q4,aW,cY,cZ,Int.natCast_zero,Int.cast_ofNat_Int,Int.natCast_one,sr]
 rw [b7]
 refine b8 (fun n e m=>∃ i,n+i=2∧e 1 = .val (.int .u8 kd)∧e 2=aE ver∧e 9 = .agg [AV.val (Value.int IntKind.u8 s0.kd),AV.val (Value.int IntKind.i64 s0.ix),AV.val (Value.int IntKind.i64 s0.ce),AV.val (Value.int IntKind.i64 s0.st),s0.vv,s0.dv,AV.val (Value.bool b0),AV.val (Value.int IntKind.u8 s1.kd),AV.val (Value.int IntKind.i64 s1.ix),AV.val (Value.int IntKind.i64 s1.ce),AV.val (Value.int IntKind.i64 s1.st),s1.vv,s1.dv,AV.val (Value.bool b1)]∧e 10=aE (i:Nat)∧(1≤i→nA s0 b0 kd ver=false)∧(2≤i→nA s1 b1 kd ver=false)) 2 ⟨0,by omega,rfl,rfl,rfl,rfl,fun h=>by omega,fun h=>by omega⟩ ?_
 rintro n e m ⟨i,hn,e1,e2,e9,e10,c1,c2⟩
 obtain rfl | rfl | rfl:i=0∨i=1∨i=2:=by omega
 ·replace hn:=aB.mk hn
  clear c1 c2
  have key:∀ (B:Bool),nA s0 b0 kd ver=B→(B=true→xA s0 s1 b0 b1 kd ver=0):=fun B h1 h2=>by unfold xA;rw [h1,h2];rfl
  replace key:=aB.mk key
  cases b0 with
  | false =>
   simp only [↓pre,simprocAttr,aA,sx,tL,aD,aC,aI,aJ,aK,aF,aG,f1,f2,f3,f4,q1,q2,q3,q4,aW,cY,cZ,Int.natCast_zero,Int.cast_ofNat_Int,Int.natCast_one,e1,e2,e9,e10,sr]
   exact ⟨n - 1,by have:=hn.out;omega,1,by have:=hn.out;omega,rfl,fun _=>rfl,fun h=>by omega⟩
  | true =>
   by_cases h1:s0.kd=kd
   ·by_cases h2:s0.ce=ver
    ·have hk:=key.out true (by unfold nA;rw [decide_eq_true h1,decide_eq_true h2];rfl) rfl
     rw [hk]
     simp only [↓pre,simprocAttr,aA,sx,tL,aD,aC,aI,aJ,aK,aF,aG,f1,f2,f3,f4,q1,q2,q3,q4,aW,cY,cZ,Int.natCast_zero,Int.cast_ofNat_Int,Int.natCast_one,e1,e2,e9,e10,h1,h2,sr]
    ·simp only [↓pre,simprocAttr,aA,sx,tL,aD,aC,aI,aJ,aK,aF,aG,f1,f2,f3,f4,q1,q2,q3,q4,aW,cY,cZ,Int.natCast_zero,Int.cast_ofNat_Int,Int.natCast_one,e1,e2,e9,e10,h1,h2,sr]
     exact ⟨n - 1,by have:=hn.out;omega,1,by have:=hn.out;omega,rfl,fun _=>by unfold nA;rw [decide_eq_false h2];simp,fun h=>by omega⟩
   ·simp only [↓pre,simprocAttr,aA,sx,tL,aD,aC,aI,aJ,aK,aF,aG,f1,f2,f3,f4,q1,q2,q3,q4,aW,cY,cZ,Int.natCast_zero,Int.cast_ofNat_Int,Int.natCast_one,e1,e2,e9,e10,h1,sr]
    exact ⟨n - 1,by have:=hn.out;omega,1,by have:=hn.out;omega,rfl,fun _=>by unfold nA;rw [decide_eq_false h1];simp,fun h=>by omega⟩
 ·replace hn:=aB.mk hn
  have c1:=aB.mk (c1 (by omega))
  clear c2
  have key:∀ (B:Bool),nA s1 b1 kd ver=B→(B=true→xA s0 s1 b0 b1 kd ver=1):=fun B h1 h2=>by unfold xA;rw [c1.out,h1,h2];rfl
  replace key:=aB.mk key
  cases b1 with
  | false =>
   simp only [↓pre,simprocAttr,aA,sx,tL,aD,aC,aI,aJ,aK,aF,aG,f1,f2,f3,f4,q1,q2,q3,q4,aW,cY,cZ,Int.natCast_zero,Int.cast_ofNat_Int,Int.natCast_one,e1,e2,e9,e10,sr]
   exact ⟨n - 1,by have:=hn.out;omega,2,by have:=hn.out;omega,rfl,fun _=>c1.out,fun h=>rfl⟩
  | true =>
   by_cases h1:s1.kd=kd
   ·by_cases h2:s1.ce=ver
    ·have hk:=key.out true (by unfold nA;rw [decide_eq_true h1,decide_eq_true h2];rfl) rfl
     rw [hk]
     simp only [↓pre,simprocAttr,aA,sx,tL,aD,aC,aI,aJ,aK,aF,aG,f1,f2,f3,f4,q1,q2,q3,q4,aW,cY,cZ,Int.natCast_zero,Int.cast_ofNat_Int,Int.natCast_one,e1,e2,e9,e10,h1,h2,sr]
    ·simp only [↓pre,simprocAttr,aA,sx,tL,aD,aC,aI,aJ,aK,aF,aG,f1,f2,f3,f4,q1,q2,q3,q4,aW,cY,cZ,Int.natCast_zero,Int.cast_ofNat_Int,Int.natCast_one,e1,e2,e9,e10,h1,h2,sr]
     exact ⟨n - 1,by have:=hn.out;omega,2,by have:=hn.out;omega,rfl,fun _=>c1.out,fun _=>by unfold nA;rw [decide_eq_false h2];simp⟩
   ·simp only [↓pre,simprocAttr,aA,sx,tL,aD,aC,aI,aJ,aK,aF,aG,f1,f2,f3,f4,q1,q2,q3,q4,aW,cY,cZ,Int.natCast_zero,Int.cast_ofNat_Int,Int.natCast_one,e1,e2,e9,e10,h1,sr]
    exact ⟨n - 1,by have:=hn.out;omega,2,by have:=hn.out;omega,rfl,fun _=>c1.out,fun _=>by unfold nA;rw [decide_eq_false h1];simp⟩
 ·have c1:=c1 (by omega)
  have c2:=c2 (by omega)
  have hk:xA s0 s1 b0 b1 kd ver = -1:=by unfold xA;rw [c1,c2];rfl
  replace c1:=aB.mk c1
  replace c2:=aB.mk c2
  rw [hk]
  simp only [↓pre,simprocAttr,aA,sx,tL,aD,aC,aI,aJ,aK,aF,aG,f1,f2,f3,f4,q1,q2,q3,q4,aW,cY,cZ,Int.natCast_zero,Int.cast_ofNat_Int,Int.natCast_one,e1,e2,e9,e10,sr]
def j6 (k r c w:Int) (bs:List UInt8) (ix kd ver:Int):Bool:=nA (fH k r c w bs) (gQ k r c w bs ix) kd ver
def aaV (k r c w:Int) (p:bN) (ix kd ver:Int):AV:=if j6 k r c w p.1 ix kd ver=true then .tup [aE 0,(fH k r c w p.1).v,bC true,aE 0] else if j6 k r c w p.2 ix kd ver=true then .tup [aE 1,(fH k r c w p.2).v,bC true,aE 0] else .tup [aE 0,rP.v,bC false,aE 0]
theorem agA {a b c d:AV} (ha:eG a) (hb:eG b) (hc:eG c) (hd:eG d):eG (.tup [a,b,c,d]):=y6 fun x hx=>by
 simp only [List.mem_cons,List.not_mem_nil,or_false] at hx
 rcases hx with rfl | rfl | rfl | rfl
 ·exact ha
 ·exact hb
 ·exact hc
 ·exact hd
def u7:Nat→Bool:=fun d=>d != 11
theorem asH (k r c w ix kd ver : Int) (v0 v1 : AV) (p : bN) (x0 x1 : List AV) (h0 : bD v0 p.1.length (aQ p.1 ++ x0)) (h1 : bD v1 p.2.length (aQ p.2 ++ x1)) (hm : bL k r c w = true) (hp : jN k r c p.1.length p.2.length = true) (hk : kd = 1 ∨ kd = 2) (hix : 0 ≤ ix) (hix2 : ix < k + r) (hv1 : 1 ≤ ver) (hv2 : ver ≤ 1073741824) :
   aY Tryz.prog 237 [aA k r c w, .agg [v0, v1], .val (.int .u8 kd), aE ix, aE ver] ⟨aaV k r c w p ix kd ver, []⟩ := by
 refine dY ?_
 have hl := asE k r c w ix kd v0 v1 p x0 x1 h0 h1 hm hp hk hix hix2
 have hR0 := tU k r c w p.1
 have hR1 := tU k r c w p.2
 unfold aaV j6
 generalize fH k r c w p.1 = s0 at *
 generalize fH k r c w p.2 = s1 at *
 generalize gQ k r c w p.1 ix = b0 at *
 generalize gQ k r c w p.2 ix = b1 at *
 have hat := asG s0 s1 hR0 hR1 b0 b1 kd ver
 have i0 := fun m => agA (bU (.int .i64 0)) (sY hR0.ids) (bU (.bool true)) (bU (.int .i64 0)) 0 m
 have i1 := fun m => agA (bU (.int .i64 1)) (sY hR1.ids) (bU (.bool true)) (bU (.int .i64 0)) 0 m
 have i2 := fun m => agA (bU (.int .i64 0)) (sY (cs := rP.cells) (fG.Rd.ids (s := rP) ⟨⟨0, [], ⟨.inl ⟨rfl, rfl⟩⟩⟩, ⟨0, [], ⟨.inl ⟨rfl, rfl⟩⟩⟩⟩)) (bU (.bool false)) (bU (.int .i64 0)) 0 m
 replace i0 := aB.mk i0
 replace i1 := aB.mk i1
 replace i2 := aB.mk i2
 obtain ⟨⟨n1, y1, g1⟩, ⟨n2, y2, g2⟩⟩ := hR0
 obtain ⟨⟨n3, y3, g3⟩, ⟨n4, y4, g4⟩⟩ := hR1
 have f1 := cA g1
 have f2 := cA g2
 have f3 := cA g3
 have f4 := cA g4
 have q1 := bP g1
 have q2 := bP g2
 have q3 := bP g3
 have q4 := bP g4
 have t1 := cK g1
 have t2 := cK g2
 have t3 := cK g3
 have t4 := cK g4
 have p1 := g1.plain
 have p2 := g2.plain
 have p3 := g3.plain
 have p4 := g4.plain
 have f01 := cA h0
 have f02 := cA h1
 have o1 := bP h0
 have o2 := bP h1
 have pl0 := h0.plain
 have pl1 := h1.plain
 have z1 : ¬ ver < 1 := by omega
 have z2 : ¬ (1073741824 : Int) < ver := by omega
 simp only [oO, fG.cells, List.cons_append, List.nil_append, bC] at hl hat
 refine bJ follows Tryz.func237 (by unfold Tryz.f237; rfl) (by unfold Tryz.f237; simp) u7 (by unfold Tryz.f237; simp) (by kernel_rfl) ?_; unfold Tryz.f237
 simp only [↓pre, simprocAttr, aA, sx, wH, u7, bne, aC, aI, aJ, aK, aF, aG, f01, f02, o1, o2, f1, f2, f3, f4, q1, q2, q3, q4, t1, t2, t3, t4, aW, cY, cZ, Int.natCast_zero, Int.cast_ofNat_Int, Int.natCast_one, sr]
 refine aL (hl) (by simp only [aA, aO, *]) ?_; simp only [↓pre, simprocAttr, aA, sx, wH, u7, bne, aC, aI, aJ, aK, aF, aG, f01, f02, o1, o2, f1, f2, f3, f4, q1, q2, q3, q4, t1, t2, t3, t4, aW, cY, cZ, Int.natCast_zero, Int.cast_ofNat_Int, Int.natCast_one, z1, z2, sr]; refine aL (hat) (by simp only [aA, aO, *]) ?_; simp only [↓pre, simprocAttr, aA, sx, wH, u7, bne, aC, aI, aJ, aK, aF, aG, f01, f02, o1, o2, f1, f2, f3, f4, q1, q2, q3, q4, t1, t2, t3, t4, aW, cY, cZ, Int.natCast_zero, Int.cast_ofNat_Int, Int.natCast_one, z1, z2, sr]
 unfold xA
 cases hh0 : nA s0 b0 kd ver with
 | true =>
   simp only [↓pre, simprocAttr, aA, sx, wH, u7, bne, aC, aI, aJ, aK, aF, aG, f01, f02, o1, o2, f1, f2, f3, f4, q1, q2, q3, q4, t1, t2, t3, t4, aW, cY, cZ, Int.natCast_zero, Int.cast_ofNat_Int, Int.natCast_one, sr]
   refine cU (by kernel_rfl) ?_
   simp only [↓pre, simprocAttr, aA, sx, wH, u7, bne, aC, aI, aJ, aK, aF, aG, f01, f02, o1, o2, f1, f2, f3, f4, q1, q2, q3, q4, t1, t2, t3, t4, aW, cY, cZ, Int.natCast_zero, Int.cast_ofNat_Int, Int.natCast_one, sr]
   exact ⟨0, i0.out _⟩
 | false =>
   cases hh1 : nA s1 b1 kd ver with
   | true =>
     simp only [↓pre, simprocAttr, aA, sx, wH, u7, bne, aC, aI, aJ, aK, aF, aG, f01, f02, o1, o2, f1, f2, f3, f4, q1, q2, q3, q4, t1, t2, t3, t4, aW, cY, cZ, Int.natCast_zero, Int.cast_ofNat_Int, Int.natCast_one, sr]
     refine cU (by kernel_rfl) ?_
     simp only [↓pre, simprocAttr, aA, sx, wH, u7, bne, aC, aI, aJ, aK, aF, aG, f01, f02, o1, o2, f1, f2, f3, f4, q1, q2, q3, q4, t1, t2, t3, t4, aW, cY, cZ, Int.natCast_zero, Int.cast_ofNat_Int, Int.natCast_one, sr]
     exact ⟨0, i1.out _⟩
   | false =>
     simp only [↓pre, simprocAttr, aA, sx, wH, u7, bne, aC, aI, aJ, aK, aF, aG, f01, f02, o1, o2, f1, f2, f3, f4, q1, q2, q3, q4, t1, t2, t3, t4, aW, cY, cZ, Int.natCast_zero, Int.cast_ofNat_Int, Int.natCast_one, sr]
     exact ⟨0, i2.out _⟩
theorem uJ {k r c:Int} {ps:List bN} (h:dO k r c ps=true):(ps.length:Int)=k+r∧∀ p∈ps,jN k r c p.1.length p.2.length=true:=by
 unfold dO at h
 rw [Bool.and_eq_true] at h
 exact ⟨of_decide_eq_true h.1,fun p hp=>List.all_eq_true.1 h.2 p hp⟩
def xB (k r c w:Int) (ps:List bN):Int:=if bL k r c w=true then (if dO k r c ps=true then 0 else 120) else 2
theorem asI (k r c w:Int) (v:AV) (ps:List bN) (cells:List AV) (hv:fQ v ps cells):aY Tryz.prog 233 [aA k r c w,v] ⟨.tup [aE (if xB k r c w ps=0 then dV k r c else 0),aE (xB k r c w ps)],[]⟩:=by
 have hp:=hv.rd.plain
 have hd:=tO k r c w
 have hs:=yJ k r c w
 unfold xB
 cases hm:bL k r c w with
 | false =>
  simp only [hm,Bool.false_eq_true,if_false] at hd
  refine bB follows Tryz.func233 (by unfold Tryz.f233;rfl) (by unfold Tryz.f233;simp) aD (by unfold Tryz.f233;simp) (by kernel_rfl) ?_;unfold Tryz.f233
  simp only [↓pre,simprocAttr,aA,sx,mZ,aD,aC]
  refine aL (hd) (by rfl) ?_;simp only [↓pre,simprocAttr,aA,sx,mZ,aD,aC,bC,dC,cS]
 | true =>
  simp only [hm,if_true] at hd hs
  have hmn:=gF hm
  by_cases hl:(ps.length:Int)=k+r
  ·replace hmn:=aB.mk hmn
   generalize hres:(if dO k r c ps=true then (0:Int) else 120)=E
   replace hres:=aB.mk hres
   refine bB follows Tryz.func233 (by unfold Tryz.f233;rfl) (by unfold Tryz.f233;simp) aD (by unfold Tryz.f233;simp) (by kernel_rfl) ?_;unfold Tryz.f233
   simp only [↓pre,simprocAttr,aA,sx,mZ,aD,aC,aI,Int.natCast_zero,Int.cast_ofNat_Int,Int.natCast_one,cY,cZ,hv.rd.len',sr]
   refine aL (hd) (by rfl) ?_;simp only [↓pre,simprocAttr,aA,sx,mZ,aD,aC,aI,Int.natCast_zero,Int.cast_ofNat_Int,Int.natCast_one,cY,cZ,hv.rd.len',hl,sr];refine aL (hs) (by rfl) ?_;simp only [↓pre,simprocAttr,aA,sx,mZ,aD,aC,aI,Int.natCast_zero,Int.cast_ofNat_Int,Int.natCast_one,cY,cZ,hv.rd.len',hl,sr]
   rw [b7]
   refine b8 (fun q e m=>∃ i,q+i=ps.length∧e 4=aE (dV k r c)∧e 31=v∧e 32=aE (k+r)∧e 33=aE (i:Nat)∧aB (∀ j p,j < i→ps[j]? = some p→jN k r c p.1.length p.2.length=true)) ps.length ⟨0,by omega,rfl,rfl,by simp [bI.set,aE,hl],rfl,⟨fun j p h=>by omega⟩⟩ ?_
   rintro q e m ⟨i,hq,e4,e31,e32,e33,hJ⟩
   replace hq:=aB.mk hq
   by_cases hlt:i < ps.length
   ·have hlt':((i:Nat):Int) < k+r:=by omega
    have wi:=cF (n:=i) (by have:=hmn.out;omega)
    obtain ⟨p,hpi⟩:∃ p,ps[i]? = some p:=⟨_,List.getElem?_eq_getElem hlt⟩
    obtain ⟨a,b,xa,xb,ha,hb,hra,hrb⟩:=hv.at_ i p hpi
    obtain ⟨ht,htl⟩:=qI ha hb
    have fa:=cA hra
    have fb:=cA hrb
    have oa:=bP hra
    have ob:=bP hrb
    replace hpi:=aB.mk hpi
    simp only [↓pre,simprocAttr,aA,sx,mZ,aD,aC,aI,Int.natCast_zero,Int.cast_ofNat_Int,Int.natCast_one,cY,cZ,aJ,aK,aF,aG,e4,e31,e32,e33,hlt',hv.rd.addr',hlt,ht,htl,fa,fb,oa,ob,sr]
    rw [b7]
    refine b8 (fun q2 e m=>∃ kk,q2+kk=2∧e 4=aE (dV k r c)∧e 31=v∧e 32=aE (k+r)∧e 33=aE (i:Nat)∧e 37 = .agg [a,b]∧e 38=aE (kk:Nat)∧(1≤kk→eO k r c p.1.length=true)∧(2≤kk→eO k r c p.2.length=true)) 2 ⟨0,by omega,e4,e31,e32,e33,rfl,rfl,fun h=>by omega,fun h=>by omega⟩ ?_
    rintro q2 e m ⟨kk,hq2,e4,e31,e32,e33,e37,e38,c1,c2⟩
    have hbad:∀ n:Nat,(n=p.1.length∨n=p.2.length)→eO k r c n=false→E=120:=fun n hn hb=>by
     rw [←hres.out]
     have:dO k r c ps=false:=by
      cases h:dO k r c ps with
      | false=>rfl
      | true =>
       have:=(uJ h).2 p (List.mem_of_getElem? hpi.out)
       unfold jN at this
       rw [Bool.and_eq_true] at this
       rcases hn with rfl | rfl
       ·rw [this.1] at hb;cases hb
       ·rw [this.2] at hb;cases hb
     rw [this]
     rfl
    have hln:∀ n:Nat,eO k r c n=(decide ((n:Int)=0) || decide ((n:Int)=dV k r c)):=fun _=>rfl
    obtain rfl | rfl | rfl:kk=0∨kk=1∨kk=2:=by omega
    ·replace hq2:=aB.mk hq2
     clear c1 c2
     by_cases h1:(p.1.length:Int)=0
     ·simp only [↓pre,simprocAttr,aA,sx,mZ,aD,aC,aI,Int.natCast_zero,Int.cast_ofNat_Int,Int.natCast_one,cY,cZ,e4,e31,e32,e33,e37,e38,oa,ob,hra.len',h1,sr]
      exact ⟨q2 - 1,by have:=hq2.out;omega,1,by have:=hq2.out;omega,rfl,fun _=>by rw [hln,decide_eq_true h1];rfl,fun h=>by omega⟩
     ·by_cases h2:(p.1.length:Int)=dV k r c
      ·have hz:¬ dV k r c=0:=fun h=>h1 (h2.trans h)
       simp only [↓pre,simprocAttr,aA,sx,mZ,aD,aC,aI,Int.natCast_zero,Int.cast_ofNat_Int,Int.natCast_one,cY,cZ,e4,e31,e32,e33,e37,e38,oa,ob,hra.len',h2,hz,sr]
       exact ⟨q2 - 1,by have:=hq2.out;omega,1,by have:=hq2.out;omega,rfl,fun _=>by rw [hln,decide_eq_true h2,Bool.or_true],fun h=>by omega⟩
      ·have hE:=hbad _ (.inl rfl) (by rw [hln,decide_eq_false h1,decide_eq_false h2];rfl)
       subst hE
       simp only [↓pre,simprocAttr,aA,sx,mZ,aD,aC,aI,Int.natCast_zero,Int.cast_ofNat_Int,Int.natCast_one,cY,cZ,e4,e31,e32,e33,e37,e38,oa,ob,hra.len',h1,h2,sr]
    ·replace hq2:=aB.mk hq2
     replace c1:=aB.mk (c1 (by omega))
     clear c2
     by_cases h1:(p.2.length:Int)=0
     ·simp only [↓pre,simprocAttr,aA,sx,mZ,aD,aC,aI,Int.natCast_zero,Int.cast_ofNat_Int,Int.natCast_one,cY,cZ,e4,e31,e32,e33,e37,e38,oa,ob,hrb.len',h1,sr]
      exact ⟨q2 - 1,by have:=hq2.out;omega,2,by have:=hq2.out;omega,rfl,fun _=>c1.out,fun h=>by rw [hln,decide_eq_true h1];rfl⟩
     ·by_cases h2:(p.2.length:Int)=dV k r c
      ·have hz:¬ dV k r c=0:=fun h=>h1 (h2.trans h)
       simp only [↓pre,simprocAttr,aA,sx,mZ,aD,aC,aI,Int.natCast_zero,Int.cast_ofNat_Int,Int.natCast_one,cY,cZ,e4,e31,e32,e33,e37,e38,oa,ob,hrb.len',h2,hz,sr]
       exact ⟨q2 - 1,by have:=hq2.out;omega,2,by have:=hq2.out;omega,rfl,fun _=>c1.out,fun h=>by rw [hln,decide_eq_true h2,Bool.or_true]⟩
      ·have hE:=hbad _ (.inr rfl) (by rw [hln,decide_eq_false h1,decide_eq_false h2];rfl)
       subst hE
       simp only [↓pre,simprocAttr,aA,sx,mZ,aD,aC,aI,Int.natCast_zero,Int.cast_ofNat_Int,Int.natCast_one,cY,cZ,e4,e31,e32,e33,e37,e38,oa,ob,hrb.len',h1,h2,sr]
    ·replace c1:=aB.mk (c1 (by omega))
     replace c2:=aB.mk (c2 (by omega))
     simp only [↓pre,simprocAttr,aA,sx,mZ,aD,aC,aI,Int.natCast_zero,Int.cast_ofNat_Int,Int.natCast_one,cY,cZ,e4,e31,e32,e33,e37,e38,wi,sr]
     refine ⟨q - 1,by have:=hq.out;omega,i+1,by have:=hq.out;omega,rfl,⟨fun j p' hj hp' => ?_⟩⟩
     by_cases hji:j=i
     ·subst hji
      rw [hpi.out] at hp'
      cases hp'
      unfold jN
      rw [c1.out,c2.out]
      rfl
     ·exact hJ.out j p' (by omega) hp'
   ·have hlt':¬ ((i:Nat):Int) < k+r:=by omega
    have hE:E=0:=by
     rw [←hres.out]
     have:dO k r c ps=true:=by
      unfold dO
      rw [decide_eq_true hl,Bool.true_and,List.all_eq_true]
      intro p hp
      obtain ⟨j,hj⟩:=List.getElem?_of_mem hp
      have:=(List.getElem?_eq_some_iff.1 hj).1
      exact hJ.out j p (by omega) hj
     rw [this]
     rfl
    subst hE
    simp only [↓pre,simprocAttr,aA,sx,mZ,aD,aC,aI,Int.natCast_zero,Int.cast_ofNat_Int,Int.natCast_one,cY,cZ,e4,e31,e32,e33,hlt',sr]
  ·have hr:dO k r c ps=false:=by unfold dO;rw [decide_eq_false hl];rfl
   rw [hr]
   refine bB follows Tryz.func233 (by unfold Tryz.f233;rfl) (by unfold Tryz.f233;simp) aD (by unfold Tryz.f233;simp) (by kernel_rfl) ?_;unfold Tryz.f233
   simp only [↓pre,simprocAttr,aA,sx,mZ,aD,aC,hv.rd.len']
   refine aL (hd) (by rfl) ?_;simp only [↓pre,simprocAttr,aA,sx,mZ,aD,aC,hv.rd.len',hl,bC,dC,cS];refine aL (hs) (by rfl) ?_;simp only [↓pre,simprocAttr,aA,sx,mZ,aD,aC,hv.rd.len',hl,bC,dC,cS]
def ace (kd ver:Int):Int:=if (kd=1∨kd=2)∧gV ver=true then 0 else 2
theorem asJ (kd ver:Int):aY Tryz.prog 234 [.val (.int .u8 kd),aE ver] ⟨aE (ace kd ver),[]⟩:=by
 unfold ace gV
 by_cases h1:kd=1
 ·by_cases h3:ver < 1
  ·rw [if_neg (by simp;omega)]
   refine bB follows Tryz.func234 (by unfold Tryz.f234;rfl) (by unfold Tryz.f234;simp) aD (by unfold Tryz.f234;simp) (by kernel_rfl) ?_;unfold Tryz.f234
   simp only [↓pre,simprocAttr,aA,sx,yC,aD,aC,h1,h3,eq_self,lW,lX]
  ·by_cases h4:(1073741824:Int) < ver
   ·rw [if_neg (by simp;omega)]
    refine bB follows Tryz.func234 (by unfold Tryz.f234;rfl) (by unfold Tryz.f234;simp) aD (by unfold Tryz.f234;simp) (by kernel_rfl) ?_;unfold Tryz.f234
    simp only [↓pre,simprocAttr,aA,sx,yC,aD,aC,h1,h3,h4,eq_self,lW,lX]
   ·rw [if_pos ⟨.inl h1,by simp;omega⟩]
    refine bB follows Tryz.func234 (by unfold Tryz.f234;rfl) (by unfold Tryz.f234;simp) aD (by unfold Tryz.f234;simp) (by kernel_rfl) ?_;unfold Tryz.f234
    simp only [↓pre,simprocAttr,aA,sx,yC,aD,aC,h1,h3,h4,eq_self,lW,lX]
 ·by_cases h2:kd=2
  ·by_cases h3:ver < 1
   ·rw [if_neg (by simp;omega)]
    refine bB follows Tryz.func234 (by unfold Tryz.f234;rfl) (by unfold Tryz.f234;simp) aD (by unfold Tryz.f234;simp) (by kernel_rfl) ?_;unfold Tryz.f234
    simp only [↓pre,simprocAttr,aA,sx,yC,aD,aC,h2,h3,eq_self,lW,lX]
   ·by_cases h4:(1073741824:Int) < ver
    ·rw [if_neg (by simp;omega)]
     refine bB follows Tryz.func234 (by unfold Tryz.f234;rfl) (by unfold Tryz.f234;simp) aD (by unfold Tryz.f234;simp) (by kernel_rfl) ?_;unfold Tryz.f234
     simp only [↓pre,simprocAttr,aA,sx,yC,aD,aC,h2,h3,h4,eq_self,lW,lX]
    ·rw [if_pos ⟨.inr h2,by simp;omega⟩]
     refine bB follows Tryz.func234 (by unfold Tryz.f234;rfl) (by unfold Tryz.f234;simp) aD (by unfold Tryz.f234;simp) (by kernel_rfl) ?_;unfold Tryz.f234
     simp only [↓pre,simprocAttr,aA,sx,yC,aD,aC,h2,h3,h4,eq_self,lW,lX]
  ·rw [if_neg (by simp [h1,h2])]
   refine bB follows Tryz.func234 (by unfold Tryz.f234;rfl) (by unfold Tryz.f234;simp) aD (by unfold Tryz.f234;simp) (by kernel_rfl) ?_;unfold Tryz.f234
   simp only [↓pre,simprocAttr,aA,sx,yC,aD,aC,h1,h2,eq_self,lW,lX]
def ad8 (k r c w:Int) (ps:List bN) (kd ver:Int):Int:=if xB k r c w ps=0 then ace kd ver else xB k r c w ps
theorem asK (k r c w:Int) (v:AV) (ps:List bN) (cells:List AV) (hv:fQ v ps cells) (kd ver:Int):aY Tryz.prog 231 [aA k r c w,v,.val (.int .u8 kd),aE ver] ⟨aE (ad8 k r c w ps kd ver),[]⟩:=by
 have hp:=hv.rd.plain
 have h1:=asI k r c w v ps cells hv
 have h2:=asJ kd ver
 unfold ad8
 by_cases h:xB k r c w ps=0
 ·rw [h] at h1
  simp only [h,if_true] at h1 ⊢
  refine bB follows Tryz.func231 (by unfold Tryz.f231;rfl) (by unfold Tryz.f231;simp) aD (by unfold Tryz.f231;simp) (by kernel_rfl) ?_;unfold Tryz.f231
  simp only [↓pre,simprocAttr,aA,sx,abM,aD,aC]
  refine aL (h1) (by simp only [aA,aO, *]) ?_;simp only [↓pre,simprocAttr,aA,sx,abM,aD,aC,eq_self];refine aL (h2) (by rfl) ?_;simp only [↓pre,simprocAttr,aA,sx,abM,aD,aC,eq_self]
 ·rw [if_neg h]
  simp only [if_neg h] at h1
  refine bB follows Tryz.func231 (by unfold Tryz.f231;rfl) (by unfold Tryz.f231;simp) aD (by unfold Tryz.f231;simp) (by kernel_rfl) ?_;unfold Tryz.f231
  simp only [↓pre,simprocAttr,aA,sx,abM,aD,aC]
  refine aL (h1) (by simp only [aA,aO, *]) ?_;simp only [↓pre,simprocAttr,aA,sx,abM,aD,aC,h]
def jG (k r c w:Int) (bs:List UInt8) (ix kd ver:Int):Bool:=eN k r c w bs && (decide ((fH k r c w bs).kd=kd) && (decide ((fH k r c w bs).ix=ix) && decide ((fH k r c w bs).st=ver)))
def rQ (k r c w:Int) (p:bN) (ix kd ver:Int):Option (List Int):=if jG k r c w p.1 ix kd ver=true then some (cR k r p.1).vec else if jG k r c w p.2 ix kd ver=true then some (cR k r p.2).vec else none
def oP (k r c w:Int) (ps:List bN) (kd ver:Int):Nat→Option (List Int)
 | 0=>none
 | n+1=>(oP k r c w ps kd ver n).or (rQ k r c w (ps.getD n ([],[])) (n:Nat) kd ver)
def iE (k r c w:Int) (ps:List bN) (kd ver:Int):Option (List Int):=oP k r c w ps kd ver ps.length
theorem agB {k r c w : Int} {ps : List bN} {kd ver : Int} {n : Nat} {l : List Int} (h : oP k r c w ps kd ver n = some l) : ∀ m, n ≤ m → oP k r c w ps kd ver m = some l
 | 0, hm => by have : n = 0 := by omega
               subst this; exact h
 | m + 1, hm => by
   by_cases e : n = m + 1
   · subst e; exact h
   · unfold oP
     rw [agB h m (by omega)]
     rfl
def rR:Option (List Int)→AV
 | some l => .tree l.length l.length (cJ l) false
 | none=>aP
theorem aml {k r c w:Int} {bs:List UInt8} (h:eN k r c w bs=true):(fH k r c w bs).vv=rR (some (cR k r bs).vec):=by
 unfold fH
 rw [if_pos h]
 rfl
theorem amm {k r c w:Int} {bs:List UInt8} (h:eN k r c w bs=true):(fH k r c w bs).dv = .tree (cR k r bs).data.length (cR k r bs).data.length (aQ (cR k r bs).data) false:=by
 unfold fH
 rw [if_pos h]
 rfl
theorem asL (k r c w kd ver:Int) (v:AV) (ps:List bN) (cells:List AV) (hv:fQ v ps cells) (hm:bL k r c w=true) (hr:dO k r c ps=true):aY Tryz.prog 163 [aA k r c w,v,.val (.int .u8 kd),aE ver] ⟨rR (iE k r c w ps kd ver),[]⟩:=by
 refine dY ?_
 have hp:=hv.rd.plain
 have hmn:=gF hm
 obtain ⟨hl,hpr⟩:=uJ hr
 generalize hres:iE k r c w ps kd ver=T
 replace hres:=aB.mk hres
 replace hmn:=aB.mk hmn
 replace hpr:=aB.mk hpr
 have hl16:ps.length≤16:=by have:=hmn.out;omega
 replace hl:=aB.mk hl
 refine bJ follows Tryz.func163 (by unfold Tryz.f163;rfl) (by unfold Tryz.f163;simp) aD (by unfold Tryz.f163;simp) (by kernel_rfl) ?_;unfold Tryz.f163
 simp only [↓pre,simprocAttr,aA,sx,jJ,aD,aC,aI,Int.natCast_zero,Int.cast_ofNat_Int,Int.natCast_one,cY,cZ,aJ,aK,aF,aG,hv.rd.len',sr]
 rw [b7]
 refine b8 (fun q e m=>∃ i,q+i=ps.length∧e 2 = .val (.int .u8 kd)∧e 3=aE ver∧e 4 = .tptr 0 [aE k,aE r,aE c,aE w]∧e 16=v∧e 17=aE (ps.length:Nat)∧e 18=aE (i:Nat)∧aB (oP k r c w ps kd ver i=none)) ps.length ⟨0,by omega,rfl,rfl,rfl,rfl,rfl,rfl,⟨rfl⟩⟩ ?_
 rintro q e m ⟨i,hq,e2,e3,e4,e16,e17,e18,hJ⟩
 replace hq:=aB.mk hq
 by_cases hlt:i < ps.length
 ·have hlt':((i:Nat):Int) < ((ps.length:Nat):Int):=by omega
  have wi:=cF (n:=i) (by omega)
  obtain ⟨p,hpi⟩:∃ p,ps[i]? = some p:=⟨_,List.getElem?_eq_getElem hlt⟩
  obtain ⟨a,b,xa,xb,ha,hb,hra,hrb⟩:=hv.at_ i p hpi
  have hpp:=hpr.out p (List.mem_of_getElem? hpi)
  unfold jN at hpp
  rw [Bool.and_eq_true] at hpp
  have hP0:=ad7 k r c w a p.1 xa hra hm hpp.1
  have hP1:=ad7 k r c w b p.2 xb hrb hm hpp.2
  obtain ⟨ht,htl⟩:=qI ha hb
  have fa:=cA hra
  have fb:=cA hrb
  have oa:=bP hra
  have ob:=bP hrb
  have hgd:ps.getD i ([],[])=p:=by rw [List.getD_eq_getElem?_getD,hpi];rfl
  have hstep:oP k r c w ps kd ver (i+1)=rQ k r c w p (i:Nat) kd ver:=by
   show (oP k r c w ps kd ver i).or _=_
   rw [hJ.out,hgd]
   rfl
  have hdone:∀ l,rQ k r c w p (i:Nat) kd ver=some l→T=some l:=fun l h=>by
   rw [←hres.out]
   exact agB (hstep.trans h) _ (by omega)
  have hvv0:eN k r c w p.1=true→(fH k r c w p.1).vv=rR (some (cR k r p.1).vec):=aml
  have hvv1:eN k r c w p.2=true→(fH k r c w p.2).vv=rR (some (cR k r p.2).vec):=aml
  have hR0:=tU k r c w p.1
  have hR1:=tU k r c w p.2
  have htd:rQ k r c w p (i:Nat) kd ver=if jG k r c w p.1 (i:Nat) kd ver=true then some (cR k r p.1).vec else if jG k r c w p.2 (i:Nat) kd ver=true then some (cR k r p.2).vec else none:=rfl
  generalize rQ k r c w p (i:Nat) kd ver=T1 at *
  have hB0:jG k r c w p.1 (i:Nat) kd ver=(eN k r c w p.1 && (decide ((fH k r c w p.1).kd=kd) && (decide ((fH k r c w p.1).ix=(i:Nat)) && decide ((fH k r c w p.1).st=ver)))):=rfl
  have hB1:jG k r c w p.2 (i:Nat) kd ver=(eN k r c w p.2 && (decide ((fH k r c w p.2).kd=kd) && (decide ((fH k r c w p.2).ix=(i:Nat)) && decide ((fH k r c w p.2).st=ver)))):=rfl
  generalize jG k r c w p.1 (i:Nat) kd ver=B0 at *
  generalize jG k r c w p.2 (i:Nat) kd ver=B1 at *
  generalize fH k r c w p.1=s0 at *
  generalize fH k r c w p.2=s1 at *
  generalize eN k r c w p.1=i0 at *
  generalize eN k r c w p.2=i1 at *
  generalize (cR k r p.1).vec=l0 at *
  generalize (cR k r p.2).vec=l1 at *
  obtain ⟨⟨n1,y1,g1⟩,⟨n2,y2,g2⟩⟩:=hR0
  obtain ⟨⟨n3,y3,g3⟩,⟨n4,y4,g4⟩⟩:=hR1
  have f1:=cA g1
  have f2:=cA g2
  have f3:=cA g3
  have f4:=cA g4
  have q1:=bP g1
  have q2:=bP g2
  have q3:=bP g3
  have q4:=bP g4
  have t1:=cK g1
  have t2:=cK g2
  have t3:=cK g3
  have t4:=cK g4
  have pa:=hra.plain
  have pb:=hrb.plain
  simp only [fG.cells] at hP0 hP1
  replace hpi:=aB.mk hpi
  replace hgd:=aB.mk hgd
  replace hstep:=aB.mk hstep
  replace hdone:=aB.mk hdone
  replace hvv0:=aB.mk hvv0
  replace hvv1:=aB.mk hvv1
  replace htd:=aB.mk htd
  replace hB0:=aB.mk hB0
  replace hB1:=aB.mk hB1
  simp only [↓pre,simprocAttr,aA,sx,jJ,aD,aC,aI,Int.natCast_zero,Int.cast_ofNat_Int,Int.natCast_one,cY,cZ,aJ,aK,aF,aG,fa,fb,oa,ob,f1,f2,f3,f4,q1,q2,q3,q4,t1,t2,t3,t4,e2,e3,e4,e16,e17,e18,hlt',hv.rd.addr',hlt,ht,htl,sr]
  rw [b7]
  refine b8 (fun q2 e m=>∃ kk,q2+kk=2∧e 2 = .val (.int .u8 kd)∧e 3=aE ver∧e 4 = .tptr 0 [aE k,aE r,aE c,aE w]∧e 9=aE (i:Nat)∧e 16=v∧e 17=aE (ps.length:Nat)∧e 18=aE (i:Nat)∧e 23 = .agg [a,b]∧e 24=aE (kk:Nat)∧(1≤kk→B0=false)∧(2≤kk→B1=false)) 2 ⟨0,by omega,e2,e3,e4,rfl,e16,e17,e18,rfl,rfl,fun h=>by omega,fun h=>by omega⟩ ?_
  rintro q2' e m ⟨kk,hq2,e2,e3,e4,e9,e16,e17,e18,e23,e24,c1,c2⟩
  obtain rfl | rfl | rfl:kk=0∨kk=1∨kk=2:=by omega
  ·replace hq2:=aB.mk hq2
   clear c1 c2
   have hno:B0=false→∃ n',n' < q2'∧n'+1=2∧(1≤1→B0=false)∧(2≤1→B1=false):=fun h=>⟨q2' - 1,by have:=hq2.out;omega,by have:=hq2.out;omega,fun _=>h,fun h=>by omega⟩
   replace hno:=aB.mk hno
   cases i0 with
   | false =>
    simp only [↓pre,simprocAttr,aA,sx,jJ,aD,aC,aI,Int.natCast_zero,Int.cast_ofNat_Int,Int.natCast_one,cY,cZ,aJ,aK,aF,aG,fa,fb,oa,ob,f1,f2,f3,f4,q1,q2,q3,q4,t1,t2,t3,t4,e2,e3,e4,e9,e16,e17,e18,e23,e24,sr]
    refine aL (hP0) (by simp only [aA,aO, *]) ?_;simp only [↓pre,simprocAttr,aA,sx,jJ,aD,aC,aI,Int.natCast_zero,Int.cast_ofNat_Int,Int.natCast_one,cY,cZ,aJ,aK,aF,aG,fa,fb,oa,ob,f1,f2,f3,f4,q1,q2,q3,q4,t1,t2,t3,t4,e2,e3,e4,e9,e16,e17,e18,e23,e24,sr]
    obtain ⟨n',h1,h2,h3,h4⟩:=hno.out (by rw [hB0.out];rfl)
    exact ⟨n',h1,1,h2,rfl,h3,h4⟩
   | true =>
    by_cases k1:s0.kd=kd
    ·by_cases k2:s0.ix=(i:Nat)
     ·by_cases k3:s0.st=ver
      ·have hT:=hdone.out l0 (by rw [htd.out,hB0.out,decide_eq_true k1,decide_eq_true k2,decide_eq_true k3];rfl)
       have hvv:=hvv0.out rfl
       have hf:=fun m=>aac (k:=0) (m:=m) g1
       rw [hvv] at hf
       replace hvv:=aB.mk hvv
       subst hT
       replace hf:=aB.mk hf
       simp only [↓pre,simprocAttr,aA,sx,jJ,aD,aC,aI,Int.natCast_zero,Int.cast_ofNat_Int,Int.natCast_one,cY,cZ,aJ,aK,aF,aG,fa,fb,oa,ob,f1,f2,f3,f4,q1,q2,q3,q4,t1,t2,t3,t4,e2,e3,e4,e9,e16,e17,e18,e23,e24,sr]
       refine aL (hP0) (by simp only [aA,aO, *]) ?_;simp only [↓pre,simprocAttr,aA,sx,jJ,aD,aC,aI,Int.natCast_zero,Int.cast_ofNat_Int,Int.natCast_one,cY,cZ,aJ,aK,aF,aG,fa,fb,oa,ob,f1,f2,f3,f4,q1,q2,q3,q4,t1,t2,t3,t4,e2,e3,e4,e9,e16,e17,e18,e23,e24,k1,k2,k3,sr]
       rw [hvv.out]
       exact ⟨0,hf.out _⟩
      ·simp only [↓pre,simprocAttr,aA,sx,jJ,aD,aC,aI,Int.natCast_zero,Int.cast_ofNat_Int,Int.natCast_one,cY,cZ,aJ,aK,aF,aG,fa,fb,oa,ob,f1,f2,f3,f4,q1,q2,q3,q4,t1,t2,t3,t4,e2,e3,e4,e9,e16,e17,e18,e23,e24,sr]
       refine aL (hP0) (by simp only [aA,aO, *]) ?_;simp only [↓pre,simprocAttr,aA,sx,jJ,aD,aC,aI,Int.natCast_zero,Int.cast_ofNat_Int,Int.natCast_one,cY,cZ,aJ,aK,aF,aG,fa,fb,oa,ob,f1,f2,f3,f4,q1,q2,q3,q4,t1,t2,t3,t4,e2,e3,e4,e9,e16,e17,e18,e23,e24,k1,k2,k3,sr]
       obtain ⟨n',h1,h2,h3,h4⟩:=hno.out (by rw [hB0.out,decide_eq_false k3];simp)
       exact ⟨n',h1,1,h2,rfl,h3,h4⟩
     ·simp only [↓pre,simprocAttr,aA,sx,jJ,aD,aC,aI,Int.natCast_zero,Int.cast_ofNat_Int,Int.natCast_one,cY,cZ,aJ,aK,aF,aG,fa,fb,oa,ob,f1,f2,f3,f4,q1,q2,q3,q4,t1,t2,t3,t4,e2,e3,e4,e9,e16,e17,e18,e23,e24,sr]
      refine aL (hP0) (by simp only [aA,aO, *]) ?_;simp only [↓pre,simprocAttr,aA,sx,jJ,aD,aC,aI,Int.natCast_zero,Int.cast_ofNat_Int,Int.natCast_one,cY,cZ,aJ,aK,aF,aG,fa,fb,oa,ob,f1,f2,f3,f4,q1,q2,q3,q4,t1,t2,t3,t4,e2,e3,e4,e9,e16,e17,e18,e23,e24,k1,k2,sr]
      obtain ⟨n',h1,h2,h3,h4⟩:=hno.out (by rw [hB0.out,decide_eq_false k2];simp)
      exact ⟨n',h1,1,h2,rfl,h3,h4⟩
    ·simp only [↓pre,simprocAttr,aA,sx,jJ,aD,aC,aI,Int.natCast_zero,Int.cast_ofNat_Int,Int.natCast_one,cY,cZ,aJ,aK,aF,aG,fa,fb,oa,ob,f1,f2,f3,f4,q1,q2,q3,q4,t1,t2,t3,t4,e2,e3,e4,e9,e16,e17,e18,e23,e24,sr]
     refine aL (hP0) (by simp only [aA,aO, *]) ?_;simp only [↓pre,simprocAttr,aA,sx,jJ,aD,aC,aI,Int.natCast_zero,Int.cast_ofNat_Int,Int.natCast_one,cY,cZ,aJ,aK,aF,aG,fa,fb,oa,ob,f1,f2,f3,f4,q1,q2,q3,q4,t1,t2,t3,t4,e2,e3,e4,e9,e16,e17,e18,e23,e24,k1,sr]
     obtain ⟨n',h1,h2,h3,h4⟩:=hno.out (by rw [hB0.out,decide_eq_false k1];simp)
     exact ⟨n',h1,1,h2,rfl,h3,h4⟩
  ·replace hq2:=aB.mk hq2
   replace c1:=aB.mk (c1 (by omega))
   clear c2
   have hno:B1=false→∃ n',n' < q2'∧n'+2=2∧(1≤2→B0=false)∧(2≤2→B1=false):=fun h=>⟨q2' - 1,by have:=hq2.out;omega,by have:=hq2.out;omega,fun _=>c1.out,fun _=>h⟩
   replace hno:=aB.mk hno
   cases i1 with
   | false =>
    simp only [↓pre,simprocAttr,aA,sx,jJ,aD,aC,aI,Int.natCast_zero,Int.cast_ofNat_Int,Int.natCast_one,cY,cZ,aJ,aK,aF,aG,fa,fb,oa,ob,f1,f2,f3,f4,q1,q2,q3,q4,t1,t2,t3,t4,e2,e3,e4,e9,e16,e17,e18,e23,e24,sr]
    refine aL (hP1) (by simp only [aA,aO, *]) ?_;simp only [↓pre,simprocAttr,aA,sx,jJ,aD,aC,aI,Int.natCast_zero,Int.cast_ofNat_Int,Int.natCast_one,cY,cZ,aJ,aK,aF,aG,fa,fb,oa,ob,f1,f2,f3,f4,q1,q2,q3,q4,t1,t2,t3,t4,e2,e3,e4,e9,e16,e17,e18,e23,e24,sr]
    obtain ⟨n',h1,h2,h3,h4⟩:=hno.out (by rw [hB1.out];rfl)
    exact ⟨n',h1,2,h2,rfl,h3,h4⟩
   | true =>
    by_cases k1:s1.kd=kd
    ·by_cases k2:s1.ix=(i:Nat)
     ·by_cases k3:s1.st=ver
      ·have hT:=hdone.out l1 (by rw [htd.out,c1.out,hB1.out,decide_eq_true k1,decide_eq_true k2,decide_eq_true k3];rfl)
       have hvv:=hvv1.out rfl
       have hf:=fun m=>aac (k:=0) (m:=m) g3
       rw [hvv] at hf
       replace hvv:=aB.mk hvv
       subst hT
       replace hf:=aB.mk hf
       simp only [↓pre,simprocAttr,aA,sx,jJ,aD,aC,aI,Int.natCast_zero,Int.cast_ofNat_Int,Int.natCast_one,cY,cZ,aJ,aK,aF,aG,fa,fb,oa,ob,f1,f2,f3,f4,q1,q2,q3,q4,t1,t2,t3,t4,e2,e3,e4,e9,e16,e17,e18,e23,e24,sr]
       refine aL (hP1) (by simp only [aA,aO, *]) ?_;simp only [↓pre,simprocAttr,aA,sx,jJ,aD,aC,aI,Int.natCast_zero,Int.cast_ofNat_Int,Int.natCast_one,cY,cZ,aJ,aK,aF,aG,fa,fb,oa,ob,f1,f2,f3,f4,q1,q2,q3,q4,t1,t2,t3,t4,e2,e3,e4,e9,e16,e17,e18,e23,e24,k1,k2,k3,sr]
       rw [hvv.out]
       exact ⟨0,hf.out _⟩
      ·simp only [↓pre,simprocAttr,aA,sx,jJ,aD,aC,aI,Int.natCast_zero,Int.cast_ofNat_Int,Int.natCast_one,cY,cZ,aJ,aK,aF,aG,fa,fb,oa,ob,f1,f2,f3,f4,q1,q2,q3,q4,t1,t2,t3,t4,e2,e3,e4,e9,e16,e17,e18,e23,e24,sr]
       refine aL (hP1) (by simp only [aA,aO, *]) ?_;simp only [↓pre,simprocAttr,aA,sx,jJ,aD,aC,aI,Int.natCast_zero,Int.cast_ofNat_Int,Int.natCast_one,cY,cZ,aJ,aK,aF,aG,fa,fb,oa,ob,f1,f2,f3,f4,q1,q2,q3,q4,t1,t2,t3,t4,e2,e3,e4,e9,e16,e17,e18,e23,e24,k1,k2,k3,sr]
       obtain ⟨n',h1,h2,h3,h4⟩:=hno.out (by rw [hB1.out,decide_eq_false k3];simp)
       exact ⟨n',h1,2,h2,rfl,h3,h4⟩
     ·simp only [↓pre,simprocAttr,aA,sx,jJ,aD,aC,aI,Int.natCast_zero,Int.cast_ofNat_Int,Int.natCast_one,cY,cZ,aJ,aK,aF,aG,fa,fb,oa,ob,f1,f2,f3,f4,q1,q2,q3,q4,t1,t2,t3,t4,e2,e3,e4,e9,e16,e17,e18,e23,e24,sr]
      refine aL (hP1) (by simp only [aA,aO, *]) ?_;simp only [↓pre,simprocAttr,aA,sx,jJ,aD,aC,aI,Int.natCast_zero,Int.cast_ofNat_Int,Int.natCast_one,cY,cZ,aJ,aK,aF,aG,fa,fb,oa,ob,f1,f2,f3,f4,q1,q2,q3,q4,t1,t2,t3,t4,e2,e3,e4,e9,e16,e17,e18,e23,e24,k1,k2,sr]
      obtain ⟨n',h1,h2,h3,h4⟩:=hno.out (by rw [hB1.out,decide_eq_false k2];simp)
      exact ⟨n',h1,2,h2,rfl,h3,h4⟩
    ·simp only [↓pre,simprocAttr,aA,sx,jJ,aD,aC,aI,Int.natCast_zero,Int.cast_ofNat_Int,Int.natCast_one,cY,cZ,aJ,aK,aF,aG,fa,fb,oa,ob,f1,f2,f3,f4,q1,q2,q3,q4,t1,t2,t3,t4,e2,e3,e4,e9,e16,e17,e18,e23,e24,sr]
     refine aL (hP1) (by simp only [aA,aO, *]) ?_;simp only [↓pre,simprocAttr,aA,sx,jJ,aD,aC,aI,Int.natCast_zero,Int.cast_ofNat_Int,Int.natCast_one,cY,cZ,aJ,aK,aF,aG,fa,fb,oa,ob,f1,f2,f3,f4,q1,q2,q3,q4,t1,t2,t3,t4,e2,e3,e4,e9,e16,e17,e18,e23,e24,k1,sr]
     obtain ⟨n',h1,h2,h3,h4⟩:=hno.out (by rw [hB1.out,decide_eq_false k1];simp)
     exact ⟨n',h1,2,h2,rfl,h3,h4⟩
  ·replace c1:=aB.mk (c1 (by omega))
   replace c2:=aB.mk (c2 (by omega))
   simp only [↓pre,simprocAttr,aA,sx,jJ,aD,aC,aI,Int.natCast_zero,Int.cast_ofNat_Int,Int.natCast_one,cY,cZ,aJ,aK,aF,aG,fa,fb,oa,ob,f1,f2,f3,f4,q1,q2,q3,q4,t1,t2,t3,t4,e2,e3,e4,e9,e16,e17,e18,e23,e24,wi,sr]
   refine ⟨q - 1,by have:=hq.out;omega,i+1,by have:=hq.out;omega,rfl,⟨?_⟩⟩
   rw [hstep.out,htd.out,c1.out,c2.out]
   rfl
 ·have hlt':¬ ((i:Nat):Int) < ((ps.length:Nat):Int):=by omega
  have hi:i=ps.length:=by have:=hq.out;omega
  have hT:T=none:=by rw [←hres.out];unfold iE;rw [←hi];exact hJ.out
  subst hT
  simp only [↓pre,simprocAttr,aA,sx,jJ,aD,aC,aI,Int.natCast_zero,Int.cast_ofNat_Int,Int.natCast_one,cY,cZ,aJ,aK,aF,aG,e2,e3,e4,e16,e17,e18,hlt',sr]
  exact ⟨0,by unfold rR aP;rw [fP]⟩
structure asM (k r c w:Int) (s:qH):Prop where
 vec:iQ k r c w s.vec=0
 st:s.st=jK s.vec
 ix0:0≤s.ix
 ix1:s.ix < s.vec.length
 kd:s.kd=1∨s.kd=2
 ce:s.vec[s.ix.toNat]? = some s.ce
 data:(s.data.length:Int)=c
theorem ad9 {k r c w:Int} {bs:List UInt8} (h:eN k r c w bs=true):asM k r c w (cR k r bs):=by
 unfold eN sN d5 at h
 simp only [Bool.and_eq_true,decide_eq_true_eq,Bool.or_eq_true] at h
 obtain ⟨h1,h2,h3,h4,h5,h6,h7,h8,h9⟩:=h
 exact ⟨h4,h5,h6.1,h6.2,h7,h8,h9⟩
theorem asN {k r c w:Int} {l:List Int} (h:iQ k r c w l=0):(l.length:Int)=k+r∧∀ v∈l,1≤v∧v≤1073741824:=by
 unfold iQ at h
 split at h
 ·split at h
  ·split at h
   ·omega
   ·rename_i h1 h2 h3
    refine ⟨h2,fun v hv => ?_⟩
    have:¬ (l.any fun n => !gV n)=true:=h3
    rw [List.any_eq_true] at this
    have h4:gV v=true:=by
     cases hb:gV v with
     | true=>rfl
     | false=>exact absurd ⟨v,hv,by rw [hb];rfl⟩ this
    unfold gV at h4
    exact of_decide_eq_true h4
  ·omega
 ·omega
theorem asO {k r c w:Int} {p:bN} {ix kd ver:Int} {l:List Int} (h:rQ k r c w p ix kd ver=some l):iQ k r c w l=0∧∃ bs,(bs=p.1∨bs=p.2)∧jG k r c w bs ix kd ver=true∧l=(cR k r bs).vec:=by
 unfold rQ at h
 split at h
 ·rename_i h1
  cases h
  have h2:=h1
  unfold jG at h1
  rw [Bool.and_eq_true] at h1
  exact ⟨(ad9 h1.1).vec,_,.inl rfl,h2,rfl⟩
 ·split at h
  ·rename_i h1
   cases h
   have h2:=h1
   unfold jG at h1
   rw [Bool.and_eq_true] at h1
   exact ⟨(ad9 h1.1).vec,_,.inr rfl,h2,rfl⟩
  ·cases h
theorem amn {k r c w:Int} {ps:List bN} {kd ver:Int}:∀ (n:Nat) (l:List Int),oP k r c w ps kd ver n=some l→∃ i,i < n∧rQ k r c w (ps.getD i ([],[])) (i:Nat) kd ver=some l
 | 0,l,h=>by cases h
 | n+1,l,h=>by
  unfold oP at h
  cases h1:oP k r c w ps kd ver n with
  | some l' =>
   rw [h1] at h
   cases h
   obtain ⟨i,hi,h2⟩:=amn n _ h1
   exact ⟨i,by omega,h2⟩
  | none =>
   rw [h1] at h
   exact ⟨n,by omega,h⟩
theorem agC {k r c w:Int} {ps:List bN} {kd ver:Int} {l:List Int} (h:iE k r c w ps kd ver=some l):(l.length:Int)=k+r∧∀ v∈l,1≤v∧v≤1073741824:=by
 obtain ⟨i,hi,h2⟩:=amn _ _ h
 exact asN (asO h2).1
def nB (k r c w:Int) (p:bN) (ix kd ver:Int):Option fG:=if j6 k r c w p.1 ix kd ver=true then some (fH k r c w p.1) else if j6 k r c w p.2 ix kd ver=true then some (fH k r c w p.2) else none
theorem amo {k r c w:Int} {p:bN} {ix kd ver:Int} {s:fG} (h:nB k r c w p ix kd ver=some s):s.Rd∧∃ n,aaV k r c w p ix kd ver = .tup [aE n,s.v,bC true,aE 0]:=by
 unfold nB at h
 unfold aaV
 split at h
 ·rename_i h1;cases h;exact ⟨tU _ _ _ _ _,0,by rw [if_pos h1]⟩
 ·rename_i h1
  split at h
  ·rename_i h2;cases h;exact ⟨tU _ _ _ _ _,1,by rw [if_neg h1,if_pos h2]⟩
  ·cases h
theorem asP {k r c w:Int} {p:bN} {ix kd ver:Int} (h:nB k r c w p ix kd ver=none):aaV k r c w p ix kd ver = .tup [aE 0,rP.v,bC false,aE 0]:=by
 unfold nB at h
 unfold aaV
 split at h
 ·cases h
 ·rename_i h1
  split at h
  ·cases h
  ·rename_i h2;rw [if_neg h1,if_neg h2]
def nC:Nat→Bool:=fun d=>d != 13
theorem asQ (k r c w kd ver : Int) (v : AV) (ps : List bN) (cells : List AV) (hv : fQ v ps cells) (hm : bL k r c w = true) (hr : dO k r c ps = true) (hk : kd = 1 ∨ kd = 2) (m0 : aH) (g : FuncId) (caps : List AV) (nK : Nat → aH → Prop) (h0 : nK 0 m0) (hkeep : ∀ i m m', nK i m → kT m m' → nK i m')
   (hdo : ∀ (l : List Int) (i : Nat) (p : bN) (m : aH) (s : fG), iE k r c w ps kd ver = some l → i < ps.length → ps[i]? = some p → nB k r c w p (i : Nat) kd (l.getD i 0) = some s → nK i m → gO Tryz.prog g (aE (i : Nat) :: .agg s.cells :: caps) m fun res m' => res = .tup [] ∧ nK (i + 1) m')
   (hno : ∀ (l : List Int) (i : Nat) (p : bN) (m : aH), iE k r c w ps kd ver = some l → i < ps.length → ps[i]? = some p → nB k r c w p (i : Nat) kd (l.getD i 0) = none → nK i m → nK (i + 1) m) :
   gO Tryz.prog 161 [aA k r c w, v, .val (.int .u8 kd), aE ver, .clo g caps] m0 fun res m' => res = .tup [] ∧ nK (if (iE k r c w ps kd ver).isSome = true then ps.length else 0) m' := by
 have hp := hv.rd.plain
 have htold := asL k r c w kd ver v ps cells hv hm hr
 have hmn := gF hm
 obtain ⟨hl, hpr⟩ := uJ hr
 replace hdo := aB.mk hdo
 replace hno := aB.mk hno
 replace hkeep := aB.mk hkeep
 replace hmn := aB.mk hmn
 replace hpr := aB.mk hpr
 replace hl := aB.mk hl
 cases hT : iE k r c w ps kd ver with
 | none =>
   rw [hT] at htold
   unfold rR aP at htold
   have hlen0 : jT Tryz.prog 41 (.val (.slice none 0 0)) = some (.val (.int .i64 0)) := by kernel_rfl
   refine bJ follows Tryz.func161 (by unfold Tryz.f161; rfl) (by unfold Tryz.f161; simp) nC (by unfold Tryz.f161; simp) (by kernel_rfl) ?_; unfold Tryz.f161
   simp only [↓pre, simprocAttr, aA, sx, oC, nC, bne, aC, aI, aJ, aK, aF, aG, sr]
   refine aL (htold) (by simp only [aA, aO, *]) ?_; simp only [↓pre, simprocAttr, aA, sx, oC, nC, bne, aC, aI, aJ, aK, aF, aG, hlen0, sr]
   rw [b7]
   refine b8 (fun q e m => e 21 = .val (.int .i64 0) ∧ e 22 = .val (.int .i64 0) ∧ aB (nK 0 m)) 0 ⟨rfl, rfl, ⟨h0⟩⟩ ?_
   rintro q e m ⟨e21, e22, hJ⟩
   have : ¬ (0 : Int) < 0 := by omega
   simp only [↓pre, simprocAttr, aA, sx, oC, nC, bne, aC, aI, aJ, aK, aF, aG, e21, e22, this, sr]
   exact hJ.out
 | some l =>
   rw [hT] at htold
   obtain ⟨hll, hlv⟩ := agC hT
   have hlp : l.length = ps.length := by have := hl.out; omega
   have hrdl : bD (.tree l.length l.length (cJ l) false) l.length (cJ l ++ []) := ⟨.inr (.inr ⟨_, false, by rw [List.append_nil], Nat.le_refl _⟩)⟩
   have hl16 : l.length ≤ 16 := by have := hmn.out; omega
   unfold rR at htold
   replace hlv := aB.mk hlv
   replace hll := aB.mk hll
   replace hT := aB.mk hT
   refine bJ follows Tryz.func161 (by unfold Tryz.f161; rfl) (by unfold Tryz.f161; simp) nC (by unfold Tryz.f161; simp) (by kernel_rfl) ?_; unfold Tryz.f161
   simp only [↓pre, simprocAttr, aA, sx, oC, nC, bne, aC, aI, aJ, aK, aF, aG, sr]
   refine aL (htold) (by simp only [aA, aO, *]) ?_; simp only [↓pre, simprocAttr, aA, sx, oC, nC, bne, aC, aI, aJ, aK, aF, aG, hrdl.len', sr]
   rw [b7]
   refine b8 (fun q e m => ∃ i, q + i = l.length ∧ e 1 = v ∧ e 2 = .val (.int .u8 kd) ∧ e 4 = .clo g caps ∧ e 5 = .tptr 0 [aE k, aE r, aE c, aE w] ∧ e 20 = .tree l.length l.length (cJ l) false ∧ e 21 = aE (l.length : Nat) ∧ e 22 = aE (i : Nat) ∧ aB (nK i m)) l.length ⟨0, by omega, rfl, rfl, rfl, rfl, rfl, rfl, rfl, ⟨h0⟩⟩ ?_
   rintro q e m ⟨i, hq, e1, e2, e4, e5, e20, e21, e22, hJ⟩
   replace hq := aB.mk hq
   by_cases hlt : i < l.length
   · have hlt' : ((i : Nat) : Int) < ((l.length : Nat) : Int) := by omega
     have wi := cF (n := i) (by omega)
     have hip : i < ps.length := by omega
     obtain ⟨z, hz⟩ : ∃ z, l[i]? = some z := ⟨_, List.getElem?_eq_getElem hlt⟩
     have hza := sM (x := []) hz
     rw [List.append_nil] at hza hrdl
     obtain ⟨p, hpi⟩ : ∃ p, ps[i]? = some p := ⟨_, List.getElem?_eq_getElem hip⟩
     obtain ⟨a, b, xa, xb, ha, hb, hra, hrb⟩ := hv.at_ i p hpi
     obtain ⟨ht, htl⟩ := qI ha hb
     have hzv := hlv.out z (List.mem_of_getElem? hz)
     have hgz : l.getD i 0 = z := by rw [List.getD_eq_getElem?_getD, hz]; rfl
     have hfi := asH k r c w (i : Nat) kd z a b p xa xb hra hrb hm (hpr.out p (List.mem_of_getElem? hpi)) hk (by omega) (by have := hl.out; omega) hzv.1 hzv.2
     have pa := hra.plain
     have pb := hrb.plain
     have hpush : ∀ (cs : List AV), kT m ((m.push ⟨rP.cells, 127, .var, true⟩).put m.next (some ⟨cs, 127, .var, true⟩)) := fun cs => ⟨rfl, by rw [bX, bO]; omega, fun j x hj hl => by rw [aF, if_neg (by omega), aG, if_neg (by omega)]; exact hj⟩
     replace hz := aB.mk hz
     replace hpi := aB.mk hpi
     replace hzv := aB.mk hzv
     replace hgz := aB.mk hgz
     replace hpush := aB.mk hpush
     cases hF : nB k r c w p (i : Nat) kd z with
     | none =>
       rw [asP hF] at hfi
       replace hF := aB.mk hF
       simp only [fG.v, fG.cells, rP, aP, aE, bC] at hfi
       simp only [↓pre, simprocAttr, aA, sx, oC, nC, bne, aC, aI, aJ, aK, aF, aG, e1, e2, e4, e5, e20, e21, e22, hlt', hrdl.addr', hlt, hza, hv.rd.addr', hip, ht, htl, sr]
       (refine bM (hfi) (by simp only [aA, aO, *]) (by intro k; rfl) ?_); simp only [↓pre, simprocAttr, aA, sx, oC, nC, bne, aC, aI, aJ, aK, aF, aG, e1, e2, e4, e5, e20, e21, e22, sr]
       refine cU (by kernel_rfl) ?_
       simp only [↓pre, simprocAttr, aA, sx, oC, nC, bne, aC, aI, aJ, aK, aF, aG, e1, e2, e4, e5, e20, e21, e22, sr]
       refine cU (by kernel_rfl) ?_
       simp only [↓pre, simprocAttr, aA, sx, oC, nC, bne, aC, aI, aJ, aK, aF, aG, e1, e2, e4, e5, e20, e21, e22, wi, sr]
       exact ⟨q - 1, by have := hq.out; omega, i + 1, by have := hq.out; omega, rfl, ⟨hno.out l i p _ hT.out hip hpi.out (by rw [hgz.out]; exact hF.out) (hkeep.out i m _ hJ.out (hpush.out _))⟩⟩
     | some s =>
       obtain ⟨hsR, n0, hfv⟩ := amo hF
       rw [hfv] at hfi
       obtain ⟨⟨n1, y1, g1⟩, ⟨n2, y2, g2⟩⟩ := hsR
       have q1 := bP g1
       have q2 := bP g2
       have t1 := cK g1
       have t2 := cK g2
       replace hF := aB.mk hF
       replace hfv := aB.mk hfv
       simp only [fG.v, fG.cells, aE, bC] at hfi
       simp only [↓pre, simprocAttr, aA, sx, oC, nC, bne, aC, aI, aJ, aK, aF, aG, e1, e2, e4, e5, e20, e21, e22, hlt', hrdl.addr', hlt, hza, hv.rd.addr', hip, ht, htl, q1, q2, t1, t2, sr]
       (refine bM (hfi) (by simp only [aA, aO, *]) (by intro k; simp only [sq, sr, *]) ?_); simp only [↓pre, simprocAttr, aA, sx, oC, nC, bne, aC, aI, aJ, aK, aF, aG, e1, e2, e4, e5, e20, e21, e22, q1, q2, t1, t2, sr]
       refine cU (by kernel_rfl) ?_
       simp only [↓pre, simprocAttr, aA, sx, oC, nC, bne, aC, aI, aJ, aK, aF, aG, e1, e2, e4, e5, e20, e21, e22, q1, q2, t1, t2, sr]
       refine cU (by kernel_rfl) ?_
       simp only [↓pre, simprocAttr, aA, sx, oC, nC, bne, aC, aI, aJ, aK, aF, aG, e1, e2, e4, e5, e20, e21, e22, q1, q2, t1, t2, wi, sr]
       refine mX (hdo.out l i p _ s hT.out hip hpi.out (by rw [hgz.out]; exact hF.out) (hkeep.out i m _ hJ.out (hpush.out _))) ?_
       rintro res m' ⟨rfl, hI⟩
       simp only [↓pre, simprocAttr, aA, sx, oC, nC, bne, aC, aI, aJ, aK, aF, aG, e1, e2, e4, e5, e20, e21, e22, wi, sr]
       exact ⟨q - 1, by have := hq.out; omega, i + 1, by have := hq.out; omega, rfl, ⟨hI⟩⟩
   · have hlt' : ¬ ((i : Nat) : Int) < ((l.length : Nat) : Int) := by omega
     have hi : i = ps.length := by have := hq.out; omega
     simp only [↓pre, simprocAttr, aA, sx, oC, nC, bne, aC, aI, aJ, aK, aF, aG, e1, e2, e4, e5, e20, e21, e22, hlt', Option.isSome_some, sr]
     rw [← hi]
     exact hJ.out
def mC (k r c w:Int) (p:bN) (ix kd ver:Int):List UInt8:=if j6 k r c w p.1 ix kd ver=true then (cR k r p.1).data else if j6 k r c w p.2 ix kd ver=true then (cR k r p.2).data else []
def iJ (k r c w:Int) (ps:List bN) (kd ver:Int):List (List UInt8):=match iE k r c w ps kd ver with
 | some l=>(List.range ps.length).map fun j=>mC k r c w (ps.getD j ([],[])) (j:Nat) kd (l.getD j 0)
 | none=>(List.range ps.length).map fun _=>[]
theorem agD (k r c w:Int) (ps:List bN) (kd ver:Int):(iJ k r c w ps kd ver).length=ps.length:=by
 unfold iJ
 split <;> simp
theorem aea {k r c w:Int} {bs:List UInt8} {ix kd ver:Int} (h:j6 k r c w bs ix kd ver=true):eN k r c w bs=true:=by
 unfold j6 nA at h
 rw [Bool.and_eq_true] at h
 have:=h.1
 unfold gQ at this
 rw [Bool.and_eq_true] at this
 exact this.1
theorem agE {k r c w:Int} {p:bN} {ix kd ver:Int} {s:fG} (h:nB k r c w p ix kd ver=some s):(((mC k r c w p ix kd ver).length:Nat):Int)=c∧s.dv = .tree (mC k r c w p ix kd ver).length (mC k r c w p ix kd ver).length (aQ (mC k r c w p ix kd ver)) false:=by
 unfold nB at h
 unfold mC
 split at h
 ·rename_i h1
  cases h
  rw [if_pos h1]
  exact ⟨(ad9 (aea h1)).data,amm (aea h1)⟩
 ·rename_i h1
  split at h
  ·rename_i h2
   cases h
   rw [if_neg h1,if_pos h2]
   exact ⟨(ad9 (aea h2)).data,amm (aea h2)⟩
  ·cases h
theorem amp {k r c w:Int} {p:bN} {ix kd ver:Int} (h:nB k r c w p ix kd ver=none):mC k r c w p ix kd ver=[]:=by
 unfold nB at h
 unfold mC
 split at h
 ·cases h
 ·rename_i h1
  split at h
  ·cases h
  ·rename_i h2;rw [if_neg h1,if_neg h2]
theorem asR (k r c w:Int) (p:bN) (ix kd ver:Int):(mC k r c w p ix kd ver).length=0∨(((mC k r c w p ix kd ver).length:Nat):Int)=c:=by
 cases h:nB k r c w p ix kd ver with
 | none=>left;rw [amp h];rfl
 | some s=>right;exact (agE h).1
theorem amq (k r c w:Int) (C:Nat) (hc:c=(C:Nat)) (ps:List bN) (kd ver:Int):aaU (iJ k r c w ps kd ver) C:=by
 intro b hb
 unfold iJ at hb
 split at hb
 ·obtain ⟨j,_,rfl⟩:=List.mem_map.1 hb
  rcases asR k r c w (ps.getD j ([],[])) (j:Nat) kd _ with h | h
  ·exact .inl h
  ·exact .inr (by omega)
 ·obtain ⟨j,_,rfl⟩:=List.mem_map.1 hb
  exact .inl rfl
def fE (b:List UInt8):AV:=if b.length=0 then aP else .tree b.length b.length (aQ b) false
theorem aaW (b:List UInt8):bD (fE b) b.length (b.map aU++[]):=by
 unfold fE
 split
 ·rename_i h;rw [h];exact ⟨.inl ⟨rfl,rfl⟩⟩
 ·exact ⟨.inr (.inr ⟨_,false,by rw [List.append_nil];rfl,Nat.le_refl _⟩)⟩
def fB (T:List (List UInt8)) (n:Nat):List AV:=(List.range T.length).map fun j=>if j < n then fE (T.getD j []) else aP
theorem aeb (T:List (List UInt8)) (n:Nat):(fB T n).length=T.length:=by simp [fB]
theorem aec {T:List (List UInt8)} {n j:Nat} (h:j < T.length):(fB T n)[j]? = some (if j < n then fE (T.getD j []) else aP):=by
 unfold fB
 rw [List.getElem?_map,List.getElem?_range h]
 rfl
theorem agF {T:List (List UInt8)} {n n':Nat} (h:∀ j,j < T.length→(if j < n then fE (T.getD j []) else aP)=(if j < n' then fE (T.getD j []) else aP)):fB T n=fB T n':=by
 unfold fB
 apply List.map_congr_left
 intro j hj
 exact h j (List.mem_range.1 hj)
theorem amr {T:List (List UInt8)} {i:Nat} (hi:i < T.length):cI (fB T i) i [fE (T.getD i [])]=fB T (i+1):=by
 have hl:=aeb T i
 unfold cI
 apply List.ext_getElem?
 intro j
 by_cases hj:j < T.length
 ·rw [aec hj,List.append_assoc]
  have htl:((fB T i).take i).length=i:=by rw [List.length_take,hl];omega
  by_cases h1:j < i
  ·rw [List.getElem?_append_left (by omega),List.getElem?_take_of_lt h1,aec hj,if_pos h1,if_pos (by omega)]
  ·rw [List.getElem?_append_right (by omega),htl]
   by_cases h2:j=i
   ·subst h2;rw [Nat.sub_self,if_pos (by omega)];rfl
   ·rw [List.getElem?_append_right (by simp;omega),List.getElem?_drop]
    simp only [List.length_cons,List.length_nil]
    rw [show i+(0+1)+(j - i - (0+1))=j by omega,aec hj,if_neg (by omega),if_neg (by omega)]
 ·rw [List.getElem?_eq_none (by simp [hl];omega),List.getElem?_eq_none (by rw [aeb];omega)]
theorem ams (T:List (List UInt8)) (v:AV) (hv:bD v T.length (fB T T.length)):fT v T (fB T T.length):=⟨hv,fun i b hb=>by
 have hi:=(List.getElem?_eq_some_iff.1 hb).1
 refine ⟨_,[],aec hi, ?_⟩
 rw [if_pos hi,rO hb]
 exact aaW b⟩
theorem asS (T:List (List UInt8)) (n:Nat):dX (fB T n)=true:=y5 _ fun c hc=>by
 unfold fB at hc
 obtain ⟨j,_,rfl⟩:=List.mem_map.1 hc
 split
 ·exact (aaW _).plain
 ·rfl
theorem asT (m:aH) (i N cnt:Nat) (s:fG) (hs:s.Rd) (cs:List AV) (hi:i < N) (hN:cs.length=N) (hcnt:cnt < 1000) (h0:m.at_ 0=some ⟨cs,52,.var,true⟩) (h1:m.at_ 1=some ⟨[.sl 0 0 N N true],45,.var,true⟩) (h2:m.at_ 2=some ⟨[aE (cnt:Nat)],3,.var,true⟩):gO Tryz.prog 235 [aE (i:Nat),.agg s.cells,.ptr 1 0,.ptr 2 0] m fun res m'=>res = .tup []∧m'=(m.put 0 (some ⟨cI cs i [s.dv],52,.var,true⟩)).put 2 (some ⟨[aE (cnt+1:Nat)],3,.var,true⟩):=by
 obtain ⟨⟨n1,y1,g1⟩,⟨n2,y2,g2⟩⟩:=hs
 have f1:=cA g1
 have f2:=cA g2
 have q1:=bP g1
 have q2:=bP g2
 have w1:=cF (n:=cnt) (by omega)
 have hl:i+1≤cs.length:=by omega
 obtain ⟨kd,ix,ce,st,vv,dv⟩:=s
 simp only [fG.cells] at *
 rcases g2.form with ⟨rfl,_⟩ | ⟨_,_,rfl,_⟩ | ⟨_,_,rfl,_⟩
 ·refine bJ follows Tryz.func235 (by unfold Tryz.f235;rfl) (by unfold Tryz.f235;simp) aD (by unfold Tryz.f235;simp) (by kernel_rfl) ?_;unfold Tryz.f235
  simp only [↓pre,simprocAttr,aA,sx,afM,aD,aC,aI,aJ,aK,aF,aG,Nat.one_ne_zero,Nat.reduceEqDiff,f1,f2,q1,q2,h0,h1,h2,hi,hl,w1,n9,aP,sr]
 ·refine bJ follows Tryz.func235 (by unfold Tryz.f235;rfl) (by unfold Tryz.f235;simp) aD (by unfold Tryz.f235;simp) (by kernel_rfl) ?_;unfold Tryz.f235
  simp only [↓pre,simprocAttr,aA,sx,afM,aD,aC,aI,aJ,aK,aF,aG,Nat.one_ne_zero,Nat.reduceEqDiff,f1,f2,q1,q2,h0,h1,h2,hi,hl,w1,n9,sr]
 ·refine bJ follows Tryz.func235 (by unfold Tryz.f235;rfl) (by unfold Tryz.f235;simp) aD (by unfold Tryz.f235;simp) (by kernel_rfl) ?_;unfold Tryz.f235
  simp only [↓pre,simprocAttr,aA,sx,afM,aD,aC,aI,aJ,aK,aF,aG,Nat.one_ne_zero,Nat.reduceEqDiff,f1,f2,q1,q2,h0,h1,h2,hi,hl,w1,n9,sr]
theorem agG {k r c w:Int} {ps:List bN} {kd ver:Int} {l:List Int} (hT:iE k r c w ps kd ver=some l) {i:Nat} {p:bN} (hp:ps[i]? = some p):(iJ k r c w ps kd ver).getD i []=mC k r c w p (i:Nat) kd (l.getD i 0):=by
 have hi:=(List.getElem?_eq_some_iff.1 hp).1
 unfold iJ
 rw [hT]
 simp only
 rw [List.getD_eq_getElem?_getD,List.getElem?_map,List.getElem?_range hi,Option.map_some,Option.getD_some,List.getD_eq_getElem?_getD (l:=ps),hp]
 rfl
theorem amt {k r c w:Int} {ps:List bN} {kd ver:Int} (hT:iE k r c w ps kd ver=none) (n:Nat):bV (iJ k r c w ps kd ver) n=[]:=by
 unfold bV
 rw [List.filter_eq_nil_iff]
 intro i hi
 unfold iJ
 rw [hT]
 simp only
 rw [List.getD_eq_getElem?_getD,List.getElem?_map]
 cases (List.range ps.length)[i]? <;> simp
def nD (k r c w:Int) (ps:List bN) (kd ver:Int):Mx:=aaN k.toNat ((bV (iJ k r c w ps kd ver) (k+r).toNat).take k.toNat) (f9 (iJ k r c w ps kd ver))
def iL (k r c w:Int) (ps:List bN) (kd ver:Int):Nat:=(bV (iJ k r c w ps kd ver) (k+r).toNat).length
def u9 (k r c w:Int) (ps:List bN) (kd ver:Int):AV:=if iL k r c w ps kd ver < k.toNat then .tup [aP,aE 5] else .tup [bE (k+r).toNat (eJ c.toNat (nD k r c w ps kd ver) 0 (k+r).toNat),aE 0]
def aaX:Nat→Bool:=fun d=>d != 10 && d != 11
theorem asU (k r c w kd ver:Int) (v:AV) (ps:List bN) (cells:List AV) (hv:fQ v ps cells) (hm:bL k r c w=true) (hr:dO k r c ps=true) (hk:kd=1∨kd=2):aY Tryz.prog 160 [aA k r c w,v,.val (.int .u8 kd),aE ver] ⟨u9 k r c w ps kd ver,[]⟩:=by
 refine dY ?_
 have hp:=hv.rd.plain
 have hmn:=gF hm
 have hml:=jE.1 hm
 obtain ⟨hl,hpr⟩:=uJ hr
 obtain ⟨K,hK⟩:∃ K:Nat,k=(K:Int):=⟨k.toNat,by omega⟩
 obtain ⟨R,hR⟩:∃ R:Nat,r=(R:Int):=⟨r.toNat,by omega⟩
 obtain ⟨C,hC⟩:∃ C:Nat,c=(C:Int):=⟨c.toNat,by omega⟩
 have hkr:(k+r).toNat=K+R:=by omega
 have hkn:k.toNat=K:=by omega
 have hcn:c.toNat=C:=by omega
 have hpsl:ps.length=K+R:=by omega
 have hTl:=agD k r c w ps kd ver
 have hTa:=amq k r c w C hC ps kd ver
 have hdat:∀ (l:List Int) (i:Nat) (p:bN) (s:fG),iE k r c w ps kd ver=some l→ps[i]? = some p→nB k r c w p (i:Nat) kd (l.getD i 0)=some s→s.dv=fE ((iJ k r c w ps kd ver).getD i [])∧((iJ k r c w ps kd ver).getD i []).length≠0:=fun l i p s h1 h2 h3=>by
  obtain ⟨g1,g2⟩:=agE h3
  rw [agG h1 h2]
  refine ⟨?_,by omega⟩
  unfold fE
  rw [if_neg (by omega)]
  exact g2
 have hdno:∀ (l:List Int) (i:Nat) (p:bN),iE k r c w ps kd ver=some l→ps[i]? = some p→nB k r c w p (i:Nat) kd (l.getD i 0)=none→((iJ k r c w ps kd ver).getD i []).length=0:=fun l i p h1 h2 h3=>by
  rw [agG h1 h2,amp h3]
  rfl
 have hTnone:=fun h n=>amt (k:=k) (r:=r) (c:=c) (w:=w) (ps:=ps) (kd:=kd) (ver:=ver) h n
 have heach:=fun m0 g caps nK h0 hkeep hdo hno=>asQ k r c w kd ver v ps cells hv hm hr hk m0 g caps nK h0 hkeep hdo hno
 unfold u9 iL nD
 rw [hkr,hkn,hcn]
 generalize hTT:iJ k r c w ps kd ver=T at *
 have hn:T.length=K+R:=by omega
 have hmk:=fun m=>agw m (n:=K+R) (by omega)
 generalize hres:(if (bV T (K+R)).length < K then AV.tup [aP,aE 5] else .tup [bE (K+R) (eJ C (aaN K ((bV T (K+R)).take K) (f9 T)) 0 (K+R)),aE 0])=RES
 have hfin:∀ m,fzT 1 m RES=some RES:=fun m=>by
  rw [←hres]
  split
  ·exact gS (bU _) (bU _) 1 m
  ·exact gS (kK (dH _ _)) (bU _) 1 m
 have hdec:K≤(bV T (K+R)).length→∀ av,bD av T.length (fB T T.length)→aY Tryz.prog 236 [aE (K:Nat),aE (R:Nat),av] ⟨RES,[]⟩:=fun h av hav=>by
  have:=asC av K R C T _ (ams T av hav) hn hTa (by omega) (by omega) (by omega) (by omega) (by omega) h
  rw [←hres,if_neg (by omega)]
  exact this
 replace hdat:=aB.mk hdat
 replace hdno:=aB.mk hdno
 replace hTa:=aB.mk hTa
 replace hpr:=aB.mk hpr
 replace heach:=aB.mk heach
 replace hml:=aB.mk hml
 replace hmn:=aB.mk hmn
 replace hfin:=aB.mk hfin
 replace hdec:=aB.mk hdec
 replace hTnone:=aB.mk hTnone
 refine bJ follows Tryz.func160 (by unfold Tryz.f160;rfl) (by unfold Tryz.f160;simp) aaX (by unfold Tryz.f160;simp) (by kernel_rfl) ?_;unfold Tryz.f160
 simp only [↓pre,simprocAttr,aA,sx,abH,aaX,bne,aC,aI,aJ,aK,aF,aG,aW,Nat.one_ne_zero,Nat.reduceEqDiff,Array.size_empty,List.size_toArray,hv.rd.len',hpsl,hmk,sr]
 generalize hm3:aH.put (aH.push _ _) _ _=m3
 have hb0:m3.at_ 0=some ⟨fB T 0,52,.var,true⟩:=by
  rw [←hm3]
  have:fB T 0=(List.range (K+R)).map fun _=>aP:=by unfold fB;rw [hn];apply List.map_congr_left;intro j _;rw [if_neg (by omega)]
  rw [this]
  simp [aF,aG,bX,bO,aW]
 have hb1:m3.at_ 1=some ⟨[.sl 0 0 (K+R) (K+R) true],45,.var,true⟩:=by rw [←hm3];simp [aF,aG,bX,bO,aW]
 have hb2:m3.at_ 2=some ⟨[aE (0:Nat)],3,.var,true⟩:=by rw [←hm3];simp [aF,aG,bX,bO,aW];rfl
 have hnx:2 < m3.next:=by rw [←hm3];simp [bX,bO,aW]
 refine mX (heach.out m3 235 [.ptr 1 0,.ptr 2 0] (fun i m=>m.at_ 0=some ⟨fB T i,52,.var,true⟩∧m.at_ 1=some ⟨[.sl 0 0 (K+R) (K+R) true],45,.var,true⟩∧m.at_ 2=some ⟨[aE ((bV T i).length:Nat)],3,.var,true⟩∧2 < m.next) ⟨hb0,hb1,hb2,hnx⟩ ?_ ?_ ?_) ?_
 ·rintro i m m' ⟨h1,h2,h3,h4⟩ hkp
  exact ⟨hkp.at_ 0 _ h1 (by omega),hkp.at_ 1 _ h2 (by omega),hkp.at_ 2 _ h3 (by omega),Nat.lt_of_lt_of_le h4 hkp.next⟩
 ·rintro l i p m s hTl2 hi hpi hF ⟨h1,h2,h3,h4⟩
  obtain ⟨hsR,_⟩:=amo hF
  obtain ⟨hd1,hd2⟩:=hdat.out l i p s hTl2 hpi hF
  have hle:=ad4 T i
  have hiT:i < T.length:=by omega
  refine abC (asT m i (K+R) _ s hsR _ (by omega) (by rw [aeb];omega) (by have:=hmn.out;omega) h1 h2 h3) ?_
  rintro res m' ⟨rfl,rfl⟩
  refine ⟨rfl, ?_, ?_, ?_, ?_⟩
  ·rw [aF,if_neg (by decide),aF,if_pos rfl,hd1,amr hiT]
  ·rw [aF,if_neg (by decide),aF,if_neg (by decide)]
   exact h2
  ·rw [aF,if_pos rfl,uZ,if_pos hd2,List.length_append]
   rfl
  ·exact h4
 ·rintro l i p m hTl2 hi hpi hF ⟨h1,h2,h3,h4⟩
  have hd:=hdno.out l i p hTl2 hpi hF
  refine ⟨?_,h2, ?_,h4⟩
  ·rw [h1]
   congr 2
   refine agF fun j hj => ?_
   by_cases e:j=i
   ·subst e
    rw [if_neg (by omega),if_pos (by omega)]
    unfold fE
    rw [if_pos hd]
   ·by_cases e2:j < i
    ·rw [if_pos e2,if_pos (by omega)]
    ·rw [if_neg e2,if_neg (by omega)]
  ·rw [uZ,if_neg (by omega),List.append_nil]
   exact h3
 rintro res m4 ⟨rfl,hInv⟩
 clear hm3 hb0 hb1 hb2 hnx
 by_cases hsome:(iE k r c w ps kd ver).isSome=true
 ·rw [if_pos hsome,hpsl] at hInv
  obtain ⟨h0,h1,h2,h4⟩:=hInv
  by_cases hlt:(bV T (K+R)).length < K
  ·have hlt':(((bV T (K+R)).length:Nat):Int) < k:=by omega
   rw [if_pos hlt] at hres
   subst hres
   have hf:=hfin.out
   unfold aP aE at hf
   replace hf:=aB.mk hf
   simp only [↓pre,simprocAttr,aA,sx,abH,aaX,bne,aC,aI,aJ,aK,aF,aG,aW,Nat.one_ne_zero,Nat.reduceEqDiff,Array.size_empty,List.size_toArray,h1,h2,hlt',sr]
   exact ⟨1,hf.out _⟩
  ·have hlt':¬ (((bV T (K+R)).length:Nat):Int) < k:=by omega
   have hTle:T.length=K+R:=by omega
   have hHas:mJ m4 (.sl 0 0 (K+R) (K+R) true) (K+R) (fB T (K+R)):=⟨.inr ⟨0,0,K+R,true,_,rfl,h0,.inr ⟨rfl,asS _ _⟩,rfl,Nat.le_refl _⟩⟩
   obtain ⟨av,m5,hfz,hav,_⟩:=hHas.fz
   rw [←hTle] at hav
   have hdd:=hdec.out (by omega) av hav
   rw [if_neg hlt] at hres
   subst hres
   have hfz2:fzs m4 [aE k,aE r,.sl 0 0 (K+R) (K+R) true]=some ([aE (K:Nat),aE (R:Nat),av],m5):=by rw [hK,hR];simp [fzs,fz,aE] at hfz ⊢;simp [hfz]
   have hf:=hfin.out
   simp only [aE] at hdd hfz2 hf
   replace hf:=aB.mk hf
   simp only [↓pre,simprocAttr,aA,sx,abH,aaX,bne,aC,aI,aJ,aK,aF,aG,aW,Nat.one_ne_zero,Nat.reduceEqDiff,Array.size_empty,List.size_toArray,h0,h1,h2,hlt',sr]
   refine xY hdd hfz2 ?_
   simp only [↓pre,simprocAttr,aA,sx,abH,aaX,bne,aC,aI,aJ,aK,aF,aG,aW,Nat.one_ne_zero,Nat.reduceEqDiff,Array.size_empty,List.size_toArray,bG,sr]
   exact ⟨1,hf.out _⟩
 ·rw [if_neg hsome] at hInv
  obtain ⟨h0,h1,h2,h4⟩:=hInv
  have hnone:iE k r c w ps kd ver=none:=by simpa using hsome
  have hlt:(bV T (K+R)).length < K:=by have:=hml.out;rw [hTnone.out hnone];simp;omega
  have hlt':(0:Int) < k:=by have:=hml.out;omega
  rw [if_pos hlt] at hres
  subst hres
  have hf:=hfin.out
  unfold aP aE at hf
  replace hf:=aB.mk hf
  have h2':m4.at_ 2=some ⟨[.val (.int .i64 0)],3,.var,true⟩:=h2
  simp only [↓pre,simprocAttr,aA,sx,abH,aaX,bne,aC,aI,aJ,aK,aF,aG,aW,Nat.one_ne_zero,Nat.reduceEqDiff,Array.size_empty,List.size_toArray,h1,h2',hlt',sr]
  exact ⟨1,hf.out _⟩
end Go.Proofs.YtaekhhlgnbhnpaaGreat
set_option linter.unusedVariables false
set_option linter.unusedSimpArgs false
set_option maxRecDepth 10000
namespace Go.Tw
open Go
structure amu (m:aH) (el:TypeId) (sz:Nat) (v:AV) (n:Nat) (cells:List AV):Prop where
 form:eM m el sz v n cells∨∃ b c,v = .sl b 0 0 c true∧m.at_ b=some ⟨[],el,.flat,true⟩∧b < m.next∧n=0∧cells=[]∧0 < c
theorem asV {P : Program} {el : TypeId} {m : aH} {v x : AV} {K : bS → Prop} {sz y n cnt : Nat} {zl : List Value} {cells new : List AV} (hkd : bR P el = .flat) (ho : amu m el sz v n cells) (h1 : cG P el = some sz) (h2 : j8 P el = some y) (h3 : gB P el = some zl) (h4 : zl.length = sz) (h5 : fW P el sz m x = some (new, cnt)) (h6 : new.length = cnt * sz) (h7 : (n + cnt) * y ≤ 140737488355328) (h8 : n + cnt ≤ 140737488355328) (hc : 0 < cnt)
   (hK : ∀ v' m', eM m' el sz v' (n + cnt) (cells ++ new) → m.next ≤ m'.next → K ⟨v', m', none⟩) : eL (fX P el m v x) K := by
 rcases ho.form with ho | ⟨b, c, rfl, hb, hlt, rfl, rfl, hc0⟩
 · exact qE hkd ho h1 h2 h3 h4 h5 h6 h7 h8 hK
 · by_cases ht : c < 0 + cnt
   · have : fX P el m (.sl b 0 0 c true) x = some ⟨.sl m.next 0 cnt cnt false, m.push ⟨new, el, .flat, true⟩, none⟩ := by
       simp only [fX, h1, h2, h3, h5, d6, hb, hkd, Option.bind_some]
       simp at h7 h8 ht
       simp [t7, ht, bK, h4, h7, h8, Nat.ne_of_gt hc0]
     rw [this]
     refine hK _ _ ⟨.inr ⟨m.next, by rw [Nat.zero_add], by rw [aG, if_pos rfl]; rfl, by rw [bO]; omega, by omega⟩, by simpa using h6⟩ (by rw [bO]; omega)
   · have : fX P el m (.sl b 0 0 c true) x = some ⟨.sl m.next 0 cnt cnt false, (m.put b none).push ⟨new, el, .flat, true⟩, none⟩ := by
       simp only [fX, h1, h2, h3, h5, d6, hb, hkd, Option.bind_some]
       simp at h7 h8 ht
       have ht2 : ¬ c < cnt := by omega
       simp [t7, ht2, bK, h4, h7, h8, Nat.ne_of_gt hc0, hb]
     rw [this]
     refine hK _ _ ⟨.inr ⟨m.next, by rw [Nat.zero_add], by rw [aG, if_pos (by rw [bX])]; rfl, by rw [bO, bX]; omega, by omega⟩, by simpa using h6⟩ (by rw [bO, bX]; omega)
end Go.Tw
namespace Go.Proofs.YtaekhhlgnbhnpaaGreat
open Go Go.Tw Go.Proofs Go.Gf
theorem asW {kd ver:Int} (hk:kd=1∨kd=2) (hv:gV ver=true):ace kd ver=0:=by unfold ace;rw [if_pos ⟨hk,hv⟩]
theorem asX {k r c w:Int} {ps:List bN} (hm:bL k r c w=true) (hr:dO k r c ps=true):xB k r c w ps=0:=by unfold xB;rw [hm,hr];rfl
theorem asY {k r c w:Int} {ps:List bN} {kd ver:Int} (hm:bL k r c w=true) (hr:dO k r c ps=true) (hk:kd=1∨kd=2) (hv:gV ver=true):ad8 k r c w ps kd ver=0:=by
 unfold ad8;rw [asX hm hr,if_pos rfl,asW hk hv]
theorem asZ (k r c w:Int) (ps:List bN) (kd ver:Int):∃ a e,u9 k r c w ps kd ver = .tup [a,aE e]∧(∀ n,shift n a=a)∧eG a:=by
 unfold u9
 split
 ·exact ⟨_,_,rfl,fun n=>rfl,bU _⟩
 ·exact ⟨_,_,rfl,fun n=>abA,kK (dH _ _)⟩
theorem as0 (k r c w kd ver:Int) (v:AV) (ps:List bN) (cells:List AV) (hv:fQ v ps cells) (hm:bL k r c w=true) (hr:dO k r c ps=true) (hk:kd=1∨kd=2) (hver:gV ver=true):aY Tryz.prog 165 [aA k r c w,v,.val (.int .u8 kd),aE ver] ⟨u9 k r c w ps kd ver,[]⟩:=by
 refine dY ?_
 have hp:=hv.rd.plain
 have h1:=asK k r c w v ps cells hv kd ver
 rw [asY hm hr hk hver] at h1
 have h2:=asU k r c w kd ver v ps cells hv hm hr hk
 obtain ⟨a,e,he,hsh,hid⟩:=asZ k r c w ps kd ver
 rw [he] at h2 ⊢
 have hf:=fun m=>gS hid (bU (.int .i64 e)) 1 m
 replace hf:=aB.mk hf
 refine bJ follows Tryz.func165 (by unfold Tryz.f165;rfl) (by unfold Tryz.f165;simp) aD (by unfold Tryz.f165;simp) (by kernel_rfl) ?_;unfold Tryz.f165
 simp only [↓pre,simprocAttr,aA,sx,afG,aD,aC]
 refine aL (h1) (by simp only [aA,aO, *]) ?_;simp only [↓pre,simprocAttr,aA,sx,afG,aD,aC,eq_self,hsh];refine aL (h2) (by simp only [aA,aO, *]) ?_;simp only [↓pre,simprocAttr,aA,sx,afG,aD,aC,eq_self,hsh]
 exact ⟨1,hf.out _⟩
def lP (k r c w:Int) (ps:List bN) (kd ver:Int) (n:Nat):List UInt8:=(List.range n).flatMap fun i=>tab c.toNat (nD k r c w ps kd ver i)
theorem agH (k r c w:Int) (ps:List bN) (kd ver:Int) (n:Nat):lP k r c w ps kd ver (n+1)=lP k r c w ps kd ver n++tab c.toNat (nD k r c w ps kd ver n):=by
 unfold lP
 rw [List.range_succ,List.flatMap_append]
 simp
theorem vA (k r c w:Int) (ps:List bN) (kd ver:Int):∀ n,(lP k r c w ps kd ver n).length=n*c.toNat
 | 0=>by simp [lP]
 | n+1=>by rw [agH,List.length_append,vA k r c w ps kd ver n,pL,Nat.add_mul,Nat.one_mul]
def pO (k r c w:Int) (ps:List bN) (kd ver:Int):AV:=if iL k r c w ps kd ver < k.toNat then .tup [aP,aE 5] else .tup [bE (k.toNat*c.toNat) (aQ (lP k r c w ps kd ver k.toNat)),aE 0]
theorem agI (k r c w kd ver:Int) (v:AV) (ps:List bN) (cells:List AV) (hv:fQ v ps cells) (hm:bL k r c w=true) (hr:dO k r c ps=true) (hk:kd=1∨kd=2) (hver:gV ver=true):aY Tryz.prog 91 [aA k r c w,v,.val (.int .u8 kd),aE ver] ⟨pO k r c w ps kd ver,[]⟩:=by
 refine dY ?_
 have hp:=hv.rd.plain
 have h1:=as0 k r c w kd ver v ps cells hv hm hr hk hver
 have hml:=jE.1 hm
 have hw:=gU hm
 unfold pO
 unfold u9 at h1
 by_cases hlt:iL k r c w ps kd ver < k.toNat
 ·rw [if_pos hlt] at h1 ⊢
  have hf:=fun m=>gS (bU (.slice none 0 0)) (bU (.int .i64 5)) 1 m
  replace hf:=aB.mk hf
  simp only [aP] at h1
  refine bJ follows Tryz.func91 (by unfold Tryz.f91;rfl) (by unfold Tryz.f91;simp) aD (by unfold Tryz.f91;simp) (by kernel_rfl) ?_;unfold Tryz.f91
  simp only [↓pre,simprocAttr,aA,sx,x7,aD,aC,aP,sr]
  refine aL (h1) (by simp only [aA,aO, *]) ?_;simp only [↓pre,simprocAttr,aA,sx,x7,aD,aC,aP,sr]
  exact ⟨1,hf.out _⟩
 ·rw [if_neg hlt] at h1 ⊢
  obtain ⟨K,hK⟩:∃ K:Nat,k=(K:Int):=⟨k.toNat,by omega⟩
  obtain ⟨C,hC⟩:∃ C:Nat,c=(C:Int):=⟨c.toNat,by omega⟩
  have hkn:k.toNat=K:=by omega
  have hcn:c.toNat=C:=by omega
  have hR1:K≤(k+r).toNat:=by omega
  rw [hkn,hcn]
  rw [hcn] at h1
  have hrd:=dH (k+r).toNat (eJ C (nD k r c w ps kd ver) 0 (k+r).toNat)
  have hds:=agH k r c w ps kd ver
  have hdl:=vA k r c w ps kd ver
  rw [hcn] at hds hdl
  have hcat:=fun i (h:i < (k+r).toNat)=>ad6 (L:=C) (F:=nD k r c w ps kd ver) (a:=0) h
  have hKC:k*c=((K*C:Nat):Int):=by rw [hK,hC];simp
  have hKC2:K*C≤768:=by omega
  have hKC3:32≤K*C:=by omega
  have wkc:IntKind.i64.wrap (k*c)=((K*C:Nat):Int):=by rw [hKC];exact dE (by omega)
  have hmk:∀ m,qT Tryz.prog m 52 0 (K*C)=some ⟨.sl m.next 0 0 (K*C) true,m.push ⟨[],5,.flat,true⟩,none⟩:=fun m=>by
   have h1:bZ Tryz.prog 52=some 5:=by kernel_rfl
   have h2:cG Tryz.prog 5=some 1:=by kernel_rfl
   have h3:j8 Tryz.prog 5=some 1:=by kernel_rfl
   have h4:bR Tryz.prog 5 = .flat:=by kernel_rfl
   have hz:=agv h2 (x := .int .u8 0) (by kernel_rfl) (K*C)
   simp only [qT,h1,h2,h3,h4,hz,bK,Option.bind_some,Nat.mul_one]
   rw [if_pos (by omega)]
   rfl
  generalize nD k r c w ps kd ver=W at *
  generalize lP k r c w ps kd ver=D at *
  have hD0:D 0=[]:=List.eq_nil_of_length_eq_zero (by rw [hdl];omega)
  replace hds:=aB.mk hds
  replace hdl:=aB.mk hdl
  replace hcat:=aB.mk hcat
  replace hlt:=aB.mk hlt
  replace hKC:=aB.mk hKC
  replace hml:=aB.mk hml
  replace hw:=aB.mk hw
  refine bJ follows Tryz.func91 (by unfold Tryz.f91;rfl) (by unfold Tryz.f91;simp) aD (by unfold Tryz.f91;simp) (by kernel_rfl) ?_;unfold Tryz.f91
  simp only [↓pre,simprocAttr,aA,sx,x7,aD,aC,aI,bG,sr]
  refine aL (h1) (by simp only [aA,aO, *]) ?_;simp only [↓pre,simprocAttr,aA,sx,x7,aD,aC,aI,bG,wkc,hmk,sr]
  rw [b7]
  refine b8 (fun q e m=>∃ i lv,q+i=K∧e 10=bE (k+r).toNat (eJ C W 0 (k+r).toNat)∧e 12=lv∧e 32=aE (K:Nat)∧e 33=aE (i:Nat)∧aB (amu m 5 1 lv (i*C) (aQ (D i))∧(i=0∨eM m 5 1 lv (i*C) (aQ (D i)))) ) K ⟨0,_,by omega,rfl,rfl,by simp [bI.set,aE,hK],rfl,⟨⟨.inr ⟨_,K*C,rfl,by rw [aG,if_pos rfl],by rw [bO];omega,by omega,by rw [hD0];rfl,by omega⟩⟩,.inl rfl⟩⟩ ?_
  rintro q e m ⟨i,lv,hq,e10,e12,e32,e33,hJ⟩
  replace hq:=aB.mk hq
  by_cases hlt2:i < K
  ·have hlt2':((i:Nat):Int) < ((K:Nat):Int):=by omega
   have wi:=cF (n:=i) (by have:=hml.out;omega)
   have hin:i < (k+r).toNat:=by omega
   have hca:=hcat.out i hin
   rw [Nat.zero_add] at hca
   have hiC:i*C+C≤768:=by
    have:(i+1)*C≤K*C:=Nat.mul_le_mul_right _ (by omega)
    rw [Nat.add_mul,Nat.one_mul] at this
    omega
   have hC8:8≤C:=by have:=hml.out;omega
   have hsrc:∀ m:aH,fW Tryz.prog 5 1 m (.tree C C (aZ C (W i)) true)=some (aZ C (W i),C):=fun m=>by
    rw [aby (by rw [eE];omega),Nat.mul_one,List.take_of_length_le (by rw [eE];omega)]
   simp only [↓pre,simprocAttr,aA,sx,x7,aD,aC,aI,bG,e10,e12,e32,e33,hlt2',hin,hca,sr]
   refine asV (sz:=1) (y:=1) (zl:=[.int .u8 0]) (by kernel_rfl) hJ.out.1 (by kernel_rfl) (by kernel_rfl) (by kernel_rfl) rfl (hsrc m) (by rw [eE];omega) (by omega) (by omega) (by omega) ?_
   intro lv' m' ho' hn'
   simp only [↓pre,simprocAttr,aA,sx,x7,aD,aC,aI,bG,e10,e12,e32,e33,wi,sr]
   have hb:aQ (D (i+1))=aQ (D i)++aZ C (W i):=by rw [hds.out];unfold aQ aZ;rw [List.map_append]
   have hm':(i+1)*C=i*C+C:=by rw [Nat.add_mul,Nat.one_mul]
   refine ⟨q - 1,by have:=hq.out;omega,i+1,lv',by have:=hq.out;omega,rfl,rfl,⟨⟨.inl ?_⟩,.inr ?_⟩⟩
   ·rw [hb,hm'];exact ho'
   ·rw [hb,hm'];exact ho'
  ·have hlt2':¬ ((i:Nat):Int) < ((K:Nat):Int):=by omega
   have hi:i=K:=by have:=hq.out;omega
   subst hi
   have hown:=hJ.out.2.resolve_left (by have:=hml.out;omega)
   simp only [↓pre,simprocAttr,aA,sx,x7,aD,aC,aI,bG,e10,e12,e32,e33,hlt2',sr]
   exact ⟨0,by rw [kC,dT,yY hown,Option.bind_some,dT,fP,jC];rfl⟩
end Go.Proofs.YtaekhhlgnbhnpaaGreat
namespace Go.Proofs.YtaekhhlgnbhnpaaGreat
open Go Go.Tw Go.Proofs Go.Gf
theorem as1 {P:Program} {t:TypeId} {x y:Operand} {k yk:IntKind} {a:Int} {n:Nat}:dP P .shr t x y (.val (.int k a)) (.val (.int yk ((n:Nat):Int)))=some (.val (.int k (a / 2 ^ min n k.bits))):=by
 have h1:¬ (((n:Nat):Int) < 0):=by omega
 have h2:((n:Nat):Int).toNat=n:=rfl
 have h3:a.fdiv (2 ^ min n k.bits)=a / 2 ^ min n k.bits:=Int.fdiv_eq_ediv_of_nonneg _ (Int.le_of_lt (Int.pow_pos (by decide)))
 simp only [dP,qA,eqGuard,binOp,Op.shift,h1,h2,cN,Bind.bind,Sem.bind,Pure.pure,if_false,h3]
 simp [cN,Sem.bind]
def cO (n:Int):Nat→List UInt8
 | 0=>[]
 | c+1=>UInt8.ofNat (n / 2 ^ (8*c)).toNat::cO n c
theorem j7 (n:Int):∀ c,(cO n c).length=c
 | 0=>rfl
 | c+1=>by simp [cO,j7 n c]
theorem aed (m0:aH) (lv:AV) (cs:List AV) (n:Int) (c:Nat) (ho:eM m0 5 1 lv cs.length cs) (hn:0≤n) (hn2:n≤1073741824) (hc:c≤4) (hl:cs.length≤100000):gO Tryz.prog 192 [lv,aE n,aE (c:Nat)] m0 fun r m'=>r=(iZ 5 m0 lv cs (aQ (cO n c))).2∧m'=(iZ 5 m0 lv cs (aQ (cO n c))).1:=by
 have w0:IntKind.i64.wrap ((c:Int) - 1)=(c:Int) - 1:=dU (by omega) (by omega)
 refine bJ follows Tryz.func192 (by unfold Tryz.f192;rfl) (by unfold Tryz.f192;simp) aD (by unfold Tryz.f192;simp) (by kernel_rfl) ?_;unfold Tryz.f192
 simp only [↓pre,simprocAttr,aA,sx,afK,aD,aC,aI,aM,w0,sr]
 rw [b7]
 refine b8 (fun q e m=>∃ (c':Nat) (ys:List UInt8),q=c'∧c'≤c∧aB (ys++cO n c'=cO n c)∧e 0=(iZ 5 m0 lv cs (aQ ys)).2∧e 1=aE n∧e 7=aE ((c':Int) - 1)∧m=(iZ 5 m0 lv cs (aQ ys)).1) c ⟨c,[],rfl,Nat.le_refl _,⟨rfl⟩,rfl,rfl,rfl,rfl⟩ ?_
 rintro q e m ⟨c',ys,rfl,hcc,hys,e0,e1,e7,hmm⟩
 replace hcc:=aB.mk hcc
 cases q with
 | zero =>
  have hno:¬ (0:Int)≤((0:Nat):Int) - 1:=by omega
  have hy:=hys.out
  simp only [cO,List.append_nil] at hy
  subst hy
  simp only [↓pre,simprocAttr,aA,sx,afK,aD,aC,aI,aM,e0,e1,e7,hno,sr]
  exact hmm
 | succ d =>
  have hyes:(0:Int)≤((d+1:Nat):Int) - 1:=by omega
  have hd:((d+1:Nat):Int) - 1=(d:Nat):=by omega
  have w1:IntKind.i64.wrap (8*((d:Nat):Int))=((8*d:Nat):Int):=by rw [show 8*((d:Nat):Int)=((8*d:Nat):Int) by simp];exact dE (by have:=hcc.out;omega)
  have w2:IntKind.i64.wrap (((d:Nat):Int) - 1)=((d:Nat):Int) - 1:=dU (by omega) (by have:=hcc.out;omega)
  have hmin:min (8*d) IntKind.i64.bits=8*d:=by have:=hcc.out;have:IntKind.i64.bits=64:=rfl;omega
  have hpos:0≤n / 2 ^ (8*d):=Int.ediv_nonneg hn (Int.le_of_lt (Int.pow_pos (by decide)))
  have wu:IntKind.u8.wrap (n / 2 ^ (8*d))=((UInt8.ofNat (n / 2 ^ (8*d)).toNat).toNat:Int):=by
   have:=ac9 (n / 2 ^ (8*d)).toNat
   rw [Int.toNat_of_nonneg hpos] at this
   exact this
  have hown:=uN (aQ ys) m0 lv cs ho
  rw [←hmm,←e0] at hown
  have hyl:(aQ ys).length≤4:=by
   have h9:=congrArg List.length hys.out
   rw [List.length_append,j7,j7] at h9
   simp [aQ]
   omega
  have happ:=apQ (P:=Tryz.prog) (x := .tree 1 1 [.val (.int .u8 (UInt8.ofNat (n / 2 ^ (8*d)).toNat).toNat)] true) (y := .val (.int .u8 (UInt8.ofNat (n / 2 ^ (8*d)).toNat).toNat)) (yb:=1) (zl:=[.int .u8 0]) (by kernel_rfl) hown (by kernel_rfl) (by kernel_rfl) (by kernel_rfl) rfl mH (by omega) (by omega)
  have hga:=aj9 (el:=5) (aQ ys) [.val (.int .u8 (UInt8.ofNat (n / 2 ^ (8*d)).toNat).toNat)] m0 lv cs
  rw [←hmm,←e0] at hga
  simp only [iZ] at hga
  generalize hv0:e 0=v0 at *
  rw [hd] at e7
  replace hyl:=aB.mk hyl
  replace hown:=aB.mk hown
  replace hga:=aB.mk hga
  replace hmm:=aB.mk hmm
  replace e0:=aB.mk e0
  replace hpos:=aB.mk hpos
  have hyes2:(0:Int)≤((d:Nat):Int):=by omega
  simp only [↓pre,simprocAttr,aA,sx,afK,aD,aC,aI,aM,hv0,e1,e7,hyes2,w1,w2,as1,hmin,wu,happ,sr]
  refine ⟨d,by omega,d,ys++[UInt8.ofNat (n / 2 ^ (8*d)).toNat],rfl,by have:=hcc.out;omega,⟨by rw [List.append_assoc];exact hys.out⟩, ?_,rfl, ?_⟩
  ·unfold aQ at hga ⊢
   rw [List.map_append,List.map_cons,List.map_nil]
   exact (congrArg Prod.snd hga.out).symm
  ·unfold aQ at hga ⊢
   rw [List.map_append,List.map_cons,List.map_nil]
   exact (congrArg Prod.fst hga.out).symm
abbrev b9:=Int×Int
def bW (l:List b9):List AV:=l.flatMap fun x=>[aE x.1,aE x.2]
theorem xC (l:List b9):(bW l).length=l.length*2:=by
 induction l with
 | nil=>rfl
 | cons a l ih=>simp only [bW,List.flatMap_cons,List.length_append,List.length_cons,List.length_nil] at ih ⊢;omega
theorem aee (a b:List b9):bW (a++b)=bW a++bW b:=by simp [bW]
theorem vB:∀ (l:List b9) (x:List AV) (i:Nat) (a:b9),l[i]? = some a→(bW l++x)[i*2]? = some (aE a.1)∧(bW l++x)[i*2+1]? = some (aE a.2)
 | [],x,i,a,h=>by simp at h
 | b::l,x,0,a,h=>by simp at h;subst h;exact ⟨rfl,rfl⟩
 | b::l,x,i+1,a,h=>by
  have ih:=vB l x i a (by simpa using h)
  have e:bW (b::l)=aE b.1::aE b.2::bW l:=rfl
  rw [e,show (i+1)*2=i*2+1+1 by omega]
  simpa using ih
def qM (v:AV) (l:List b9):Prop:=∃ x,bD v l.length (bW l++x)
def dN (l:List b9):List UInt8:=l.flatMap fun x=>cO x.1 2++cO x.2 4
theorem pP (l:List b9):(dN l).length=l.length*6:=by
 induction l with
 | nil=>rfl
 | cons a l ih=>simp only [dN,List.flatMap_cons,List.length_append,j7,List.length_cons] at ih ⊢;omega
theorem pQ (a b:List UInt8):aQ (a++b)=aQ a++aQ b:=by unfold aQ;rw [List.map_append]
theorem gH (a:List UInt8):(aQ a).length=a.length:=by simp [aQ]
def y7 (m:aH):aH:=(m.push ⟨[.val (.int .i64 0),.val (.int .i64 0)],67,.hole,true⟩).put m.next none
theorem agJ {m:aH} {el:TypeId} {sz n:Nat} {v:AV} {cs:List AV} (h:eM m el sz v n cs):eM (y7 m) el sz v n cs:=h.pp _ _
def pS:aH→AV→List AV→List b9→aH×AV
 | m,v,_,[]=>(m,v)
 | m,v,cs,x::xs=>pS (iZ 5 (iZ 5 (y7 m) v cs (aQ (cO x.1 2))).1 (iZ 5 (y7 m) v cs (aQ (cO x.1 2))).2 (cs++aQ (cO x.1 2)) (aQ (cO x.2 4))).1
  (iZ 5 (iZ 5 (y7 m) v cs (aQ (cO x.1 2))).1 (iZ 5 (y7 m) v cs (aQ (cO x.1 2))).2 (cs++aQ (cO x.1 2)) (aQ (cO x.2 4))).2 (cs++aQ (cO x.1 2)++aQ (cO x.2 4)) xs
theorem agK:∀ (l:List b9) (m:aH) (v:AV) (cs:List AV),eM m 5 1 v cs.length cs→eM (pS m v cs l).1 5 1 (pS m v cs l).2 (cs.length+(dN l).length) (cs++aQ (dN l))
 | [],m,v,cs,h=>by simpa [pS,dN,aQ] using h
 | x::xs,m,v,cs,h=>by
  rw [pS]
  have h1:=uN (aQ (cO x.1 2)) _ _ cs (agJ h)
  rw [←List.length_append] at h1
  have h2:=uN (aQ (cO x.2 4)) _ _ _ h1
  rw [←List.length_append] at h2
  have h3:=agK xs _ _ _ h2
  have e:dN (x::xs)=cO x.1 2++(cO x.2 4++dN xs):=by simp [dN]
  have hlen:cs.length+(dN (x::xs)).length=(cs++aQ (cO x.1 2)++aQ (cO x.2 4)).length+(dN xs).length:=by rw [e];simp [gH];omega
  have hcs:cs++aQ (dN (x::xs))=cs++aQ (cO x.1 2)++aQ (cO x.2 4)++aQ (dN xs):=by rw [e,pQ,pQ,←List.append_assoc,←List.append_assoc]
  rw [hlen,hcs]
  exact h3
theorem amv (m0:aH) (lv:AV) (cs:List AV) (v:AV) (l:List b9) (hv:qM v l) (ho:eM m0 5 1 lv cs.length cs) (hl:∀ x∈l,(0≤x.1∧x.1≤1073741824)∧0≤x.2∧x.2≤1073741824) (hn:l.length≤1000) (hc:cs.length≤1000):gO Tryz.prog 194 [lv,v] m0 fun r m'=>r=(pS m0 lv cs l).2∧m'=(pS m0 lv cs l).1:=by
 obtain ⟨x,hv⟩:=hv
 replace hl:=aB.mk hl
 generalize hG:pS m0 lv cs l=G
 replace hG:=aB.mk hG
 have hG0:pS m0 lv (cs++aQ (dN (l.take 0))) (l.drop 0)=G:=by simpa [dN,aQ] using hG.out
 have ho0:eM m0 5 1 lv (cs++aQ (dN (l.take 0))).length (cs++aQ (dN (l.take 0))):=by simpa [dN,aQ] using ho
 have htd:=fun m v cs n c a b d e f=>aed m v cs n c a b d e f
 replace htd:=aB.mk htd
 refine bJ follows Tryz.func194 (by unfold Tryz.f194;rfl) (by unfold Tryz.f194;simp) aD (by unfold Tryz.f194;simp) (by kernel_rfl) ?_;unfold Tryz.f194
 simp only [↓pre,simprocAttr,aA,sx,abK,aD,aC,aI,aM,aJ,aK,aF,aG,hv.len',sr]
 rw [b7]
 refine b8 (fun q e m=>∃ i,q+i=l.length∧e 7=v∧e 8=aE (l.length:Nat)∧e 9=aE (i:Nat)∧aB (pS m (e 0) (cs++aQ (dN (l.take i))) (l.drop i)=G∧eM m 5 1 (e 0) (cs++aQ (dN (l.take i))).length (cs++aQ (dN (l.take i))))) l.length ⟨0,by omega,rfl,rfl,rfl,⟨hG0,ho0⟩⟩ ?_
 rintro q e m ⟨i,hq,e7,e8,e9,hJ⟩
 replace hq:=aB.mk hq
 obtain ⟨hGG,hown⟩:=hJ.out
 generalize hv0:e 0=v0 at *
 by_cases hlt:i < l.length
 ·have hlt':((i:Nat):Int) < ((l.length:Nat):Int):=by omega
  have wi:=cF (n:=i) (by omega)
  obtain ⟨y,hy⟩:∃ y,l[i]? = some y:=⟨_,List.getElem?_eq_getElem hlt⟩
  obtain ⟨ha,hb⟩:=vB l x i y hy
  obtain ⟨ht,htl⟩:=qI ha hb
  have hyl:=hl.out y (List.mem_of_getElem? hy)
  have hdrop:l.drop i=y::l.drop (i+1):=by
   rw [List.drop_eq_getElem_cons hlt]
   congr 1
   rw [List.getElem?_eq_getElem hlt] at hy
   exact Option.some.inj hy
  have htake:dN (l.take (i+1))=dN (l.take i)++(cO y.1 2++cO y.2 4):=by
   rw [List.take_add_one,hy]
   simp [dN]
  have hcl:(cs++aQ (dN (l.take i))).length≤7000:=by
   rw [List.length_append,gH,pP,List.length_take]
   omega
  rw [hdrop,pS] at hGG
  have h1:=htd.out (y7 m) v0 (cs++aQ (dN (l.take i))) y.1 2 (agJ hown) hyl.1.1 hyl.1.2 (by omega) (by omega)
  have hown2:=uN (aQ (cO y.1 2)) _ _ _ (agJ hown)
  rw [←List.length_append] at hown2
  have h2:=htd.out _ _ _ y.2 4 hown2 hyl.2.1 hyl.2.2 (by omega) (by rw [List.length_append,gH,j7];omega)
  have hown3:=uN (aQ (cO y.2 4)) _ _ _ hown2
  rw [←List.length_append] at hown3
  rw [show cs++aQ (dN (l.take i))++aQ (cO y.1 2)++aQ (cO y.2 4)=cs++aQ (dN (l.take (i+1))) by rw [htake,pQ,pQ,List.append_assoc,List.append_assoc]] at hGG hown3
  replace hy:=aB.mk hy
  replace hdrop:=aB.mk hdrop
  replace htake:=aB.mk htake
  replace hGG:=aB.mk hGG
  replace hown:=aB.mk hown
  replace hown2:=aB.mk hown2
  replace hown3:=aB.mk hown3
  have hhop:(m.push ⟨[.val (.int .i64 0),.val (.int .i64 0)],67,.hole,true⟩).put m.next none=y7 m:=rfl
  simp only [aE] at h1 h2
  simp only [↓pre,simprocAttr,aA,sx,abK,aD,aC,aI,aM,aJ,aK,aF,aG,hv0,e7,e8,e9,hlt',hv.addr',hlt,ht,htl,aE,hhop,sr]
  refine mX h1 ?_
  rintro res m2 ⟨rfl,rfl⟩
  simp only [↓pre,simprocAttr,aA,sx,abK,aD,aC,aI,aM,aJ,aK,aF,aG,hv0,e7,e8,e9,sr]
  refine mX h2 ?_
  rintro res m3 ⟨rfl,rfl⟩
  simp only [↓pre,simprocAttr,aA,sx,abK,aD,aC,aI,aM,aJ,aK,aF,aG,hv0,e7,e8,e9,wi,sr]
  exact ⟨q - 1,by have:=hq.out;omega,i+1,by have:=hq.out;omega,rfl,⟨hGG.out,hown3.out⟩⟩
 ·have hlt':¬ ((i:Nat):Int) < ((l.length:Nat):Int):=by omega
  have hi:i=l.length:=by have:=hq.out;omega
  rw [List.drop_of_length_le (by omega),pS] at hGG
  have hg:=hG.out
  subst hGG
  simp only [↓pre,simprocAttr,aA,sx,abK,aD,aC,aI,aM,aJ,aK,aF,aG,hv0,e7,e8,e9,hlt',sr]
def i9 (w:Int) (x:b9):Bool:=decide ((0≤x.1∧x.1 < w)∧1≤x.2∧x.2≤1073741824)
def jQ (w:Int) (l:List b9):Bool:=l.all (i9 w)
theorem amw (k r c w:Int) (v:AV) (l:List b9) (hv:qM v l) (hn:l.length≤9223372036854775807):aY Tryz.prog 251 [aA k r c w,v] ⟨bC (jQ w l),[]⟩:=by
 obtain ⟨x,hv⟩:=hv
 have hp:=hv.plain
 generalize hres:jQ w l=B
 replace hres:=aB.mk hres
 refine bB follows Tryz.func251 (by unfold Tryz.f251;rfl) (by unfold Tryz.f251;simp) aD (by unfold Tryz.f251;simp) (by kernel_rfl) ?_;unfold Tryz.f251
 simp only [↓pre,simprocAttr,aA,sx,yE,aD,aC,aI,aJ,aK,aF,aG,hv.len',sr]
 rw [b7]
 refine b8 (fun q e m=>∃ i,q+i=l.length∧e 2 = .tptr 0 [aE k,aE r,aE c,aE w]∧e 7=v∧e 8=aE (l.length:Nat)∧e 9=aE (i:Nat)∧aB (∀ j y,j < i→l[j]? = some y→i9 w y=true)) l.length ⟨0,by omega,rfl,rfl,rfl,rfl,⟨fun j y h=>by omega⟩⟩ ?_
 rintro q e m ⟨i,hq,e2,e7,e8,e9,hJ⟩
 replace hq:=aB.mk hq
 by_cases hlt:i < l.length
 ·have hlt':((i:Nat):Int) < ((l.length:Nat):Int):=by omega
  have wi:=cF (n:=i) (by omega)
  obtain ⟨y,hy⟩:∃ y,l[i]? = some y:=⟨_,List.getElem?_eq_getElem hlt⟩
  obtain ⟨ha,hb⟩:=vB l x i y hy
  obtain ⟨ht,htl⟩:=qI ha hb
  have hbad:i9 w y=false→B=false:=fun h=>by
   rw [←hres.out]
   unfold jQ
   rw [List.all_eq_false]
   exact ⟨y,List.mem_of_getElem? hy,by rw [h];decide⟩
  have hgood:i9 w y=true→∃ n',n' < q∧n'+(i+1)=l.length∧∀ j y,j < i+1→l[j]? = some y→i9 w y=true:=fun h=>⟨q - 1,by have:=hq.out;omega,by have:=hq.out;omega,fun j y' hj hy'=>by
   by_cases e:j=i
   ·subst e;rw [hy] at hy';cases hy';exact h
   ·exact hJ.out j y' (by omega) hy'⟩
  have hd:i9 w y=decide ((0≤y.1∧y.1 < w)∧1≤y.2∧y.2≤1073741824):=rfl
  replace hy:=aB.mk hy
  replace hbad:=aB.mk hbad
  replace hgood:=aB.mk hgood
  replace hd:=aB.mk hd
  simp only [aE] at ht
  by_cases k1:y.1 < 0
  ·have hB:=hbad.out (by rw [hd.out];simp;omega)
   subst hB
   simp only [↓pre,simprocAttr,aA,sx,yE,aD,aC,aI,aJ,aK,aF,aG,e2,e7,e8,e9,hlt',hv.addr',hlt,ht,htl,k1,sr]
  ·by_cases k2:w≤y.1
   ·have hB:=hbad.out (by rw [hd.out];simp;omega)
    subst hB
    simp only [↓pre,simprocAttr,aA,sx,yE,aD,aC,aI,aJ,aK,aF,aG,e2,e7,e8,e9,hlt',hv.addr',hlt,ht,htl,k1,k2,sr]
   ·by_cases k3:y.2 < 1
    ·have hB:=hbad.out (by rw [hd.out];simp;omega)
     subst hB
     simp only [↓pre,simprocAttr,aA,sx,yE,aD,aC,aI,aJ,aK,aF,aG,e2,e7,e8,e9,hlt',hv.addr',hlt,ht,htl,k1,k2,k3,sr]
    ·by_cases k4:(1073741824:Int) < y.2
     ·have hB:=hbad.out (by rw [hd.out];simp;omega)
      subst hB
      simp only [↓pre,simprocAttr,aA,sx,yE,aD,aC,aI,aJ,aK,aF,aG,e2,e7,e8,e9,hlt',hv.addr',hlt,ht,htl,k1,k2,k3,k4,sr]
     ·obtain ⟨n',h1,h2,h3⟩:=hgood.out (by rw [hd.out];simp;omega)
      simp only [↓pre,simprocAttr,aA,sx,yE,aD,aC,aI,aJ,aK,aF,aG,e2,e7,e8,e9,hlt',hv.addr',hlt,ht,htl,k1,k2,k3,k4,wi,sr]
      exact ⟨n',h1,i+1,h2,rfl,⟨h3⟩⟩
 ·have hlt':¬ ((i:Nat):Int) < ((l.length:Nat):Int):=by omega
  have hB:B=true:=by
   rw [←hres.out]
   unfold jQ
   rw [List.all_eq_true]
   intro y hy
   obtain ⟨j,hj⟩:=List.getElem?_of_mem hy
   have:=(List.getElem?_eq_some_iff.1 hj).1
   exact hJ.out j y (by omega) hj
  subst hB
  simp only [↓pre,simprocAttr,aA,sx,yE,aD,aC,aI,aJ,aK,aF,aG,e2,e7,e8,e9,hlt',sr]
def qN (k r c w len dep:Int) (l:List b9):Bool:=decide (oE k r c w len=0) && (decide (min (oF k r c w len) 1=dep) && (decide ((l.length:Int)=(if dep=1 then oF k r c w len else oS k r c w len)) && jQ w l))
def lE (k r c w len dep:Int) (l:List b9):Int:=if bL k r c w=true then (if qN k r c w len dep l=true then 0 else 150) else 2
theorem acf {k r c w n:Int} (hm:bL k r c w=true):0≤oF k r c w n:=by
 unfold oF
 split
 ·rename_i h
  unfold oE at h
  rw [hm,if_pos rfl] at h
  split at h
  ·omega
  ·split at h
   ·omega
   ·unfold fI
    split
    ·omega
    ·have hw:=gU hm
     have hb:=aaD (a:=n) (b:=wI k c) (by omega) (by have:=aaE k c;omega) (by unfold wI;omega) (by unfold wI;omega)
     have hl:=rF hw.1 hw.2
     have h2:0≤sI k c n:=hb.1
     unfold gD lI
     refine Int.ediv_nonneg ?_ ?_ <;> omega
 ·omega
theorem as2 (k r c w len dep:Int) (v:AV) (l:List b9) (hv:qM v l) (hn:l.length≤9223372036854775807):aY Tryz.prog 191 [aA k r c w,.agg [aE len,aE dep,v]] ⟨aE (lE k r c w len dep l),[]⟩:=by
 have h1:=adF k r c w
 have h2:=aqe k r c w len
 have h3:=aqd k r c w len
 have h4:=akZ k r c w len
 have h5:=amw k r c w v l hv hn
 obtain ⟨x,hv⟩:=hv
 have hp:=hv.plain
 have f1:=cA hv
 have o1:=bP hv
 generalize hres:lE k r c w len dep l=E
 unfold lE at hres
 cases hm:bL k r c w with
 | false =>
  rw [hm] at h1 hres
  subst hres
  simp only [Bool.false_eq_true,if_false] at h1
  refine bB follows Tryz.func191 (by unfold Tryz.f191;rfl) (by unfold Tryz.f191;simp) aD (by unfold Tryz.f191;simp) (by kernel_rfl) ?_;unfold Tryz.f191
  simp only [↓pre,simprocAttr,aA,sx,fZ,aD,aC,aI,f1,o1,sr]
  refine aL (h1) (by rfl) ?_;simp only [↓pre,simprocAttr,aA,sx,fZ,aD,aC,aI,f1,o1,sr]
 | true =>
  have hF0:=acf (n:=len) hm
  rw [hm] at h1 hres
  simp only [if_true] at h1 hres
  unfold qN at hres
  generalize oE k r c w len=e1 at *
  generalize oF k r c w len=f at *
  generalize oS k r c w len=s at *
  generalize jQ w l=B at *
  by_cases k1:e1=0
  ·subst k1
   by_cases k2:min f 1=dep
   ·rw [decide_eq_true k2] at hres
    by_cases kd:dep=1
    ·subst kd
     by_cases k3:f=(l.length:Int)
     ·rw [if_pos rfl,k3] at hres
      have hk2:min (l.length:Int) 1=1:=by omega
      cases B with
      | true =>
       simp only [decide_true,Bool.and_self,if_true] at hres
       subst hres
       refine bB follows Tryz.func191 (by unfold Tryz.f191;rfl) (by unfold Tryz.f191;simp) aD (by unfold Tryz.f191;simp) (by kernel_rfl) ?_;unfold Tryz.f191
       simp only [↓pre,simprocAttr,aA,sx,fZ,aD,aC,aI,f1,o1,sr]
       refine aL (h1) (by rfl) ?_;simp only [↓pre,simprocAttr,aA,sx,fZ,aD,aC,aI,f1,o1,k2,k3,hv.len',hk2,sr];refine aL (h2) (by rfl) ?_;simp only [↓pre,simprocAttr,aA,sx,fZ,aD,aC,aI,f1,o1,k2,k3,hv.len',hk2,sr];refine aL (h3) (by rfl) ?_;simp only [↓pre,simprocAttr,aA,sx,fZ,aD,aC,aI,f1,o1,k2,k3,hv.len',hk2,sr];refine aL (h5) (by simp only [aA,aO, *]) ?_;simp only [↓pre,simprocAttr,aA,sx,fZ,aD,aC,aI,f1,o1,k2,k3,hv.len',hk2,sr]
      | false =>
       simp only [decide_true,Bool.and_false,Bool.false_eq_true,if_false] at hres
       subst hres
       refine bB follows Tryz.func191 (by unfold Tryz.f191;rfl) (by unfold Tryz.f191;simp) aD (by unfold Tryz.f191;simp) (by kernel_rfl) ?_;unfold Tryz.f191
       simp only [↓pre,simprocAttr,aA,sx,fZ,aD,aC,aI,f1,o1,sr]
       refine aL (h1) (by rfl) ?_;simp only [↓pre,simprocAttr,aA,sx,fZ,aD,aC,aI,f1,o1,k2,k3,hv.len',hk2,sr];refine aL (h2) (by rfl) ?_;simp only [↓pre,simprocAttr,aA,sx,fZ,aD,aC,aI,f1,o1,k2,k3,hv.len',hk2,sr];refine aL (h3) (by rfl) ?_;simp only [↓pre,simprocAttr,aA,sx,fZ,aD,aC,aI,f1,o1,k2,k3,hv.len',hk2,sr];refine aL (h5) (by simp only [aA,aO, *]) ?_;simp only [↓pre,simprocAttr,aA,sx,fZ,aD,aC,aI,f1,o1,k2,k3,hv.len',hk2,sr]
     ·have k3':¬ (l.length:Int)=f:=fun h=>k3 h.symm
      rw [if_pos rfl,decide_eq_false k3'] at hres
      simp only [Bool.false_and,Bool.and_false,Bool.false_eq_true,if_false] at hres
      subst hres
      refine bB follows Tryz.func191 (by unfold Tryz.f191;rfl) (by unfold Tryz.f191;simp) aD (by unfold Tryz.f191;simp) (by kernel_rfl) ?_;unfold Tryz.f191
      simp only [↓pre,simprocAttr,aA,sx,fZ,aD,aC,aI,f1,o1,sr]
      refine aL (h1) (by rfl) ?_;simp only [↓pre,simprocAttr,aA,sx,fZ,aD,aC,aI,f1,o1,k2,k3,hv.len',sr];refine aL (h2) (by rfl) ?_;simp only [↓pre,simprocAttr,aA,sx,fZ,aD,aC,aI,f1,o1,k2,k3,hv.len',sr];refine aL (h3) (by rfl) ?_;simp only [↓pre,simprocAttr,aA,sx,fZ,aD,aC,aI,f1,o1,k2,k3,hv.len',sr]
    ·have hd0:dep=0:=by omega
     subst hd0
     rw [if_neg (show ¬ (0:Int)=1 by decide)] at hres
     by_cases k3:s=(l.length:Int)
     ·rw [k3] at hres
      cases B with
      | true =>
       simp only [decide_true,Bool.and_self,if_true] at hres
       subst hres
       refine bB follows Tryz.func191 (by unfold Tryz.f191;rfl) (by unfold Tryz.f191;simp) aD (by unfold Tryz.f191;simp) (by kernel_rfl) ?_;unfold Tryz.f191
       simp only [↓pre,simprocAttr,aA,sx,fZ,aD,aC,aI,f1,o1,sr]
       refine aL (h1) (by rfl) ?_;simp only [↓pre,simprocAttr,aA,sx,fZ,aD,aC,aI,f1,o1,k2,k3,hv.len',sr];refine aL (h2) (by rfl) ?_;simp only [↓pre,simprocAttr,aA,sx,fZ,aD,aC,aI,f1,o1,k2,k3,hv.len',sr];refine aL (h4) (by rfl) ?_;simp only [↓pre,simprocAttr,aA,sx,fZ,aD,aC,aI,f1,o1,k2,k3,hv.len',sr];refine aL (h5) (by simp only [aA,aO, *]) ?_;simp only [↓pre,simprocAttr,aA,sx,fZ,aD,aC,aI,f1,o1,k2,k3,hv.len',sr]
      | false =>
       simp only [decide_true,Bool.and_false,Bool.false_eq_true,if_false] at hres
       subst hres
       refine bB follows Tryz.func191 (by unfold Tryz.f191;rfl) (by unfold Tryz.f191;simp) aD (by unfold Tryz.f191;simp) (by kernel_rfl) ?_;unfold Tryz.f191
       simp only [↓pre,simprocAttr,aA,sx,fZ,aD,aC,aI,f1,o1,sr]
       refine aL (h1) (by rfl) ?_;simp only [↓pre,simprocAttr,aA,sx,fZ,aD,aC,aI,f1,o1,k2,k3,hv.len',sr];refine aL (h2) (by rfl) ?_;simp only [↓pre,simprocAttr,aA,sx,fZ,aD,aC,aI,f1,o1,k2,k3,hv.len',sr];refine aL (h4) (by rfl) ?_;simp only [↓pre,simprocAttr,aA,sx,fZ,aD,aC,aI,f1,o1,k2,k3,hv.len',sr];refine aL (h5) (by simp only [aA,aO, *]) ?_;simp only [↓pre,simprocAttr,aA,sx,fZ,aD,aC,aI,f1,o1,k2,k3,hv.len',sr]
     ·have k3':¬ (l.length:Int)=s:=fun h=>k3 h.symm
      rw [decide_eq_false k3'] at hres
      simp only [Bool.false_and,Bool.and_false,Bool.false_eq_true,if_false] at hres
      subst hres
      refine bB follows Tryz.func191 (by unfold Tryz.f191;rfl) (by unfold Tryz.f191;simp) aD (by unfold Tryz.f191;simp) (by kernel_rfl) ?_;unfold Tryz.f191
      simp only [↓pre,simprocAttr,aA,sx,fZ,aD,aC,aI,f1,o1,sr]
      refine aL (h1) (by rfl) ?_;simp only [↓pre,simprocAttr,aA,sx,fZ,aD,aC,aI,f1,o1,k2,k3,hv.len',sr];refine aL (h2) (by rfl) ?_;simp only [↓pre,simprocAttr,aA,sx,fZ,aD,aC,aI,f1,o1,k2,k3,hv.len',sr];refine aL (h4) (by rfl) ?_;simp only [↓pre,simprocAttr,aA,sx,fZ,aD,aC,aI,f1,o1,k2,k3,hv.len',sr]
   ·rw [decide_eq_false k2] at hres
    simp only [Bool.false_and,Bool.and_false,Bool.false_eq_true,if_false] at hres
    subst hres
    refine bB follows Tryz.func191 (by unfold Tryz.f191;rfl) (by unfold Tryz.f191;simp) aD (by unfold Tryz.f191;simp) (by kernel_rfl) ?_;unfold Tryz.f191
    simp only [↓pre,simprocAttr,aA,sx,fZ,aD,aC,aI,f1,o1,sr]
    refine aL (h1) (by rfl) ?_;simp only [↓pre,simprocAttr,aA,sx,fZ,aD,aC,aI,f1,o1,k2,sr];refine aL (h2) (by rfl) ?_;simp only [↓pre,simprocAttr,aA,sx,fZ,aD,aC,aI,f1,o1,k2,sr]
  ·rw [decide_eq_false k1] at hres
   simp only [Bool.false_and,Bool.false_eq_true,if_false] at hres
   subst hres
   refine bB follows Tryz.func191 (by unfold Tryz.f191;rfl) (by unfold Tryz.f191;simp) aD (by unfold Tryz.f191;simp) (by kernel_rfl) ?_;unfold Tryz.f191
   simp only [↓pre,simprocAttr,aA,sx,fZ,aD,aC,aI,f1,o1,sr]
   refine aL (h1) (by rfl) ?_;simp only [↓pre,simprocAttr,aA,sx,fZ,aD,aC,aI,f1,o1,k1,sr];refine aL (h2) (by rfl) ?_;simp only [↓pre,simprocAttr,aA,sx,fZ,aD,aC,aI,f1,o1,k1,sr]
theorem jR {P:Program} {m:aH} {t t2 ty:TypeId} {d x:AV}:qV P m #[t,t2] ty [d,x] .copy=(bZ P t).bind fun el=>o5 P el m d x:=rfl
def pU (bs:List UInt8) (W:Nat):List UInt8:=bs++List.replicate (W - bs.length) 0
theorem aef {bs:List UInt8} {W:Nat} (h:bs.length≤W):(pU bs W).length=W:=by simp [pU];omega
theorem amx (W:Nat):aZ W (fun _=>0)=aQ (List.replicate W 0):=by
 unfold aZ tab aQ
 congr 1
 apply List.ext_getElem
 ·simp
 ·intro i h1 h2;simp
theorem amy (k r c w:Int) (hm:bL k r c w=true) (m0:aH) (lv:AV) (bs:List UInt8) (ho:eM m0 5 1 lv bs.length (aQ bs)) (hl:bs.length≤(wI k c).toNat):gO Tryz.prog 193 [aA k r c w,lv] m0 fun res m'=>res = .tup [.sl m0.next 0 (wI k c).toNat (wI k c).toNat true,aE 0]∧m'=m0.push ⟨aQ (pU bs (wI k c).toNat),5,.flat,true⟩:=by
 have hw:=afW k r c w
 have hwb:=gU hm
 simp only [hm,if_true] at hw
 obtain ⟨W,hW⟩:∃ W:Nat,wI k c=(W:Int):=⟨(wI k c).toNat,by unfold wI;omega⟩
 have hWn:(wI k c).toNat=W:=by omega
 have hW8:W≤768:=by unfold wI at hW;omega
 rw [hWn] at hl ⊢
 rw [hW] at hw
 have hmk:=fun m=>qK m (n:=W) (by omega)
 have hown:=ho.push (x:=⟨aZ W fun _=>0,5,.flat,true⟩)
 have hsrc:=amg (P:=Tryz.prog) (el':=5) (kd := .flat) hown (by kernel_rfl)
 have hcp:o5 Tryz.prog 5 (m0.push ⟨aZ W fun _=>0,5,.flat,true⟩) (.sl m0.next 0 W W true) lv=some ⟨aE (bs.length:Nat),m0.push ⟨aQ (pU bs W),5,.flat,true⟩,none⟩:=by
  have h2:cG Tryz.prog 5=some 1:=by kernel_rfl
  have h4:bR Tryz.prog 5 = .flat:=by kernel_rfl
  have hb:(m0.push ⟨aZ W fun _=>0,5,.flat,true⟩).at_ m0.next=some ⟨aZ W fun _=>0,5,.flat,true⟩:=by rw [aG,if_pos rfl]
  simp only [o5,h2,hsrc,hb,Option.bind_some,h4]
  rw [if_pos ⟨trivial,trivial,by rw [eE];omega⟩,agy rfl]
  have hmin:min bs.length W=bs.length:=by omega
  rw [hmin,Nat.mul_one,List.take_of_length_le (by rw [gH];omega),amx]
  congr 4
  unfold pU cI
  rw [pQ,gH,List.take_zero,List.nil_append,Nat.zero_add]
  congr 1
  unfold aQ
  rw [←List.map_drop,List.drop_replicate]
 refine bJ follows Tryz.func193 (by unfold Tryz.f193;rfl) (by unfold Tryz.f193;simp) aD (by unfold Tryz.f193;simp) (by kernel_rfl) ?_;unfold Tryz.f193
 simp only [↓pre,simprocAttr,aA,sx,akG,aD,aC,sr]
 refine aL (hw) (by rfl) ?_;simp only [↓pre,simprocAttr,aA,sx,akG,aD,aC,hmk,jR,hcp,sr]
def nP (len dep:Int) (n:Nat):List UInt8:=cO len 4++(cO dep 1++cO (n:Nat) 2)
def lQ (k c len dep:Int) (l:List b9):List UInt8:=pU (nP len dep l.length++dN l) (wI k c).toNat
def agL (k r c w len dep:Int) (l:List b9):AV:=if lE k r c w len dep l=0 then .tup [.tree (wI k c).toNat (wI k c).toNat (aQ (lQ k c len dep l)) true,aE 0] else .tup [aP,aE (lE k r c w len dep l)]
theorem acg {k r c w len dep:Int} {l:List b9} (h:lE k r c w len dep l=0):bL k r c w=true∧qN k r c w len dep l=true:=by
 unfold lE at h
 split at h
 ·rename_i h1
  split at h
  ·rename_i h2;exact ⟨h1,h2⟩
  ·omega
 ·omega
theorem amz {a b d:Int} (hb:0 < b) (h:a≤d*b):gD a b≤d:=by
 unfold gD
 have:a+b - 1 < (d+1)*b:=by rw [Int.add_mul,Int.one_mul];omega
 have:=Int.ediv_lt_of_lt_mul hb this
 omega
theorem y8 {k r c w len dep:Int} {l:List b9} (h:lE k r c w len dep l=0):0≤len∧len≤32768∧(dep=0∨dep=1)∧(l.length:Int)≤dI k c∧(∀ x∈l,(0≤x.1∧x.1 < w)∧1≤x.2∧x.2≤1073741824):=by
 obtain ⟨hm,hd⟩:=acg h
 unfold qN at hd
 simp only [Bool.and_eq_true,decide_eq_true_eq] at hd
 obtain ⟨h1,h2,h3,h4⟩:=hd
 have hF0:=acf (n:=len) hm
 have hml:=aaE k c
 have hw:=gU hm
 have hl0:0≤len∧len≤mI k c:=by
  unfold oE at h1
  rw [hm,if_pos rfl] at h1
  split at h1
  ·omega
  ·split at h1
   ·omega
   ·omega
 have hrf:∀ x∈l,(0≤x.1∧x.1 < w)∧1≤x.2∧x.2≤1073741824:=fun x hx=>by
  have:=List.all_eq_true.1 h4 x hx
  unfold i9 at this
  exact of_decide_eq_true this
 refine ⟨hl0.1,by omega,by omega, ?_,hrf⟩
 rw [h3]
 have hdb:=wP hw.1 hw.2
 have hlb:=rF hw.1 hw.2
 have hmd:len≤dI k c*lI k c*(k*c):=by unfold mI at hl0;omega
 unfold oF oS at *
 rw [h1,if_pos rfl] at *
 have hs:sI k c len≤dI k c*lI k c:=amz (by unfold wI;omega) (by unfold wI;omega)
 by_cases hf:sI k c len≤dI k c
 ·have:fI k c len=0:=by unfold fI;rw [if_pos hf]
  rw [this] at h2 ⊢
  have hd0:dep=0:=by omega
  rw [if_neg (by omega)]
  exact hf
 ·have hfi:fI k c len=gD (sI k c len) (lI k c):=by unfold fI;rw [if_neg hf]
  have hle:gD (sI k c len) (lI k c)≤dI k c:=amz (by unfold lI;omega) hs
  split
  ·rw [hfi];exact hle
  ·rename_i hd1
   exfalso
   have hpos:1≤gD (sI k c len) (lI k c):=by
    unfold gD
    have h9:1*lI k c≤sI k c len+lI k c - 1:=by unfold dI at hf;omega
    exact (Int.le_ediv_iff_mul_le (by unfold lI;omega)).2 h9
   rw [hfi] at h2
   omega
def xD:Nat→Bool:=fun d=>d != 30 && d != 31
theorem as3 (k r c w len dep:Int) (v:AV) (l:List b9) (hv:qM v l) (hn:l.length≤9223372036854775807):aY Tryz.prog 109 [aA k r c w,.agg [aE len,aE dep,v]] ⟨agL k r c w len dep l,[]⟩:=by
 refine dY ?_
 have h1:=as2 k r c w len dep v l hv hn
 unfold agL
 by_cases hc:lE k r c w len dep l=0
 ·rw [if_pos hc]
  rw [hc] at h1
  obtain ⟨hlen0,hlen1,hdep,hll,hlr⟩:=y8 hc
  obtain ⟨hm,_⟩:=acg hc
  have hw:=gU hm
  have hdb:=wP hw.1 hw.2
  have hl126:l.length≤126:=by unfold dI at hll;omega
  have ho0:eM aH.empty 5 1 aP ([]:List AV).length []:=gT
  have t1:=aed aH.empty aP [] len 4 ho0 hlen0 (by omega) (by omega) (by simp)
  have o1:=uN (aQ (cO len 4)) _ _ _ ho0
  rw [←List.length_append] at o1
  have t2:=aed _ _ _ dep 1 o1 (by omega) (by omega) (by omega) (by rw [List.length_append,gH,j7];simp)
  have o2:=uN (aQ (cO dep 1)) _ _ _ o1
  rw [←List.length_append] at o2
  have t3:=aed _ _ _ (l.length:Nat) 2 o2 (by omega) (by omega) (by omega) (by rw [List.length_append,List.length_append,gH,j7,gH,j7];simp)
  have o3:=uN (aQ (cO (l.length:Nat) 2)) _ _ _ o2
  rw [←List.length_append] at o3
  have t4:=amv _ _ _ v l hv o3 (fun x hx=>by have:=hlr x hx;have:=jE.1 hm;omega) (by omega) (by rw [List.length_append,List.length_append,List.length_append,gH,j7,gH,j7,gH,j7];simp)
  have o4:=agK l _ _ _ o3
  have hcs:(([]:List AV)++aQ (cO len 4)++aQ (cO dep 1)++aQ (cO (l.length:Nat) 2))++aQ (dN l)=aQ (nP len dep l.length++dN l):=by
   unfold nP
   simp only [pQ,List.nil_append,List.append_assoc]
  have hcl:(([]:List AV)++aQ (cO len 4)++aQ (cO dep 1)++aQ (cO (l.length:Nat) 2)).length+(dN l).length=(nP len dep l.length++dN l).length:=by
   unfold nP
   simp [gH,j7]
   omega
  rw [hcs,hcl] at o4
  have hfit:(nP len dep l.length++dN l).length≤(wI k c).toNat:=by
   unfold nP
   simp only [List.length_append,j7,pP]
   unfold dI at hll
   unfold wI
   omega
  have t5:=amy k r c w hm _ _ _ o4 hfit
  obtain ⟨x,hv⟩:=hv
  have f1:=cA hv
  have q1:=bP hv
  have hp:=hv.plain
  replace hlr:=aB.mk hlr
  replace hfit:=aB.mk hfit
  replace o4:=aB.mk o4
  replace hcs:=aB.mk hcs
  replace hcl:=aB.mk hcl
  replace o1:=aB.mk o1
  replace o2:=aB.mk o2
  replace o3:=aB.mk o3
  generalize iZ 5 aH.empty aP [] (aQ (cO len 4))=G1 at *
  generalize iZ 5 G1.1 G1.2 ([]++aQ (cO len 4)) (aQ (cO dep 1))=G2 at *
  generalize iZ 5 G2.1 G2.2 ([]++aQ (cO len 4)++aQ (cO dep 1)) (aQ (cO (l.length:Nat) 2))=G3 at *
  generalize pS G3.1 G3.2 ([]++aQ (cO len 4)++aQ (cO dep 1)++aQ (cO (l.length:Nat) 2)) l=G4 at *
  have n4:(((4:Nat):Nat):Int)=4:=rfl
  have n1:(((1:Nat):Nat):Int)=1:=rfl
  have n2:(((2:Nat):Nat):Int)=2:=rfl
  rw [n4] at t1
  rw [n1] at t2
  rw [n2] at t3
  simp only [aE,aP] at t1 t2 t3 t4 t5
  refine bJ follows Tryz.func109 (by unfold Tryz.f109;rfl) (by unfold Tryz.f109;simp) xD (by unfold Tryz.f109;simp) (by kernel_rfl) ?_;unfold Tryz.f109
  simp only [↓pre,simprocAttr,aA,sx,uP,xD,bne,aC,f1,q1,sr]
  refine aL (h1) (by simp only [aA,aO, *]) ?_;simp only [↓pre,simprocAttr,aA,sx,uP,xD,bne,aC,f1,q1,sr]
  refine qF t1 ?_
  simp only [↓pre,simprocAttr,aA,sx,uP,xD,bne,aC,f1,q1,sr]
  refine qF t2 ?_
  simp only [↓pre,simprocAttr,aA,sx,uP,xD,bne,aC,f1,q1,hv.len',sr]
  refine qF t3 ?_
  simp only [↓pre,simprocAttr,aA,sx,uP,xD,bne,aC,f1,q1,sr]
  refine qF t4 ?_
  refine cU (by kernel_rfl) ?_
  simp only [↓pre,simprocAttr,aA,sx,uP,xD,bne,aC,f1,q1,sr]
  refine qF t5 ?_
  refine cU (by kernel_rfl) ?_
  simp only [↓pre,simprocAttr,aA,sx,uP,xD,bne,aC,f1,q1,sr]
  refine ⟨0, ?_⟩
  rw [kC,dT,sJ (by rw [aG,if_pos rfl]),Option.bind_some,dT,fP,jC,List.drop_zero]
  rfl
 ·rw [if_neg hc]
  obtain ⟨x,hv⟩:=hv
  have f1:=cA hv
  have q1:=bP hv
  have hp:=hv.plain
  have hf:=fun m=>gS (bU (.slice none 0 0)) (bU (.int .i64 (lE k r c w len dep l))) 1 m
  replace hf:=aB.mk hf
  refine bJ follows Tryz.func109 (by unfold Tryz.f109;rfl) (by unfold Tryz.f109;simp) aD (by unfold Tryz.f109;simp) (by kernel_rfl) ?_;unfold Tryz.f109
  simp only [↓pre,simprocAttr,aA,sx,uP,aD,aC,f1,q1]
  refine aL (h1) (by simp only [aA,aO, *]) ?_;simp only [↓pre,simprocAttr,aA,sx,uP,aD,aC,hc,aP]
  exact ⟨1,hf.out _⟩
theorem ach (v:AV) (n:Nat) (bs:List UInt8) (x:List AV) (hv:bD v n (aQ bs++x)) (hn:n≤bs.length) (hn4:n≤4):aY Tryz.prog 167 [v] ⟨aE (dL (bs.take n):Nat),[]⟩:=by
 have hp:=hv.plain
 refine bB follows Tryz.func167 (by unfold Tryz.f167;rfl) (by unfold Tryz.f167;simp) aD (by unfold Tryz.f167;simp) (by kernel_rfl) ?_;unfold Tryz.f167
 simp only [↓pre,simprocAttr,aA,sx,afH,aD,aC,aM,cV,hv.len']
 rw [b7]
 refine b8 (fun q e m=>∃ i,q+i=n∧e 6=v∧e 7=aE (n:Nat)∧e 8=aE (i:Nat)∧e 3=aE (dL (bs.take i):Nat)) n ⟨0,by omega,rfl,rfl,rfl,by simp [bI.set,aE,dL]⟩ ?_
 rintro q e m ⟨i,hi,e6,e7,e8,e3⟩
 replace hi:=aB.mk hi
 by_cases hlt:i < n
 ·have hlt':((i:Nat):Int) < ((n:Nat):Int):=by omega
  obtain ⟨a,ha⟩:∃ a,bs[i]? = some a:=⟨_,List.getElem?_eq_getElem (by omega)⟩
  have a1:=lL (x:=x) ha
  have a2:=adJ ha
  have hle:=yL i bs
  have ha256:=a.toNat_lt
  have w1:=cF (n:=i) (by omega)
  have hpow:256 ^ i≤256 ^ 3:=Nat.pow_le_pow_right (by decide) (by omega)
  have h3:256 ^ 3=16777216:=by decide
  have w5:IntKind.i64.wrap (a.toNat:Int)=(a.toNat:Int):=dE (by omega)
  have w7:IntKind.i64.wrap (((dL (bs.take i):Nat):Int)*2 ^ min 8 IntKind.i64.bits)=((dL (bs.take i)*256:Nat):Int):=by
   rw [show (((dL (bs.take i):Nat):Int)*2 ^ min 8 IntKind.i64.bits)=((dL (bs.take i)*256:Nat):Int) by simp [IntKind.bits]]
   exact dE (by omega)
  have w8:z7 .i64 ((dL (bs.take i)*256:Nat):Int) (a.toNat:Int)=((dL (bs.take i)*256+a.toNat:Nat):Int):=by
   rw [ajQ (by omega) (by omega),ajR (by omega)]
  replace hle:=aB.mk hle
  replace hpow:=aB.mk hpow
  replace ha256:=aB.mk ha256
  replace a2:=aB.mk a2
  simp only [↓pre,simprocAttr,aA,sx,afH,aD,aC,aM,cV,e6,e7,e8,e3,hlt',hv.addr',hlt,Nat.mul_one,a1,w1,w5,dC,cS]
  exact ⟨q - 1,by have:=hi.out;omega,i+1,by have:=hi.out;omega,rfl,by rw [w7,w8,a2.out]⟩
 ·have hlt':¬ ((i:Nat):Int) < ((n:Nat):Int):=by omega
  have hi4:i=n:=by have:=hi.out;omega
  subst hi4
  simp only [↓pre,simprocAttr,aA,sx,afH,aD,aC,e6,e7,e8,e3,hlt',dC,cS]
def aeg (bs:List UInt8) (i:Nat):b9:=((dL ((bs.drop (6*i)).take 2):Nat),(dL ((bs.drop (6*i+2)).take 4):Nat))
def dQ (bs:List UInt8) (n:Nat):List b9:=(List.range n).map (aeg bs)
theorem aci (bs:List UInt8) (n:Nat):(dQ bs n).length=n:=by simp [dQ]
theorem amA (bs:List UInt8) (n:Nat):dQ bs (n+1)=dQ bs n++[aeg bs n]:=by unfold dQ;rw [List.range_succ,List.map_append];rfl
theorem amB (v:AV) (bs:List UInt8) (x:List AV) (n:Nat) (hv:bD v bs.length (aQ bs++x)) (hn:6*n≤bs.length) (hb:bs.length≤100000):aY Tryz.prog 168 [v,aE (n:Nat)] ⟨bE n (bW (dQ bs n)),[]⟩:=by
 refine dY ?_
 have nt2:jB (.val (.int .i64 2))=some 2:=rfl
 have nt6:jB (.val (.int .i64 6))=some 6:=rfl
 refine bJ follows Tryz.func168 (by unfold Tryz.f168;rfl) (by unfold Tryz.f168;simp) aD (by unfold Tryz.f168;simp) (by kernel_rfl) ?_;unfold Tryz.f168
 simp only [↓pre,simprocAttr,aA,sx,aat,aD,aC,aM,a8,Option.map_none,Option.map_some,nt2,nt6,sr]
 rw [b7]
 refine b8 (fun q e m=>∃ i u,q+i=n∧e 0=u∧e 6=aE (n:Nat)∧e 7=aE (i:Nat)∧bD u (bs.drop (6*i)).length (aQ (bs.drop (6*i))++x)∧aB (eM m 67 2 (e 5) i (bW (dQ bs i)))) n ⟨0,v,by omega,rfl,rfl,rfl,by simpa using hv,⟨gT⟩⟩ ?_
 rintro q e m ⟨i,u,hq,e0,e6,e7,hu,hJ⟩
 replace hq:=aB.mk hq
 generalize hv0:e 5=v0 at *
 by_cases hlt:i < n
 ·have hlt':((i:Nat):Int) < ((n:Nat):Int):=by omega
  have w1:=cF (n:=i) (by omega)
  have hdl:(bs.drop (6*i)).length=bs.length - 6*i:=List.length_drop
  obtain ⟨v1,s1,r1⟩:=hu.slice (P:=Tryz.prog) (t:=52) (sz:=1) (lo:=none) (hi:=some 2) (by kernel_rfl) (by simp) (by simp only [Option.getD_some];omega)
  obtain ⟨v2,s2,r2⟩:=hu.slice (P:=Tryz.prog) (t:=52) (sz:=1) (lo:=some 2) (hi:=some 6) (by kernel_rfl) (by simp) (by simp only [Option.getD_some];omega)
  obtain ⟨v3,s3,r3⟩:=hu.slice (P:=Tryz.prog) (t:=52) (sz:=1) (lo:=some 6) (hi:=none) (by kernel_rfl) (by simp only [Option.getD_some,Option.getD_none];omega) (by simp)
  simp only [Option.getD_some,Option.getD_none,Nat.mul_one,Nat.sub_zero,List.drop_zero] at r1 r2 r3
  rw [rG _ x 2 (by omega),List.drop_drop] at r2
  rw [rG _ x 6 (by omega),List.drop_drop,show (bs.drop (6*i)).length - 6=(bs.drop (6*i+6)).length by rw [List.length_drop,List.length_drop];omega] at r3
  have c1:=ach v1 2 (bs.drop (6*i)) x r1 (by omega) (by omega)
  have c2:=ach v2 4 (bs.drop (6*i+2)) x r2 (by rw [List.length_drop];omega) (by omega)
  have hpu:=hu.slOk (P:=Tryz.prog) (m:=m) (t:=52)
  have pl1:=r1.plain
  have pl2:=r2.plain
  have hso:=amA bs i
  have href:aeg bs i=(((dL ((bs.drop (6*i)).take 2):Nat):Int),((dL ((bs.drop (6*i+2)).take 4):Nat):Int)):=rfl
  generalize dL ((bs.drop (6*i)).take 2)=b1 at *
  generalize dL ((bs.drop (6*i+2)).take 4)=b2 at *
  replace hso:=aB.mk hso
  replace href:=aB.mk href
  replace r1:=aB.mk r1
  replace r2:=aB.mk r2
  replace r3:=aB.mk r3
  replace hdl:=aB.mk hdl
  have hbt:∀ m,fV Tryz.prog m 31 1 [(0,.agg [.val (.int .i64 (b1:Nat)),.val (.int .i64 (b2:Nat))])]=some ⟨.tree 1 1 [.val (.int .i64 (b1:Nat)),.val (.int .i64 (b2:Nat))] true,m,none⟩:=fun m=>ajL rfl rfl (by kernel_rfl) (by kernel_rfl)
  simp only [↓pre,simprocAttr,aA,sx,aat,aD,aC,aM,a8,Option.map_none,Option.map_some,nt2,nt6,hv0,e0,e6,e7,hlt',hu.slOk,hu.sliceX,s1,s2,sr]
  (refine bM (c1) (by simp only [aA,aO, *]) (by intro k;rfl) ?_);simp only [↓pre,simprocAttr,aA,sx,aat,aD,aC,aM,a8,Option.map_none,Option.map_some,nt2,nt6,hv0,e0,e6,e7,hu.slOk,hu.sliceX,s1,s2,hbt,sr];(refine bM (c2) (by simp only [aA,aO, *]) (by intro k;rfl) ?_);simp only [↓pre,simprocAttr,aA,sx,aat,aD,aC,aM,a8,Option.map_none,Option.map_some,nt2,nt6,hv0,e0,e6,e7,hu.slOk,hu.sliceX,s1,s2,hbt,sr]
  refine qE (sz:=2) (y:=16) (zl:=[.int .i64 0,.int .i64 0]) (by kernel_rfl) hJ.out (by kernel_rfl) (by kernel_rfl) (by kernel_rfl) rfl abz rfl (by omega) (by omega) ?_
  intro lv' m' ho' hn'
  refine cU (by kernel_rfl) ?_
  simp only [↓pre,simprocAttr,aA,sx,aat,aD,aC,aM,a8,Option.map_none,Option.map_some,nt2,nt6,hv0,e0,e6,e7,hu.slOk,hu.sliceX,s3,w1,sr]
  refine ⟨q - 1,by have:=hq.out;omega,i+1,v3,by have:=hq.out;omega,rfl,rfl,by rw [show 6*(i+1)=6*i+6 by omega];exact r3.out,⟨?_⟩⟩
  rw [hso.out,aee,href.out]
  exact ho'
 ·have hlt':¬ ((i:Nat):Int) < ((n:Nat):Int):=by omega
  have hi:i=n:=by have:=hq.out;omega
  subst hi
  simp only [↓pre,simprocAttr,aA,sx,aat,aD,aC,aM,a8,Option.map_none,Option.map_some,nt2,nt6,hv0,e0,e6,e7,hlt',sr]
  exact ⟨0,yY hJ.out 0⟩
theorem amC (k r c w:Int) (v:AV) (n:Nat) (cs:List AV) (hv:bD v n cs):aY Tryz.prog 166 [aA k r c w,v] ⟨aE (if bL k r c w=true then (if (n:Int)=wI k c then 0 else 20) else 2),[]⟩:=by
 have h1:=afW k r c w
 have hp:=hv.plain
 cases hm:bL k r c w with
 | false =>
  simp only [hm,Bool.false_eq_true,if_false] at h1 ⊢
  refine bB follows Tryz.func166 (by unfold Tryz.f166;rfl) (by unfold Tryz.f166;simp) aD (by unfold Tryz.f166;simp) (by kernel_rfl) ?_;unfold Tryz.f166
  simp only [↓pre,simprocAttr,aA,sx,aas,aD,aC,lW,lX]
  refine aL (h1) (by rfl) ?_;simp only [↓pre,simprocAttr,aA,sx,aas,aD,aC,sr]
 | true =>
  simp only [hm,if_true] at h1 ⊢
  by_cases hl:(n:Int)=wI k c
  ·rw [if_pos hl]
   refine bB follows Tryz.func166 (by unfold Tryz.f166;rfl) (by unfold Tryz.f166;simp) aD (by unfold Tryz.f166;simp) (by kernel_rfl) ?_;unfold Tryz.f166
   simp only [↓pre,simprocAttr,aA,sx,aas,aD,aC,lW,lX]
   refine aL (h1) (by rfl) ?_;simp only [↓pre,simprocAttr,aA,sx,aas,aD,aC,hv.len',hl,sr]
  ·rw [if_neg hl]
   refine bB follows Tryz.func166 (by unfold Tryz.f166;rfl) (by unfold Tryz.f166;simp) aD (by unfold Tryz.f166;simp) (by kernel_rfl) ?_;unfold Tryz.f166
   simp only [↓pre,simprocAttr,aA,sx,aas,aD,aC,lW,lX]
   refine aL (h1) (by rfl) ?_;simp only [↓pre,simprocAttr,aA,sx,aas,aD,aC,hv.len',hl,sr]
def eqB (a b:List UInt8):Bool:=decide ((⟨a.toArray⟩:ByteArray)=⟨b.toArray⟩)
theorem agM (a b:List UInt8):eqB a b=decide (a=b):=by
 unfold eqB
 by_cases h:a=b
 ·subst h;simp
 ·rw [decide_eq_false h,decide_eq_false]
  intro h2
  apply h
  have:=congrArg (fun x:ByteArray=>x.data.toList) h2
  simpa using this
theorem amD (u v:AV) (a b:List UInt8) (x y:List AV) (hu:bD u a.length (aQ a++x)) (hv:bD v b.length (aQ b++y)):aY Tryz.prog 169 [u,v] ⟨bC (decide (a=b)),[]⟩:=by
 rw [←agM]
 have s1:=fun (d c:Bool) (m:aH)=>rI (d:=d) (c:=c) (m:=m) hu
 have s2:=fun (d c:Bool) (m:aH)=>rI (d:=d) (c:=c) (m:=m) hv
 refine bB follows Tryz.func169 (by unfold Tryz.f169;rfl) (by unfold Tryz.f169;simp) aD (by unfold Tryz.f169;simp) (by kernel_rfl) ?_;unfold Tryz.f169
 simp only [↓pre,simprocAttr,aA,sx,apT,aD,aC,s1,s2,kG]
 rfl
end Go.Proofs.YtaekhhlgnbhnpaaGreat