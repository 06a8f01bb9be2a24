import Derived.Test.YtaekhhlgnbhnpaaGreatNzcG19
import Derived.Test.YtaekhhlgnbhnpaaGreatNzcG16
import Derived.Test.YtaekhhlgnbhnpaaGreatNzcG12
import Derived.Test.YtaekhhlgnbhnpaaGreatNzcG15
import Derived.Test.YtaekhhlgnbhnpaaGreatNzcG10
import Derived.Test.YtaekhhlgnbhnpaaGreatNzcG18
set_option linter.unusedVariables false
set_option linter.unusedSimpArgs false
set_option maxRecDepth 10000
open Bool renaming and_self→aAu,and_eq_true→aAn,false_eq_true→azx,and_false→aBX,false_and→aBY
open Go.IntKind renaming i64→azv,u8→aBM
open Go.Proofs.Tryz renaming prog→ayS
open Go.Value renaming int→azA
open Int renaming cast_ofNat_Int→aBV
open List renaming take_of_length_le→aA7,mem_map→azm,getD_eq_getElem?_getD→azp,getElem?_eq_getElem→azj,getElem?_map→azl,append_nil→aBi,drop_zero→aBu,length_take→aBP,mem_of_getElem?→az5,getElem?_take_of_lt→aBQ,take_add_one→aA6,map_append→aBp,map_cons→aAo,map_nil→aAp,getElem?_of_mem→aBg,getElem?_eq_some_iff→ay5,mem_cons→az4,not_mem_nil→aBT,cons_append→aBU,nil_append→aBq,all_eq_true→aAr,range→aAm,getElem?_range→aBO,map_congr_left→aAt,append_assoc→azT,getElem?_append_right→aze,length_cons→aAC,getElem?_eq_none→ay3,length_append→aAZ,eq_nil_of_length_eq_zero→azY,flatMap_cons→aBC,length_drop→aA9
open Nat renaming le_refl→ay7,zero_add→azn,one_ne_zero→aBj,reduceEqDiff→aBS,ne_of_gt→aAX,add_mul→azX,one_mul→aBW,mul_one→azD
open Option renaming getD_some→aAB,getD_none→aAA,map_none→aBa,map_some→az3,bind_some→aAh
open UInt8 renaming ofNat→azN
namespace Go.Proofs.YtaekhhlgnbhnpaaGreat
open Go Go.Tw Go.Proofs Go.Gf
theorem an1 {P:Program} {kd:fZ} {m:aF} {el el':TypeId} {sz n:Nat} {v:AV} {cells:List AV} (h:cG kd m el sz v n cells) (hk:bP P el'=kd):f9 P el' sz m v=some (cells,n):=by
 have hl:=h.len
 rcases h.form with ⟨rfl,rfl,rfl⟩ | ⟨b,rfl,hb,_,_⟩
 ·simp [f9,eE,aN]
 ·simp [f9,eE,hb,hk,hl]
  rw [aA7 (by omega)]
theorem aaj:∀ (l:List AV),(∀ c∈l,plain c=true)→c9 l=true
 | [],_=>rfl
 | c::l,h=>by simp only [c9,h c (by simp),aaj l fun x a=>h x (by simp [a]),aAu]
theorem an2 (L:Nat) (F:Mx) (a n:Nat):c9 (eP L F a n)=true:=aaj _ fun c b=>by
 unfold eP at b;obtain ⟨i,_,rfl⟩:=azm.1 b;rfl
def gK (C:List (List UInt8)):Mx:=fun i p=>(C.getD i []).getD p 0
theorem an3 {C:List (List UInt8)} {i L:Nat} (h:(C.getD i []).length=L):tab L (gK C i)=C.getD i []:=by
 unfold tab gK;apply List.ext_getElem
 ·rw [List.length_map,List.length_range,h]
 ·intro j b a;simp only [List.getElem_map,List.getElem_range];rw [azp,azj a];rfl
def nE (k:Nat) (l:List Nat):List AV:=l.map fun a => .tree k k (aY k (fJ k a)) true
def kE (cells:List AV) (l:List Nat):List AV:=l.map fun a=>cells.getD a aN
theorem an4 {k:Nat} {at_:List Nat} (d:at_.length=k):ac6 k k (lK k at_) (nE k at_):=fun t c=>by
 obtain ⟨a,b⟩:∃ a,at_[t]? = some a:=⟨_,azj (by omega)⟩
 refine ⟨_,[],by unfold nE;rw [azl,b];rfl, ?_⟩;unfold lK;rw [azp,b,aBi];exact ⟨.inr (.inr ⟨k,true,rfl,ay7 _⟩)⟩
theorem au7 (v:AV) (k r L:Nat) (C:List (List UInt8)) (cells:List AV) (hv:fQ v C cells) (g2:C.length=k+r) (hC:abH C L) (hk:1≤k) (d3:k≤12) (hr:r≤4) (hL:1≤L) (a5:L≤65536) (k3:k≤(bW C (k+r)).length):aR ayS 236 [aC (k:Nat),aC (r:Nat),v] ⟨.tup [bD (k+r) (eP L (abA k ((bW C (k+r)).take k) (gK C)) 0 (k+r)),aC 0],[]⟩:=by
 refine d6 ?_;have hp:=hv.rd.plain;have hm:=auY aF.empty k r hk d3 hr;have o:=au1 v C cells L hv hC a5 (by omega);rw [g2] at o;have a1:=dY (bW C (k+r)).length (pM (bW C (k+r)));obtain ⟨v',s',r'⟩:=a1.slice (P:=ayS) (t:=41) (sz:=1) (lo:=none) (hi:=some k) (by kernel_rfl) (by simp) (by simpa using k3);simp only [aAB,aAA,Nat.sub_zero,Nat.zero_mul,aBu] at r';have j0:=a1.slOk (P:=ayS) (m:=aF.empty) (t:=41);have f4:((bW C (k+r)).take k).length=k:=by rw [aBP];omega
 have z:∀ a∈(bW C (k+r)).take k,a < k+r∧(C.getD a []).length=L:=fun a B=>by
  obtain ⟨h1,h2⟩:=ah3 (List.mem_of_mem_take B);refine ⟨h1, ?_⟩;obtain ⟨b,l⟩:∃ b,C[a]? = some b:=⟨_,azj (by omega)⟩
  rw [s6 l] at h2 ⊢;rcases hC b (az5 l) with h | h
  ·exact absurd h h2
  ·exact h
 have g6:((bW C (k+r)).take k).Nodup:=(anV C (k+r)).sublist (List.take_sublist _ _);have D:∀ i,i < k→∃ a,((bW C (k+r)).take k)[i]? = some a∧(pM (bW C (k+r)))[i]? = some (.val (.int .i64 a)):=fun i hi=>by
  obtain ⟨a,B⟩:∃ a,(bW C (k+r))[i]? = some a:=⟨_,azj (by omega)⟩
  exact ⟨a,by rw [aBQ hi];exact B,anX B⟩
 generalize O:(bW C (k+r)).take k=at_ at *
 have k1:¬ (((bW C (k+r)).length:Nat):Int) < ((k:Nat):Int):=by omega
 have w1:azv.wrap (((k:Nat):Int)+((r:Nat):Int))=((k+r:Nat):Int):=by rw [←Int.natCast_add];exact cD (by omega)
 replace hC:=Hid.mk hC;replace z:=Hid.mk z;replace O:=Hid.mk O;replace D:=Hid.mk D;refine bI Tryz.func236 aB (h:=?_);unfold Tryz.f236;simp only [↓pre,zab,simprocAttr];refine nR hm ?_;rintro j1 m1 ⟨g,mm,rfl,rfl,H⟩;simp only [↓pre,zad,au6,simprocAttr,w1]
 (first | refine aH (o) (by first | rfl | simp only [aD, *]) ?_ | refine aG (o) (by first | rfl | simp only [aA,aD, *]) (by intro k;first | rfl | simp only [ *,zaa]) ?_);simp only [↓pre,zag,zW,sJ,aBa,simprocAttr,a1.len',k1,s',r'.len',dB]
 generalize aF.setM aF.empty mm=m1 at *
 rw [bS];refine bU (fun q e m=>∃ i lm lf,q+i=k∧e 0=aC (k:Nat)∧e 1=aC (r:Nat)∧e 2=v∧e 8 = .val (.map (some g))∧e 11=lm∧e 12=lf∧e 44=v'∧e 45=aC (k:Nat)∧e 46=aC (i:Nat)∧Hid (cG .var m 52 1 lm i (nE k (at_.take i))∧cG .var m 52 1 lf i (kE cells (at_.take i))∧m7 m1 m∧mO m1 lm∧mO m1 lf∧∀ b,cI lm=some b→cI lf≠some b)) k ⟨0,aN,aN,by omega,rfl,rfl,rfl,rfl,rfl,rfl,rfl,rfl,rfl,⟨fC,fC,m7.refl _,zU _,zU _,fun b h=>by cases h⟩⟩ ?_;rintro q e m ⟨i,lm,lf,hq,e0,e1,e2,e8,f8,G,f5,b1,b7,hJ⟩;replace hq:=Hid.mk hq;obtain ⟨Z,b2,J,i0,i2,e3⟩:=hJ.out;by_cases a3:i < k
 ·have I:((i:Nat):Int) < ((k:Nat):Int):=by omega
  have wi:=bY (n:=i) (by omega);obtain ⟨a,B,g3⟩:=D.out i a3;obtain ⟨c6,u⟩:=z.out a (az5 B);have E:at_.take (i+1)=at_.take i++[a]:=by rw [aA6,B];rfl
  have b4:nE k (at_.take (i+1))=nE k (at_.take i)++[.tree k k (aY k (fJ k a)) true]:=by rw [E];unfold nE;rw [aBp];rfl
  have c2:=anS (m:=m) (g:=g) (k:=k) (r:=r) (n:=k+r) (i:=a) (by unfold pL;rw [J.mm];exact H) c6;obtain ⟨b,l⟩:∃ b,C[a]? = some b:=⟨_,azj (by omega)⟩
  have e6:b.length=L:=by rw [s6 l] at u;exact u
  obtain ⟨ca,x,R,N⟩:=hv.at_ a b l;have h9:a < C.length:=by omega
  obtain ⟨cc,f,rfl,_⟩:∃ cc f,ca = .tree b.length cc (b.map bA++x) f∧b.length≤cc:=by
   rcases N.form with ⟨_,h⟩ | ⟨_,_,_,h⟩ | h
   ·omega
   ·omega
   ·exact h
  have a0:kE cells (at_.take (i+1))=kE cells (at_.take i)++[.tree b.length cc (b.map bA++x) f]:=by
   rw [E];unfold kE;rw [aBp,aAo,aAp,azp,R];rfl
  replace B:=Hid.mk B;replace l:=Hid.mk l;replace E:=Hid.mk E;replace b4:=Hid.mk b4;replace a0:=Hid.mk a0;replace u:=Hid.mk u;replace J:=Hid.mk J;replace e6:=Hid.mk e6;simp only [aC] at c2;simp only [↓pre,zag,zW,bE,abI,simprocAttr,e0,e1,e8,f8,f5,b1,b7,I,r'.addr',a3,g3,c2];refine aek (kd := .var) (sz:=1) (y:=24) (zl:=[.slice none 0 0]) (by kernel_rfl) Z (by kernel_rfl) (by kernel_rfl) (by kernel_rfl) rfl mN rfl (by omega) (by omega) J.out i0 ?_;intro k0 m' f6 d0 e4 h4 d2 a9;obtain ⟨d4,f2⟩:=b2.beside h4 d2 a9 fun b l h=>e3 b h l
  simp only [↓pre,zag,zW,bE,abI,simprocAttr,e2,G,hv.rd.addr',h9,R];refine aek (kd := .var) (sz:=1) (y:=24) (zl:=[.slice none 0 0]) (by kernel_rfl) d4 (by kernel_rfl) (by kernel_rfl) (by kernel_rfl) rfl mN rfl (by omega) (by omega) d0 i2 ?_;intro h0 k8 b5 b3 X d1 e5 d;obtain ⟨a4,b0⟩:=f6.beside d1 e5 d fun b l h=>f2 b h l
  simp only [↓pre,zab,simprocAttr,e0,e1,e2,e8,f5,b1,b7,wi];exact ⟨q - 1,by have:=hq.out;omega,i+1,k0,h0,by have:=hq.out;omega,rfl,rfl,rfl,⟨by rw [b4.out];exact a4,by rw [a0.out];exact b5,b3,e4,X,b0⟩⟩
 ·have I:¬ ((i:Nat):Int) < ((k:Nat):Int):=by omega
  have hi:i=k:=by have:=hq.out;omega
  subst hi;rw [aA7 (by omega)] at Z b2;have g5:c9 (nE i at_)=true:=aaj _ fun c hc=>by
   unfold nE at hc;obtain ⟨a,_,rfl⟩:=azm.1 hc;rfl
  have V:ac6 i L (fun t=>gK C (at_.getD t 0)) (kE cells at_):=fun t ht=>by
   obtain ⟨a,B,_⟩:=D.out t ht;obtain ⟨c6,u⟩:=z.out a (az5 B);obtain ⟨b,l⟩:∃ b,C[a]? = some b:=⟨_,azj (by omega)⟩
   obtain ⟨ca,x,R,N⟩:=hv.at_ a b l;refine ⟨ca,x, ?_, ?_⟩
   ·unfold kE;rw [azl,B,az3,azp,R];rfl
   ·simp only [azp,B,aAB];unfold aY;have:=an3 u;rw [this,s6 l];rw [s6 l] at u;rw [u] at N;exact N
  have i1:c9 (kE cells at_)=true:=aaj _ fun c hc=>by
   obtain ⟨t,ht⟩:=aBg hc;have g0:t < i:=by have:=(ay5.1 ht).1;unfold kE at this;rw [List.length_map] at this;omega
   obtain ⟨a,x,h1,h2⟩:=V t g0;rw [ht] at h1;cases h1;exact h2.plain
  obtain ⟨av,m2,h6,k7,k5,b8,U⟩:=(zV Z (.inr ⟨rfl,g5⟩)).fz;have S:cG .var m2 52 1 lf i (kE cells at_):=b2.frz b8 U fun b l l1 n c f h=>by
   subst h;exact e3 b rfl l
  have c3:=ar0 J k5 b8 U;have c8:=auR av i (lK i at_) (nE i at_) ⟨k7,an4 f4⟩ hk (by omega) (anw f4 g6 fun a B=>by have:=(z.out a B).1;omega);have c1:=(ae9 true true i i (mD i (lK i at_))).rd;have g4:=zV S (.inr ⟨rfl,i1⟩);have i3:=ag3 S;have c4:fzs m [lm]=some ([av],m2):=by simp [fzs,h6]
  simp only [↓pre,zad,simprocAttr,f8,b1,b7,I];refine zO c8 c4 ?_;simp only [↓pre,zag,zW,simprocAttr,c1.len'];rw [bS];refine bU (fun q e m=>∃ j ld,q+j=i∧e 0=aC (i:Nat)∧e 1=aC (r:Nat)∧e 8 = .val (.map (some g))∧e 12=lf∧e 17=ld∧e 75 = .tree i i (mV true i i (mD i (lK i at_))) true∧e 76=aC (i:Nat)∧e 77=aC (j:Nat)∧Hid (cG .var m 52 1 ld j (eP L (kQ i at_ (gK C)) 0 j)∧lU m2 m∧mO m2 ld)) i ⟨0,aN,by omega,e0,e1,e8,G,rfl,rfl,rfl,rfl,⟨fC,lU.refl _,zU _⟩⟩ ?_;rintro q2 e m ⟨j,ld,M,e0,e1,e8,G,a7,f0,Y,a2,h3⟩;replace M:=Hid.mk M;obtain ⟨K,s,e7⟩:=h3.out;by_cases T:j < i
  ·have A:((j:Nat):Int) < ((i:Nat):Int):=by omega
   have wj:=bY (n:=j) (by omega);have c5:=aah true (w:=i) (mD i (lK i at_)) T;obtain ⟨k6,a6,F⟩:=(g4.keep s.w i3).lend2 (a := .tree i i (aY i (mD i (lK i at_) j)) true) rfl;have W:=anO (.tree i i (aY i (mD i (lK i at_) j)) true) k6 i L (mD i (lK i at_) j) (fun t=>gK C (at_.getD t 0)) [] (kE cells at_) ⟨.inr (.inr ⟨i,true,by rw [aBi],ay7 _⟩)⟩ ⟨F,V⟩ hk (by omega) a5;rw [show pK i (mD i (lK i at_) j) (fun t=>gK C (at_.getD t 0))=kQ i at_ (gK C) j from rfl] at W;have d:lU m2 ((m.push ⟨aY L (kQ i at_ (gK C) j),5,.flat,true⟩).put m.next (some ⟨aY L (kQ i at_ (gK C) j),5,.flat,false⟩)):=⟨s.mm,by rw [bX,bM];have:=s.next;omega,fun j x hj hl=>by have:=s.next;rw [aO,if_neg (by omega),aT,if_neg (by omega)];exact s.at_ j x hj hl⟩
   have h7:=anZ (m:=m.push ⟨aY L (kQ i at_ (gK C) j),5,.flat,true⟩) (b:=m.next) (n:=L) (f:=true) (by rw [aT,if_pos rfl]);have Q:=afe L (kQ i at_ (gK C)) 0 j;rw [azn] at Q;replace Q:=Hid.mk Q;replace s:=Hid.mk s;replace d:=Hid.mk d;replace F:=Hid.mk F;simp only [↓pre,zag,zW,simprocAttr,G,f0,Y,a2,A,c1.addr',T,c5];refine ad1 W a6 (by simp [fF.apart,jX,lP,an0,aC]) ?_;simp only [↓pre,zad,zW,bE,simprocAttr,a7,h7];refine alR (kd := .var) (sz:=1) (y:=24) (zl:=[.slice none 0 0]) (by kernel_rfl) (K.pp _ _) (by kernel_rfl) (by kernel_rfl) (by kernel_rfl) rfl mN rfl (by omega) (by omega) d.out e7 ?_;intro h8 m' f3 e9 f7;simp only [↓pre,zab,simprocAttr,e0,e1,e8,G,f0,Y,a2,wj];exact ⟨q2 - 1,by have:=M.out;omega,j+1,h8,by have:=M.out;omega,rfl,rfl,⟨by rw [Q.out];exact f3,e9,f7⟩⟩
  ·have A:¬ ((j:Nat):Int) < ((i:Nat):Int):=by omega
   have hj:j=i:=by have:=M.out;omega
   subst hj;have k2:pL m g j r (j+r):=by unfold pL;rw [s.mm,c3.mm];exact H
   have k4:ac6 j L (kQ j at_ (gK C)) (eP L (kQ j at_ (gK C)) 0 j):=fun t ht=>by
    refine ⟨_,[],aff ht, ?_⟩;rw [aBi,azn];exact ⟨.inr (.inr ⟨L,true,rfl,ay7 _⟩)⟩
   have h5:=au5 m g j r j r L ld (kQ j at_ (gK C)) _ k2 (zV K (.inr ⟨rfl,an2 _ _ _ _⟩)) (ag3 K) k4 hk d3 hr (ay7 _) a5;simp only [↓pre,zad,simprocAttr,e0,e1,e8,a7,Y,a2,A,w1];refine nR h5 ?_;rintro j1 m4 ⟨lv,rfl,g1,f1,l0⟩;have c0:cG .var m4 52 1 ld j (eP L (kQ j at_ (gK C)) 0 j):=K.keep f1.next fun b x l O=>f1.at_ b x O (by
    rcases K.form with ⟨rfl,_⟩ | ⟨b',rfl,_,a3,_⟩
    ·cases l
    ·injection l with l;omega)
   simp only [↓pre,zab,zW,bE,simprocAttr,a7];refine pA (kd := .var) (sz:=1) (y:=24) (zl:=[.slice none 0 0]) (by kernel_rfl) c0 (by kernel_rfl) (by kernel_rfl) (by kernel_rfl) rfl (an1 g1 (by kernel_rfl)) (by rw [au2];omega) (by omega) (by omega) ?_;intro lo m5 c7 k9;have b9:eP L (kQ j at_ (gK C)) 0 j++eP L (oV j (kQ j at_ (gK C))) j r=eP L (abA j at_ (gK C)) 0 (j+r):=by
    rw [←au3];congr 1;exact au4 fun i _ hi p _=>(auu _ (by omega) p).symm
   rw [b9] at c7;simp only [↓pre,simprocAttr];exact ⟨1,by rw [j8,dM,afc c7 (anY _ _ _ _),aAh,dM,gB,i8];rfl⟩
structure fW where
 kd:Int
 ix:Int
 ce:Int
 st:Int
 vv:AV
 dv:AV
def fW.cells (s:fW):List AV:=[.val (.int .u8 s.kd),.val (.int .i64 s.ix),.val (.int .i64 s.ce),.val (.int .i64 s.st),s.vv,s.dv]
def fW.v (s:fW):AV := .agg s.cells
structure fW.Rd (s:fW):Prop where
 vv:∃ n cs,aZ s.vv n cs
 dv:∃ n cs,aZ s.dv n cs
def tA:fW:=⟨0,0,0,0,aN,aN⟩
def rK.sl (s:rK):fW:=⟨s.kd,s.ix,s.ce,s.st,.tree s.vec.length s.vec.length (bK s.vec) false,.tree s.data.length s.data.length (aL s.data) false⟩
def fX (k r c w:Int) (bs:List UInt8):fW:=if eS k r c w bs=true then (cT k r bs).sl else tA
theorem vL (k r c w:Int) (bs:List UInt8):(fX k r c w bs).Rd:=by
 unfold fX;split
 ·exact ⟨⟨_,_,⟨.inr (.inr ⟨_,_,rfl,ay7 _⟩)⟩⟩,⟨_,_,⟨.inr (.inr ⟨_,_,rfl,ay7 _⟩)⟩⟩⟩
 ·exact ⟨⟨0,[],⟨.inl ⟨rfl,rfl⟩⟩⟩,⟨0,[],⟨.inl ⟨rfl,rfl⟩⟩⟩⟩
theorem afg (k r c w:Int) (v:AV) (bs:List UInt8) (x:List AV) (f:aZ v bs.length (aL bs++x)) (d:bG k r c w=true) (a:eV k r c bs.length=true):aR ayS 93 [aA k r c w,v] ⟨.tup [.agg (fX k r c w bs).cells,aV (eS k r c w bs),aC 0],[]⟩:=by
 have h:=amO k r c w v bs x f;unfold pF at h;unfold fX;cases hs:eS k r c w bs with
 | true =>
  rw [hs,if_pos ⟨d,rfl⟩] at h;rw [if_pos rfl];exact h
 | false =>
  rw [hs,if_neg (fun h=>by cases h.2)] at h;rw [if_neg (by decide)];have e:(if bG k r c w=false then (2:Int) else if (bs.length:Int)=0 then 0 else if (bs.length:Int)=d8 k r c then 0 else 100)=0:=by
   rw [d,if_neg (by decide)];unfold eV at a;by_cases b:(bs.length:Int)=0
   ·rw [if_pos b]
   ·rw [if_neg b];rw [decide_eq_false b,Bool.false_or] at a;rw [if_pos (of_decide_eq_true a)]
  rw [e] at h;exact h
theorem an5 (k r c w:Int) (bs:List UInt8) (ix:Int):(eS k r c w bs && decide ((fX k r c w bs).ix=ix))=gZ k r c w bs ix:=by
 unfold fX gZ;cases h:eS k r c w bs with
 | true=>rw [if_pos rfl];rfl
 | false=>rfl
def pO (c a:fW) (b d:Bool):List AV:=c.cells++(aV b::a.cells)++[aV d]
theorem wW {cs:List AV} (h:∀ c∈cs,eH c):eH (.agg cs):=fun k m=>by rw [aaX,abG cs h];rfl
theorem ac7 {cs:List AV} (h:∀ c∈cs,eH c):eH (.tup cs):=fun k m=>by rw [j8,abG cs h];rfl
theorem fW.Rd.ids {s:fW} (h:s.Rd):∀ c∈s.cells,eH c:=by
 obtain ⟨⟨_,_,d⟩,⟨_,_,b⟩⟩:=h;intro c a;simp only [fW.cells,az4,aBT,or_false] at a;rcases a with rfl | rfl | rfl | rfl | rfl | rfl
 ·exact bN _
 ·exact bN _
 ·exact bN _
 ·exact bN _
 ·exact kT d
 ·exact kT b
theorem au8 {d b:fW} (g:d.Rd) (h:b.Rd) (e f:Bool):∀ c∈pO d b e f,eH c:=by
 intro c a;simp only [pO,List.mem_append,az4,aBT,or_false] at a;rcases a with (a | rfl | a) | rfl
 ·exact g.ids c a
 ·exact bN _
 ·exact h.ids c a
 ·exact bN _
theorem eW {a b:AV} (e:eH a) (f:eH b):eH (.tup [a,b]):=ac7 fun c d=>by
 simp only [az4,aBT,or_false] at d;rcases d with rfl | rfl
 ·exact e
 ·exact f
theorem uP:azv.wrap 1=1:=by decide
theorem uQ:azv.wrap 2=2:=by decide
def rO:Nat→Bool:=fun d=>d != 8
theorem au9 (k r c w ix kd:Int) (z y:AV) (p:bO) (N O:List AV) (F:aZ z p.1.length (aL p.1++N)) (E:aZ y p.2.length (aL p.2++O)) (L:bG k r c w=true) (D:kC k r c p.1.length p.2.length=true) (hk:kd=1∨kd=2) (X:0≤ix) (V:ix < k+r) :
 aR ayS 292 [aA k r c w,.agg [z,y],.val (.int .u8 kd),aC ix] ⟨.tup [.agg (pO (fX k r c w p.1) (fX k r c w p.2) (gZ k r c w p.1 ix) (gZ k r c w p.2 ix)),aC 0],[]⟩:=by
 refine d6 ?_;unfold kC at D;rw [aAn] at D;have q:=afg k r c w z p.1 N F L D.1;have o:=afg k r c w y p.2 O E L D.2;have G:=oR k r c w;simp only [L,if_true] at G;rw [←an5,←an5];have J:=vL k r c w p.1;have H:=vL k r c w p.2;obtain ⟨⟨n1,y1,P⟩,⟨n2,y2,Q⟩⟩:=vL k r c w p.1;obtain ⟨⟨n3,y3,M⟩,⟨n4,y4,R⟩⟩:=vL k r c w p.2;generalize fX k r c w p.1=t at *
 generalize fX k r c w p.2=I at *
 generalize eS k r c w p.1=x at *
 generalize eS k r c w p.2=K at *
 have f1:=b6 F;have f2:=b6 E;have o1:=bQ F;have o2:=bQ E;have q1:=bQ P;have q2:=bQ Q;have q3:=bQ M;have q4:=bQ R;have t1:=cH P;have t2:=cH Q;have t3:=cH M;have t4:=cH R;have Z:=F.plain;have a1:=E.plain;have U:¬ ix < 0:=by omega
 have T:¬ k+r≤ix:=by omega
 unfold fW.cells at q o;refine bI Tryz.func292 rO (h:=?_);unfold Tryz.f292;simp only [↓pre,zah,sO,rO,aM,a8,simprocAttr,aA,bne,f1,f2]
 (first | refine aH (G) (by first | rfl | simp only [aA,aD, *]) ?_ | refine aG (G) (by first | rfl | simp only [aA,aD, *]) (by intro k;first | rfl | simp only [ *,zaa]) ?_);simp only [↓pre,zaj,sO,rO,simprocAttr,bne]
 rw [bS];refine bU (fun n e m=>∃ i cs,n+i=2∧e 2 = .val (.int .u8 kd)∧e 3=aC ix∧e 4 = .tptr 0 [aC k,aC r,aC c,aC w]∧e 8 = .ptr 0 0∧e 10=aC (k+r)∧e 22 = .agg [z,y]∧e 23=aC (i:Nat)∧m.at_ 0=some ⟨cs,304,.var,true⟩∧(i=0→cs=pO tA tA false false)∧(i=1→cs=pO t tA (x && decide (t.ix=ix)) false)∧(i=2→cs=pO t I (x && decide (t.ix=ix)) (K && decide (I.ix=ix)))) 2 ⟨0,_,by omega,rfl,rfl,rfl,rfl,rfl,rfl,rfl,rfl,fun _=>rfl,fun h=>by omega,fun h=>by omega⟩ ?_;rintro n e m ⟨i,cs,d,v,s,u,l,j,g,a,b,C,A,B⟩;obtain rfl | rfl | rfl:i=0∨i=1∨i=2:=by omega
 ·obtain rfl:=C rfl;clear C A B;replace d:=Hid.mk d;simp only [pO,fW.cells,tA,aBU,aBq] at b;simp only [↓pre,zam,sO,rO,aBV,aBV,simprocAttr,bne,u,g,a]
  (first | refine aH (q) (by first | rfl | simp only [aD, *]) ?_ | refine aG (q) (by first | rfl | simp only [aA,aD, *]) (by intro k;first | rfl | simp only [ *,zaa]) ?_);simp only [↓pre,zam,sO,rO,simprocAttr,bne,aJ,t1,t2,l,b]
  cases x with
  | false =>
   simp only [↓pre,zam,sO,rO,uP,aBV,simprocAttr,bne,aJ,v,s,u,l,j,g,a];refine ⟨n - 1,by have:=d.out;omega,1,_,by have:=d.out;omega,rfl,rfl,fun h=>(by cases h),fun _=>rfl,fun h=>(by cases h)⟩
  | true =>
   simp only [↓pre,zam,sO,rO,uP,aBV,simprocAttr,bne,aJ,v,s,u,l,j,g,a];refine ⟨n - 1,by have:=d.out;omega,1,_,by have:=d.out;omega,rfl,rfl,fun h=>(by cases h),fun _=>rfl,fun h=>(by cases h)⟩
 ·obtain rfl:=A rfl;clear C A B;replace d:=Hid.mk d;generalize W:(x && decide (t.ix=ix))=S at *
  simp only [pO,fW.cells,tA,aBU,aBq] at b;simp only [↓pre,zam,sO,rO,aBV,simprocAttr,bne,u,g,a]
  (first | refine aH (o) (by first | rfl | simp only [aD, *]) ?_ | refine aG (o) (by first | rfl | simp only [aA,aD, *]) (by intro k;first | rfl | simp only [ *,zaa]) ?_);simp only [↓pre,zam,sO,rO,simprocAttr,bne,aJ,t3,t4,l,b]
  cases K with
  | false =>
   simp only [↓pre,zam,sO,rO,uQ,aBV,simprocAttr,bne,aJ,v,s,u,l,j,g,a];refine ⟨n - 1,by have:=d.out;omega,2,_,by have:=d.out;omega,rfl,rfl,fun h=>(by cases h),fun h=>(by cases h),fun _=>rfl⟩
  | true =>
   simp only [↓pre,zam,sO,rO,uQ,aBV,simprocAttr,bne,aJ,v,s,u,l,j,g,a];refine ⟨n - 1,by have:=d.out;omega,2,_,by have:=d.out;omega,rfl,rfl,fun h=>(by cases h),fun h=>(by cases h),fun _=>rfl⟩
 ·obtain rfl:=B rfl;clear C A B;replace d:=Hid.mk d;generalize W:(x && decide (t.ix=ix))=S at *
  generalize a0:(K && decide (I.ix=ix))=Y at *
  simp only [pO,fW.cells,aBU,aBq] at b;have f:=fun m=>eW (wW (au8 J H S Y)) (bN (.int .i64 0)) 0 m
  replace f:=Hid.mk f;rcases hk with rfl | rfl
  ·simp only [↓pre,za,sO,rO,aBV,simprocAttr,bne,aJ,v,s,l,j,a,b,U,T];exact ⟨0,f.out _⟩
  ·simp only [↓pre,za,sO,rO,aBV,simprocAttr,bne,aJ,v,s,l,j,a,b,U,T];exact ⟨0,f.out _⟩
def nY (s:fW) (b:Bool) (kd ver:Int):Bool:=b && (decide (s.kd=kd) && decide (s.ce=ver))
def yO (c a:fW) (b d:Bool) (kd ver:Int):Int:=if nY c b kd ver=true then 0 else if nY a d kd ver=true then 1 else -1
theorem ava {a b:fW} (n:a.Rd) (l:b.Rd) (d c:Bool) (m:aF):fz m (.agg (pO a b d c))=some (.agg (pO a b d c),m):=by
 obtain ⟨⟨s,r,f⟩,⟨p,u,g⟩⟩:=n;obtain ⟨⟨w,v,e⟩,⟨q,t,i⟩⟩:=l;have k:=b6 f;have j:=b6 g;have h:=b6 e;have o:=b6 i;simp [pO,fW.cells,fz,fzs,k,j,h,o,aV]
theorem avb (c d:fW) (w:c.Rd) (u:d.Rd) (l k:Bool) (kd ver:Int):aR ayS 293 [.agg (pO c d l k),.val (.int .u8 kd),aC ver] ⟨aC (yO c d l k kd ver),[]⟩:=by
 have E:=ava w u l k;obtain ⟨⟨J,I,A⟩,⟨F,N,C⟩⟩:=w;obtain ⟨⟨Q,O,z⟩,⟨H,L,D⟩⟩:=u;have x:=b6 A;have t:=b6 C;have s:=b6 z;have y:=b6 D;have G:=bQ A;have M:=bQ C;have K:=bQ z;have P:=bQ D;simp only [pO,fW.cells,aBU,aBq];refine aX Tryz.func293 aB (h:=?_);unfold Tryz.f293;simp only [↓pre,zad,wL,simprocAttr,x,t,s,y];rw [bS];refine bU (fun n e m=>∃ i,n+i=2∧e 1 = .val (.int .u8 kd)∧e 2=aC ver∧e 9 = .agg [AV.val (azA aBM c.kd),AV.val (azA azv c.ix),AV.val (azA azv c.ce),AV.val (azA azv c.st),c.vv,c.dv,AV.val (Value.bool l),AV.val (azA aBM d.kd),AV.val (azA azv d.ix),AV.val (azA azv d.ce),AV.val (azA azv d.st),d.vv,d.dv,AV.val (Value.bool k)]∧e 10=aC (i:Nat)∧(1≤i→nY c l kd ver=false)∧(2≤i→nY d k kd ver=false)) 2 ⟨0,by omega,rfl,rfl,rfl,rfl,fun h=>by omega,fun h=>by omega⟩ ?_;rintro n e m ⟨i,b,p,q,o,a,j,r⟩;obtain rfl | rfl | rfl:i=0∨i=1∨i=2:=by omega
 ·replace b:=Hid.mk b;clear j r;have key:∀ (B:Bool),nY c l kd ver=B→(B=true→yO c d l k kd ver=0):=fun B f g=>by unfold yO;rw [f,g];rfl
  replace key:=Hid.mk key;cases l with
  | false =>
   simp only [↓pre,zag,wL,bH,aM,uP,aBV,simprocAttr,aJ,x,t,p,q,o,a];exact ⟨n - 1,by have:=b.out;omega,1,by have:=b.out;omega,rfl,fun _=>rfl,fun h=>by omega⟩
  | true =>
   by_cases f:c.kd=kd
   ·by_cases g:c.ce=ver
    ·have v:=key.out true (by unfold nY;rw [decide_eq_true f,decide_eq_true g];rfl) rfl;rw [v];simp only [↓pre,zag,wL,bH,aM,aBV,simprocAttr,aJ,x,t,p,q,o,a,f,g]
    ·simp only [↓pre,zag,wL,bH,aM,uP,aBV,simprocAttr,aJ,x,t,p,q,o,a,f,g];exact ⟨n - 1,by have:=b.out;omega,1,by have:=b.out;omega,rfl,fun _=>by unfold nY;rw [decide_eq_false g];simp,fun h=>by omega⟩
   ·simp only [↓pre,zag,wL,bH,aM,uP,aBV,simprocAttr,aJ,x,t,p,q,o,a,f];exact ⟨n - 1,by have:=b.out;omega,1,by have:=b.out;omega,rfl,fun _=>by unfold nY;rw [decide_eq_false f];simp,fun h=>by omega⟩
 ·replace b:=Hid.mk b;have j:=Hid.mk (j (by omega));clear r;have key:∀ (B:Bool),nY d k kd ver=B→(B=true→yO c d l k kd ver=1):=fun B f g=>by unfold yO;rw [j.out,f,g];rfl
  replace key:=Hid.mk key;cases k with
  | false =>
   simp only [↓pre,zag,wL,bH,aM,uQ,aBV,simprocAttr,aJ,s,y,p,q,o,a];exact ⟨n - 1,by have:=b.out;omega,2,by have:=b.out;omega,rfl,fun _=>j.out,fun h=>rfl⟩
  | true =>
   by_cases f:d.kd=kd
   ·by_cases g:d.ce=ver
    ·have v:=key.out true (by unfold nY;rw [decide_eq_true f,decide_eq_true g];rfl) rfl;rw [v];simp only [↓pre,zag,wL,bH,aM,aBV,simprocAttr,aJ,s,y,p,q,o,a,f,g]
    ·simp only [↓pre,zag,wL,bH,aM,uQ,aBV,simprocAttr,aJ,s,y,p,q,o,a,f,g];exact ⟨n - 1,by have:=b.out;omega,2,by have:=b.out;omega,rfl,fun _=>j.out,fun _=>by unfold nY;rw [decide_eq_false g];simp⟩
   ·simp only [↓pre,zag,wL,bH,aM,uQ,aBV,simprocAttr,aJ,s,y,p,q,o,a,f];exact ⟨n - 1,by have:=b.out;omega,2,by have:=b.out;omega,rfl,fun _=>j.out,fun _=>by unfold nY;rw [decide_eq_false f];simp⟩
 ·have j:=j (by omega);have r:=r (by omega);have v:yO c d l k kd ver = -1:=by unfold yO;rw [j,r];rfl
  replace j:=Hid.mk j;replace r:=Hid.mk r;rw [v];simp only [↓pre,zad,aBV,simprocAttr,a]
def kU (k r c w:Int) (bs:List UInt8) (ix kd ver:Int):Bool:=nY (fX k r c w bs) (gZ k r c w bs ix) kd ver
def abJ (k r c w:Int) (p:bO) (ix kd ver:Int):AV:=if kU k r c w p.1 ix kd ver=true then .tup [aC 0,(fX k r c w p.1).v,aV true,aC 0] else if kU k r c w p.2 ix kd ver=true then .tup [aC 1,(fX k r c w p.2).v,aV true,aC 0] else .tup [aC 0,tA.v,aV false,aC 0]
theorem ah5 {a b c d:AV} (h:eH a) (f:eH b) (g:eH c) (i:eH d):eH (.tup [a,b,c,d]):=ac7 fun x e=>by
 simp only [az4,aBT,or_false] at e;rcases e with rfl | rfl | rfl | rfl
 ·exact h
 ·exact f
 ·exact g
 ·exact i
def aak:Nat→Bool:=fun d=>d != 11
theorem avc (k r c w ix kd ver:Int) (v t:AV) (p:bO) (B D:List AV) (n:aZ v p.1.length (aL p.1++B)) (l:aZ t p.2.length (aL p.2++D)) (W:bG k r c w=true) (T:kC k r c p.1.length p.2.length=true) (P:kd=1∨kd=2) (o:0≤ix) (e:ix < k+r) (X:1≤ver) (O:ver≤1073741824) :
 aR ayS 237 [aA k r c w,.agg [v,t],.val (.int .u8 kd),aC ix,aC ver] ⟨abJ k r c w p ix kd ver,[]⟩:=by
 refine d6 ?_;have A:=au9 k r c w ix kd v t p B D n l W T P o e;have b:=vL k r c w p.1;have a:=vL k r c w p.2;unfold abJ kU;generalize fX k r c w p.1=E at *
 generalize fX k r c w p.2=H at *
 generalize gZ k r c w p.1 ix=I at *
 generalize gZ k r c w p.2 ix=C at *
 have d:=avb E H b a I C kd ver;have u:=fun m=>ah5 (bN (.int .i64 0)) (wW b.ids) (bN (.bool true)) (bN (.int .i64 0)) 0 m
 have y:=fun m=>ah5 (bN (.int .i64 1)) (wW a.ids) (bN (.bool true)) (bN (.int .i64 0)) 0 m
 have z:=fun m=>ah5 (bN (.int .i64 0)) (wW (cs:=tA.cells) (fW.Rd.ids (s:=tA) ⟨⟨0,[],⟨.inl ⟨rfl,rfl⟩⟩⟩,⟨0,[],⟨.inl ⟨rfl,rfl⟩⟩⟩⟩)) (bN (.bool false)) (bN (.int .i64 0)) 0 m
 replace u:=Hid.mk u;replace y:=Hid.mk y;replace z:=Hid.mk z;obtain ⟨⟨n1,y1,g⟩,⟨n2,y2,i⟩⟩:=b;obtain ⟨⟨n3,y3,f⟩,⟨n4,y4,j⟩⟩:=a;have J:=b6 g;have G:=b6 i;have F:=b6 f;have K:=b6 j;have q1:=bQ g;have q2:=bQ i;have q3:=bQ f;have q4:=bQ j;have Z:=cH g;have Y:=cH i;have V:=cH f;have Q:=cH j;have p1:=g.plain;have p2:=i.plain;have p3:=f.plain;have p4:=j.plain;have x:=b6 n;have q:=b6 l;have o1:=bQ n;have o2:=bQ l;have M:=n.plain;have U:=l.plain;have S:¬ ver < 1:=by omega
 have R:¬ (1073741824:Int) < ver:=by omega
 simp only [pO,fW.cells,aBU,aBq,aV] at A d;refine bI Tryz.func237 aak (h:=?_);unfold Tryz.f237;simp only [↓pre,zah,zX,aak,aM,a8,simprocAttr,aA,bne,x,q]
 (first | refine aH (A) (by first | rfl | simp only [aD, *]) ?_ | refine aG (A) (by first | rfl | simp only [aA,aD, *]) (by intro k;first | rfl | simp only [ *,zaa]) ?_);simp only [↓pre,zaj,zX,aak,aM,simprocAttr,bne,aJ,J,G,F,K,Z,Y,V,Q,S,R];(first | refine aH (d) (by first | rfl | simp only [aD, *]) ?_ | refine aG (d) (by first | rfl | simp only [aA,aD, *]) (by intro k;first | rfl | simp only [ *,zaa]) ?_);simp only [↓pre,zaj,aak,simprocAttr,bne]
 unfold yO;cases N:nY E I kd ver with
 | true =>
  simp only [↓pre,zaj,zX,aak,bH,simprocAttr,bne,aJ,J,G];refine dE (by kernel_rfl) ?_;simp only [↓pre,simprocAttr,sx,zX,aE];exact ⟨0,u.out _⟩
 | false =>
  cases L:nY H C kd ver with
  | true =>
   simp only [↓pre,zaj,zX,aak,bH,simprocAttr,bne,aJ,F,K];refine dE (by kernel_rfl) ?_;simp only [↓pre,simprocAttr,sx,zX,aE];exact ⟨0,y.out _⟩
  | false =>
   simp only [↓pre,zaj,zX,aak,simprocAttr,bne,aJ];exact ⟨0,z.out _⟩
theorem v7 {k r c:Int} {ps:List bO} (h:dS k r c ps=true):(ps.length:Int)=k+r∧∀ p∈ps,kC k r c p.1.length p.2.length=true:=by
 unfold dS at h;rw [aAn] at h;exact ⟨of_decide_eq_true h.1,fun p a=>aAr.1 h.2 p a⟩
def yP (k r c w:Int) (ps:List bO):Int:=if bG k r c w=true then (if dS k r c ps=true then 0 else 120) else 2
theorem avd (k r c w:Int) (v:AV) (ps:List bO) (cells:List AV) (O:fV v ps cells):aR ayS 233 [aA k r c w,v] ⟨.tup [aC (if yP k r c w ps=0 then d8 k r c else 0),aC (yP k r c w ps)],[]⟩:=by
 have Z:=O.rd.plain;have F:=oR k r c w;have hs:=rJ k r c w;unfold yP;cases X:bG k r c w with
 | false =>
  simp only [X,azx,if_false] at F;refine aX Tryz.func233 aB (h:=?_);unfold Tryz.f233;simp only [↓pre,zab,qG,simprocAttr,aA]
  (first | refine aH (F) (by first | rfl | simp only [aA,aD, *]) ?_ | refine aG (F) (by first | rfl | simp only [aA,aD, *]) (by intro k;first | rfl | simp only [ *,zaa]) ?_);simp only [↓pre,zab,iS,simprocAttr]
 | true =>
  simp only [X,if_true] at F hs;have K:=gX X;by_cases S:(ps.length:Int)=k+r
  ·replace K:=Hid.mk K;generalize s:(if dS k r c ps=true then (0:Int) else 120)=E;replace s:=Hid.mk s;refine aX Tryz.func233 aB (h:=?_);unfold Tryz.f233;simp only [↓pre,zab,qG,simprocAttr,aA]
   (first | refine aH (F) (by first | rfl | simp only [aA,aD, *]) ?_ | refine aG (F) (by first | rfl | simp only [aA,aD, *]) (by intro k;first | rfl | simp only [ *,zaa]) ?_);simp only [↓pre,zad,qG,simprocAttr];(first | refine aH (hs) (by first | rfl | simp only [aA,aD, *]) ?_ | refine aG (hs) (by first | rfl | simp only [aA,aD, *]) (by intro k;first | rfl | simp only [ *,zaa]) ?_);simp only [↓pre,zag,qG,simprocAttr,O.rd.len',S]
   rw [bS];refine bU (fun q e m=>∃ i,q+i=ps.length∧e 4=aC (d8 k r c)∧e 31=v∧e 32=aC (k+r)∧e 33=aC (i:Nat)∧Hid (∀ j p,j < i→ps[j]? = some p→kC k r c p.1.length p.2.length=true)) ps.length ⟨0,by omega,rfl,rfl,by simp [bB.set,aC],rfl,⟨fun j p h=>by omega⟩⟩ ?_;rintro q e m ⟨i,R,D,l,f,g,Y⟩;replace R:=Hid.mk R;by_cases N:i < ps.length
   ·have z:((i:Nat):Int) < k+r:=by omega
    have wi:=bY (n:=i) (by have:=K.out;omega);obtain ⟨p,B⟩:∃ p,ps[i]? = some p:=⟨_,azj N⟩
    obtain ⟨a,b,xa,xb,ha,M,x,y⟩:=O.at_ i p B;obtain ⟨ht,T⟩:=rL ha M;have fa:=b6 x;have fb:=b6 y;have oa:=bQ x;have ob:=bQ y;replace B:=Hid.mk B;simp only [↓pre,zag,qG,aM,simprocAttr,aJ,l,f,g,z,O.rd.addr',N,ht,T,fa,fb];rw [bS];refine bU (fun L e m=>∃ I,L+I=2∧e 4=aC (d8 k r c)∧e 31=v∧e 32=aC (k+r)∧e 33=aC (i:Nat)∧e 37 = .agg [a,b]∧e 38=aC (I:Nat)∧(1≤I→eV k r c p.1.length=true)∧(2≤I→eV k r c p.2.length=true)) 2 ⟨0,by omega,D,l,f,g,rfl,rfl,fun h=>by omega,fun h=>by omega⟩ ?_;rintro L e m ⟨I,d,D,l,f,g,u,o,H,Q⟩;have G:∀ n:Nat,(n=p.1.length∨n=p.2.length)→eV k r c n=false→E=120:=fun n hn M=>by
     rw [←s.out];have:dS k r c ps=false:=by
      cases h:dS k r c ps with
      | false=>rfl
      | true =>
       have:=(v7 h).2 p (az5 B.out);unfold kC at this;rw [aAn] at this;rcases hn with rfl | rfl
       ·rw [this.1] at M;cases M
       ·rw [this.2] at M;cases M
     rw [this];rfl
    have t:∀ n:Nat,eV k r c n=(decide ((n:Int)=0) || decide ((n:Int)=d8 k r c)):=fun _=>rfl
    obtain rfl | rfl | rfl:I=0∨I=1∨I=2:=by omega
    ·replace d:=Hid.mk d;clear H Q;by_cases A:(p.1.length:Int)=0
     ·simp only [↓pre,zag,qG,bH,aBV,uP,simprocAttr,D,l,f,g,u,o,x.len',A];exact ⟨L - 1,by have:=d.out;omega,1,by have:=d.out;omega,rfl,fun _=>by rw [t,decide_eq_true A];rfl,fun h=>by omega⟩
     ·by_cases C:(p.1.length:Int)=d8 k r c
      ·have W:¬ d8 k r c=0:=fun h=>A (C.trans h)
       simp only [↓pre,zag,qG,bH,aBV,uP,simprocAttr,D,l,f,g,u,o,x.len',C,W];exact ⟨L - 1,by have:=d.out;omega,1,by have:=d.out;omega,rfl,fun _=>by rw [t,decide_eq_true C,Bool.or_true],fun h=>by omega⟩
      ·have P:=G _ (.inl rfl) (by rw [t,decide_eq_false A,decide_eq_false C];rfl);subst P;simp only [↓pre,zag,qG,bH,aBV,simprocAttr,D,u,o,x.len',A,C]
    ·replace d:=Hid.mk d;replace H:=Hid.mk (H (by omega));clear Q;by_cases A:(p.2.length:Int)=0
     ·simp only [↓pre,zag,qG,bH,aBV,uQ,simprocAttr,D,l,f,g,u,o,y.len',A];exact ⟨L - 1,by have:=d.out;omega,2,by have:=d.out;omega,rfl,fun _=>H.out,fun h=>by rw [t,decide_eq_true A];rfl⟩
     ·by_cases C:(p.2.length:Int)=d8 k r c
      ·have W:¬ d8 k r c=0:=fun h=>A (C.trans h)
       simp only [↓pre,zag,qG,bH,aBV,uQ,simprocAttr,D,l,f,g,u,o,y.len',C,W];exact ⟨L - 1,by have:=d.out;omega,2,by have:=d.out;omega,rfl,fun _=>H.out,fun h=>by rw [t,decide_eq_true C,Bool.or_true]⟩
      ·have P:=G _ (.inr rfl) (by rw [t,decide_eq_false A,decide_eq_false C];rfl);subst P;simp only [↓pre,zag,qG,bH,aBV,simprocAttr,D,u,o,y.len',A,C]
    ·replace H:=Hid.mk (H (by omega));replace Q:=Hid.mk (Q (by omega));simp only [↓pre,zad,aBV,simprocAttr,D,l,f,g,o,wi];refine ⟨q - 1,by have:=R.out;omega,i+1,by have:=R.out;omega,rfl,⟨fun j p' U J => ?_⟩⟩;by_cases V:j=i
     ·subst V;rw [B.out] at J;cases J;unfold kC;rw [H.out,Q.out];rfl
     ·exact Y.out j p' (by omega) J
   ·have z:¬ ((i:Nat):Int) < k+r:=by omega
    have P:E=0:=by
     rw [←s.out];have:dS k r c ps=true:=by
      unfold dS;rw [decide_eq_true S,Bool.true_and,aAr];intro p Z;obtain ⟨j,U⟩:=aBg Z;have:=(ay5.1 U).1;exact Y.out j p (by omega) U
     rw [this];rfl
    subst P;simp only [↓pre,zad,simprocAttr,D,f,g,z]
  ·have hr:dS k r c ps=false:=by unfold dS;rw [decide_eq_false S];rfl
   rw [hr];refine aX Tryz.func233 aB (h:=?_);unfold Tryz.f233;simp only [↓pre,zab,qG,simprocAttr,aA]
   (first | refine aH (F) (by first | rfl | simp only [aA,aD, *]) ?_ | refine aG (F) (by first | rfl | simp only [aA,aD, *]) (by intro k;first | rfl | simp only [ *,zaa]) ?_);simp only [↓pre,zab,qG,fO,simprocAttr];(first | refine aH (hs) (by first | rfl | simp only [aA,aD, *]) ?_ | refine aG (hs) (by first | rfl | simp only [aA,aD, *]) (by intro k;first | rfl | simp only [ *,zaa]) ?_);simp only [↓pre,zae,qG,iS,fO,simprocAttr,O.rd.len',S]
def ac8 (kd ver:Int):Int:=if (kd=1∨kd=2)∧hU ver=true then 0 else 2
theorem ave (kd ver:Int):aR ayS 234 [.val (.int .u8 kd),aC ver] ⟨aC (ac8 kd ver),[]⟩:=by
 unfold ac8 hU;by_cases c:kd=1
 ·by_cases a:ver < 1
  ·rw [if_neg (by simp;omega)];refine aX Tryz.func234 aB (h:=?_);unfold Tryz.f234;simp only [↓pre,zab,uV,uA,simprocAttr,c,a,eq_self]
  ·by_cases d:(1073741824:Int) < ver
   ·rw [if_neg (by simp;omega)];refine aX Tryz.func234 aB (h:=?_);unfold Tryz.f234;simp only [↓pre,zab,uA,simprocAttr,c,a,d,eq_self]
   ·rw [if_pos ⟨.inl c,by simp;omega⟩];refine aX Tryz.func234 aB (h:=?_);unfold Tryz.f234;simp only [↓pre,zab,uA,simprocAttr,c,a,d,eq_self]
 ·by_cases b:kd=2
  ·by_cases a:ver < 1
   ·rw [if_neg (by simp;omega)];refine aX Tryz.func234 aB (h:=?_);unfold Tryz.f234;simp only [↓pre,zab,uV,uA,simprocAttr,b,a,eq_self]
   ·by_cases d:(1073741824:Int) < ver
    ·rw [if_neg (by simp;omega)];refine aX Tryz.func234 aB (h:=?_);unfold Tryz.f234;simp only [↓pre,zab,uV,uA,simprocAttr,b,a,d,eq_self]
    ·rw [if_pos ⟨.inr b,by simp;omega⟩];refine aX Tryz.func234 aB (h:=?_);unfold Tryz.f234;simp only [↓pre,zab,uV,uA,simprocAttr,b,a,d,eq_self]
  ·rw [if_neg (by simp [c,b])];refine aX Tryz.func234 aB (h:=?_);unfold Tryz.f234;simp only [↓pre,zab,uV,simprocAttr,c,b,eq_self]
def afh (k r c w:Int) (ps:List bO) (kd ver:Int):Int:=if yP k r c w ps=0 then ac8 kd ver else yP k r c w ps
theorem avf (k r c w:Int) (v:AV) (ps:List bO) (cells:List AV) (d:fV v ps cells) (kd ver:Int):aR ayS 231 [aA k r c w,v,.val (.int .u8 kd),aC ver] ⟨aC (afh k r c w ps kd ver),[]⟩:=by
 have e:=d.rd.plain;have a:=avd k r c w v ps cells d;have b:=ave kd ver;unfold afh;by_cases h:yP k r c w ps=0
 ·rw [h] at a;simp only [h,if_true] at a ⊢;refine aX Tryz.func231 aB (h:=?_);unfold Tryz.f231;simp only [↓pre,zab,ams,simprocAttr,aA]
  (first | refine aH (a) (by first | rfl | simp only [aD, *]) ?_ | refine aG (a) (by first | rfl | simp only [aA,aD, *]) (by intro k;first | rfl | simp only [ *,zaa]) ?_);simp only [↓pre,zab,simprocAttr,eq_self];(first | refine aH (b) (by first | rfl | simp only [aA,aD, *]) ?_ | refine aG (b) (by first | rfl | simp only [aA,aD, *]) (by intro k;first | rfl | simp only [ *,zaa]) ?_);simp only [↓pre,simprocAttr,sx,eq_self]
 ·rw [if_neg h];simp only [if_neg h] at a;refine aX Tryz.func231 aB (h:=?_);unfold Tryz.f231;simp only [↓pre,zab,ams,simprocAttr,aA]
  (first | refine aH (a) (by first | rfl | simp only [aD, *]) ?_ | refine aG (a) (by first | rfl | simp only [aA,aD, *]) (by intro k;first | rfl | simp only [ *,zaa]) ?_);simp only [↓pre,zab,simprocAttr,h]
def j4 (k r c w:Int) (bs:List UInt8) (ix kd ver:Int):Bool:=eS k r c w bs && (decide ((fX k r c w bs).kd=kd) && (decide ((fX k r c w bs).ix=ix) && decide ((fX k r c w bs).st=ver)))
def tB (k r c w:Int) (p:bO) (ix kd ver:Int):Option (List Int):=if j4 k r c w p.1 ix kd ver=true then some (cT k r p.1).vec else if j4 k r c w p.2 ix kd ver=true then some (cT k r p.2).vec else none
def pP (k r c w:Int) (ps:List bO) (kd ver:Int):Nat→Option (List Int)
 | 0=>none
 | n+1=>(pP k r c w ps kd ver n).or (tB k r c w (ps.getD n ([],[])) (n:Nat) kd ver)
def iP (k r c w:Int) (ps:List bO) (kd ver:Int):Option (List Int):=pP k r c w ps kd ver ps.length
theorem ah6 {k r c w:Int} {ps:List bO} {kd ver:Int} {n:Nat} {l:List Int} (h:pP k r c w ps kd ver n=some l):∀ m,n≤m→pP k r c w ps kd ver m=some l
 | 0,hm=>by
  have:n=0:=by omega
  subst this;exact h
 | m+1,hm=>by
  by_cases e:n=m+1
  ·subst e;exact h
  ·unfold pP;rw [ah6 h m (by omega)];rfl
def tC:Option (List Int)→AV
 | some l => .tree l.length l.length (bK l) false
 | none=>aN
theorem an6 {k r c w:Int} {bs:List UInt8} (h:eS k r c w bs=true):(fX k r c w bs).vv=tC (some (cT k r bs).vec):=by
 unfold fX;rw [if_pos h];rfl
theorem an7 {k r c w:Int} {bs:List UInt8} (h:eS k r c w bs=true):(fX k r c w bs).dv = .tree (cT k r bs).data.length (cT k r bs).data.length (aL (cT k r bs).data) false:=by
 unfold fX;rw [if_pos h];rfl
theorem avg (k r c w kd ver:Int) (v:AV) (ps:List bO) (cells:List AV) (hv:fV v ps cells) (hm:bG k r c w=true) (hr:dS k r c ps=true):aR ayS 163 [aA k r c w,v,.val (.int .u8 kd),aC ver] ⟨tC (iP k r c w ps kd ver),[]⟩:=by
 refine d6 ?_;have hp:=hv.rd.plain;have a2:=gX hm;obtain ⟨hl,a1⟩:=v7 hr;generalize J:iP k r c w ps kd ver=T;replace J:=Hid.mk J;replace a2:=Hid.mk a2;replace a1:=Hid.mk a1;have a7:ps.length≤16:=by have:=a2.out;omega
 replace hl:=Hid.mk hl;refine bI Tryz.func163 aB (h:=?_);unfold Tryz.f163;simp only [↓pre,zae,lG,simprocAttr,aA,hv.rd.len'];rw [bS];refine bU (fun q e m=>∃ i,q+i=ps.length∧e 2 = .val (.int .u8 kd)∧e 3=aC ver∧e 4 = .tptr 0 [aC k,aC r,aC c,aC w]∧e 16=v∧e 17=aC (ps.length:Nat)∧e 18=aC (i:Nat)∧Hid (pP k r c w ps kd ver i=none)) ps.length ⟨0,by omega,rfl,rfl,rfl,rfl,rfl,rfl,⟨rfl⟩⟩ ?_;rintro q e m ⟨i,hq,L,K,x,s,o,g,hJ⟩;replace hq:=Hid.mk hq;by_cases a3:i < ps.length
 ·have Q:((i:Nat):Int) < ((ps.length:Nat):Int):=by omega
  have wi:=bY (n:=i) (by omega);obtain ⟨p,S⟩:∃ p,ps[i]? = some p:=⟨_,azj a3⟩
  obtain ⟨a,b,xa,xb,ha,hb,V,Z⟩:=hv.at_ i p S;have X:=a1.out p (az5 S);unfold kC at X;rw [aAn] at X;have u:=afg k r c w a p.1 xa V hm X.1;have t:=afg k r c w b p.2 xb Z hm X.2;obtain ⟨ht,a4⟩:=rL ha hb;have fa:=b6 V;have fb:=b6 Z;have oa:=bQ V;have ob:=bQ Z;have a0:ps.getD i ([],[])=p:=by rw [azp,S];rfl
  have A:pP k r c w ps kd ver (i+1)=tB k r c w p (i:Nat) kd ver:=by
   show (pP k r c w ps kd ver i).or _=_;rw [hJ.out,a0];rfl
  have B:∀ l,tB k r c w p (i:Nat) kd ver=some l→T=some l:=fun l h=>by
   rw [←J.out];exact ah6 (A.trans h) _ (by omega)
  have N:eS k r c w p.1=true→(fX k r c w p.1).vv=tC (some (cT k r p.1).vec):=an6;have P:eS k r c w p.2=true→(fX k r c w p.2).vv=tC (some (cT k r p.2).vec):=an6;have a6:=vL k r c w p.1;have a5:=vL k r c w p.2;have R:tB k r c w p (i:Nat) kd ver=if j4 k r c w p.1 (i:Nat) kd ver=true then some (cT k r p.1).vec else if j4 k r c w p.2 (i:Nat) kd ver=true then some (cT k r p.2).vec else none:=rfl
  generalize tB k r c w p (i:Nat) kd ver=T1 at *
  have G:j4 k r c w p.1 (i:Nat) kd ver=(eS k r c w p.1 && (decide ((fX k r c w p.1).kd=kd) && (decide ((fX k r c w p.1).ix=(i:Nat)) && decide ((fX k r c w p.1).st=ver)))):=rfl;have H:j4 k r c w p.2 (i:Nat) kd ver=(eS k r c w p.2 && (decide ((fX k r c w p.2).kd=kd) && (decide ((fX k r c w p.2).ix=(i:Nat)) && decide ((fX k r c w p.2).st=ver)))):=rfl;generalize j4 k r c w p.1 (i:Nat) kd ver=B0 at *
  generalize j4 k r c w p.2 (i:Nat) kd ver=B1 at *
  generalize fX k r c w p.1=s0 at *
  generalize fX k r c w p.2=s1 at *
  generalize eS k r c w p.1=i0 at *
  generalize eS k r c w p.2=i1 at *
  generalize (cT k r p.1).vec=l0 at *
  generalize (cT k r p.2).vec=l1 at *
  obtain ⟨⟨n1,y1,g1⟩,⟨n2,y2,g2⟩⟩:=a6;obtain ⟨⟨n3,y3,g3⟩,⟨n4,y4,g4⟩⟩:=a5;have f1:=b6 g1;have f2:=b6 g2;have f3:=b6 g3;have f4:=b6 g4;have q1:=bQ g1;have q2:=bQ g2;have q3:=bQ g3;have q4:=bQ g4;have t1:=cH g1;have t2:=cH g2;have t3:=cH g3;have t4:=cH g4;have pa:=V.plain;have pb:=Z.plain;simp only [fW.cells] at u t;replace S:=Hid.mk S;replace a0:=Hid.mk a0;replace A:=Hid.mk A;replace B:=Hid.mk B;replace N:=Hid.mk N;replace P:=Hid.mk P;replace R:=Hid.mk R;replace G:=Hid.mk G;replace H:=Hid.mk H;simp only [↓pre,zag,lG,aM,simprocAttr,aJ,fa,fb,s,o,g,Q,hv.rd.addr',a3,ht,a4];rw [bS];refine bU (fun q2 e m=>∃ kk,q2+kk=2∧e 2 = .val (.int .u8 kd)∧e 3=aC ver∧e 4 = .tptr 0 [aC k,aC r,aC c,aC w]∧e 9=aC (i:Nat)∧e 16=v∧e 17=aC (ps.length:Nat)∧e 18=aC (i:Nat)∧e 23 = .agg [a,b]∧e 24=aC (kk:Nat)∧(1≤kk→B0=false)∧(2≤kk→B1=false)) 2 ⟨0,by omega,L,K,x,rfl,s,o,g,rfl,rfl,fun h=>by omega,fun h=>by omega⟩ ?_;rintro W e m ⟨kk,C,L,K,x,U,s,o,g,f,d,c1,c2⟩;obtain rfl | rfl | rfl:kk=0∨kk=1∨kk=2:=by omega
  ·replace C:=Hid.mk C;clear c1 c2;have j:B0=false→∃ y,y < W∧y+1=2∧(1≤1→B0=false)∧(2≤1→B1=false):=fun h=>⟨W - 1,by have:=C.out;omega,by have:=C.out;omega,fun _=>h,fun h=>by omega⟩
   replace j:=Hid.mk j;cases i0 with
   | false =>
    simp only [↓pre,zag,lG,bH,aBV,simprocAttr,x,f,d]
    (first | refine aH (u) (by first | rfl | simp only [aD, *]) ?_ | refine aG (u) (by first | rfl | simp only [aA,aD, *]) (by intro k;first | rfl | simp only [ *,zaa]) ?_);simp only [↓pre,zag,lG,aBV,uP,aM,simprocAttr,aJ,f1,f2,t1,t2,L,K,x,U,s,o,g,f,d]
    obtain ⟨y,F,I,E,D⟩:=j.out (by rw [G.out];rfl);exact ⟨y,F,1,I,rfl,E,D⟩
   | true =>
    by_cases M:s0.kd=kd
    ·by_cases O:s0.ix=(i:Nat)
     ·by_cases k3:s0.st=ver
      ·have hT:=B.out l0 (by rw [R.out,G.out,decide_eq_true M,decide_eq_true O,decide_eq_true k3];rfl);have z:=N.out rfl;have Y:=fun m=>acA (k:=0) (m:=m) g1
       rw [z] at Y;replace z:=Hid.mk z;subst hT;replace Y:=Hid.mk Y;simp only [↓pre,zag,lG,bH,aBV,simprocAttr,x,f,d]
       (first | refine aH (u) (by first | rfl | simp only [aD, *]) ?_ | refine aG (u) (by first | rfl | simp only [aA,aD, *]) (by intro k;first | rfl | simp only [ *,zaa]) ?_);simp only [↓pre,zag,lG,aM,simprocAttr,aJ,f1,f2,t1,t2,L,K,U,M,O,k3]
       rw [z.out];exact ⟨0,Y.out _⟩
      ·simp only [↓pre,zag,lG,bH,aBV,simprocAttr,x,f,d]
       (first | refine aH (u) (by first | rfl | simp only [aD, *]) ?_ | refine aG (u) (by first | rfl | simp only [aA,aD, *]) (by intro k;first | rfl | simp only [ *,zaa]) ?_);simp only [↓pre,zag,lG,aBV,uP,aM,simprocAttr,aJ,f1,f2,t1,t2,L,K,x,U,s,o,g,f,d,M,O,k3]
       obtain ⟨y,F,I,E,D⟩:=j.out (by rw [G.out,decide_eq_false k3];simp);exact ⟨y,F,1,I,rfl,E,D⟩
     ·simp only [↓pre,zag,lG,bH,aBV,simprocAttr,x,f,d]
      (first | refine aH (u) (by first | rfl | simp only [aD, *]) ?_ | refine aG (u) (by first | rfl | simp only [aA,aD, *]) (by intro k;first | rfl | simp only [ *,zaa]) ?_);simp only [↓pre,zag,lG,aBV,uP,aM,simprocAttr,aJ,f1,f2,t1,t2,L,K,x,U,s,o,g,f,d,M,O]
      obtain ⟨y,F,I,E,D⟩:=j.out (by rw [G.out,decide_eq_false O];simp);exact ⟨y,F,1,I,rfl,E,D⟩
    ·simp only [↓pre,zag,lG,bH,aBV,simprocAttr,x,f,d]
     (first | refine aH (u) (by first | rfl | simp only [aD, *]) ?_ | refine aG (u) (by first | rfl | simp only [aA,aD, *]) (by intro k;first | rfl | simp only [ *,zaa]) ?_);simp only [↓pre,zag,lG,aBV,uP,aM,simprocAttr,aJ,f1,f2,t1,t2,L,K,x,U,s,o,g,f,d,M]
     obtain ⟨y,F,I,E,D⟩:=j.out (by rw [G.out,decide_eq_false M];simp);exact ⟨y,F,1,I,rfl,E,D⟩
  ·replace C:=Hid.mk C;replace c1:=Hid.mk (c1 (by omega));clear c2;have j:B1=false→∃ y,y < W∧y+2=2∧(1≤2→B0=false)∧(2≤2→B1=false):=fun h=>⟨W - 1,by have:=C.out;omega,by have:=C.out;omega,fun _=>c1.out,fun _=>h⟩
   replace j:=Hid.mk j;cases i1 with
   | false =>
    simp only [↓pre,zag,lG,bH,aBV,simprocAttr,x,f,d]
    (first | refine aH (t) (by first | rfl | simp only [aD, *]) ?_ | refine aG (t) (by first | rfl | simp only [aA,aD, *]) (by intro k;first | rfl | simp only [ *,zaa]) ?_);simp only [↓pre,zag,lG,aBV,uQ,aM,simprocAttr,aJ,f3,f4,t3,t4,L,K,x,U,s,o,g,f,d]
    obtain ⟨y,F,I,E,D⟩:=j.out (by rw [H.out];rfl);exact ⟨y,F,2,I,rfl,E,D⟩
   | true =>
    by_cases M:s1.kd=kd
    ·by_cases O:s1.ix=(i:Nat)
     ·by_cases k3:s1.st=ver
      ·have hT:=B.out l1 (by rw [R.out,c1.out,H.out,decide_eq_true M,decide_eq_true O,decide_eq_true k3];rfl);have z:=P.out rfl;have Y:=fun m=>acA (k:=0) (m:=m) g3
       rw [z] at Y;replace z:=Hid.mk z;subst hT;replace Y:=Hid.mk Y;simp only [↓pre,zag,lG,bH,aBV,simprocAttr,x,f,d]
       (first | refine aH (t) (by first | rfl | simp only [aD, *]) ?_ | refine aG (t) (by first | rfl | simp only [aA,aD, *]) (by intro k;first | rfl | simp only [ *,zaa]) ?_);simp only [↓pre,zag,lG,aM,simprocAttr,aJ,f3,f4,t3,t4,L,K,U,M,O,k3]
       rw [z.out];exact ⟨0,Y.out _⟩
      ·simp only [↓pre,zag,lG,bH,aBV,simprocAttr,x,f,d]
       (first | refine aH (t) (by first | rfl | simp only [aD, *]) ?_ | refine aG (t) (by first | rfl | simp only [aA,aD, *]) (by intro k;first | rfl | simp only [ *,zaa]) ?_);simp only [↓pre,zag,lG,aBV,uQ,aM,simprocAttr,aJ,f3,f4,t3,t4,L,K,x,U,s,o,g,f,d,M,O,k3]
       obtain ⟨y,F,I,E,D⟩:=j.out (by rw [H.out,decide_eq_false k3];simp);exact ⟨y,F,2,I,rfl,E,D⟩
     ·simp only [↓pre,zag,lG,bH,aBV,simprocAttr,x,f,d]
      (first | refine aH (t) (by first | rfl | simp only [aD, *]) ?_ | refine aG (t) (by first | rfl | simp only [aA,aD, *]) (by intro k;first | rfl | simp only [ *,zaa]) ?_);simp only [↓pre,zag,lG,aBV,uQ,aM,simprocAttr,aJ,f3,f4,t3,t4,L,K,x,U,s,o,g,f,d,M,O]
      obtain ⟨y,F,I,E,D⟩:=j.out (by rw [H.out,decide_eq_false O];simp);exact ⟨y,F,2,I,rfl,E,D⟩
    ·simp only [↓pre,zag,lG,bH,aBV,simprocAttr,x,f,d]
     (first | refine aH (t) (by first | rfl | simp only [aD, *]) ?_ | refine aG (t) (by first | rfl | simp only [aA,aD, *]) (by intro k;first | rfl | simp only [ *,zaa]) ?_);simp only [↓pre,zag,lG,aBV,uQ,aM,simprocAttr,aJ,f3,f4,t3,t4,L,K,x,U,s,o,g,f,d,M]
     obtain ⟨y,F,I,E,D⟩:=j.out (by rw [H.out,decide_eq_false M];simp);exact ⟨y,F,2,I,rfl,E,D⟩
  ·replace c1:=Hid.mk (c1 (by omega));replace c2:=Hid.mk (c2 (by omega));simp only [↓pre,zad,aBV,simprocAttr,L,K,x,s,o,g,d,wi];refine ⟨q - 1,by have:=hq.out;omega,i+1,by have:=hq.out;omega,rfl,⟨?_⟩⟩;rw [A.out,R.out,c1.out,c2.out];rfl
 ·have Q:¬ ((i:Nat):Int) < ((ps.length:Nat):Int):=by omega
  have hi:i=ps.length:=by have:=hq.out;omega
  have hT:T=none:=by rw [←J.out];unfold iP;rw [←hi];exact hJ.out
  subst hT;simp only [↓pre,zad,simprocAttr,o,g,Q];exact ⟨0,by unfold tC aN;rw [gB]⟩
structure avh (k r c w:Int) (s:rK):Prop where
 vec:jB k r c w s.vec=0
 st:s.st=kA s.vec
 ix0:0≤s.ix
 ix1:s.ix < s.vec.length
 kd:s.kd=1∨s.kd=2
 ce:s.vec[s.ix.toNat]? = some s.ce
 data:(s.data.length:Int)=c
theorem afi {k r c w:Int} {bs:List UInt8} (h:eS k r c w bs=true):avh k r c w (cT k r bs):=by
 unfold eS uG eA at h;simp only [aAn,decide_eq_true_eq,Bool.or_eq_true] at h;obtain ⟨l,j,i,f,b,a,g,e,d⟩:=h;exact ⟨f,b,a.1,a.2,g,e,d⟩
theorem avi {k r c w:Int} {l:List Int} (h:jB k r c w l=0):(l.length:Int)=k+r∧∀ v∈l,1≤v∧v≤1073741824:=by
 unfold jB at h;split at h
 ·split at h
  ·split at h
   ·omega
   ·rename_i g e b;refine ⟨e,fun v f => ?_⟩;have:¬ (l.any fun n => !hU n)=true:=b;rw [List.any_eq_true] at this;have a:hU v=true:=by
     cases d:hU v with
     | true=>rfl
     | false=>exact absurd ⟨v,f,by rw [d];rfl⟩ this
    unfold hU at a;exact of_decide_eq_true a
  ·omega
 ·omega
theorem avj {k r c w:Int} {p:bO} {ix kd ver:Int} {l:List Int} (h:tB k r c w p ix kd ver=some l):jB k r c w l=0∧∃ bs,(bs=p.1∨bs=p.2)∧j4 k r c w bs ix kd ver=true∧l=(cT k r bs).vec:=by
 unfold tB at h;split at h
 ·rename_i a;cases h;have b:=a;unfold j4 at a;rw [aAn] at a;exact ⟨(afi a.1).vec,_,.inl rfl,b,rfl⟩
 ·split at h
  ·rename_i a;cases h;have b:=a;unfold j4 at a;rw [aAn] at a;exact ⟨(afi a.1).vec,_,.inr rfl,b,rfl⟩
  ·cases h
theorem an8 {k r c w:Int} {ps:List bO} {kd ver:Int}:∀ (n:Nat) (l:List Int),pP k r c w ps kd ver n=some l→∃ i,i < n∧tB k r c w (ps.getD i ([],[])) (i:Nat) kd ver=some l
 | 0,l,h=>by cases h
 | n+1,l,h=>by
  unfold pP at h;cases a:pP k r c w ps kd ver n with
  | some d =>
   rw [a] at h;cases h;obtain ⟨i,hi,b⟩:=an8 n _ a;exact ⟨i,by omega,b⟩
  | none =>
   rw [a] at h;exact ⟨n,by omega,h⟩
theorem ah7 {k r c w:Int} {ps:List bO} {kd ver:Int} {l:List Int} (h:iP k r c w ps kd ver=some l):(l.length:Int)=k+r∧∀ v∈l,1≤v∧v≤1073741824:=by
 obtain ⟨i,hi,a⟩:=an8 _ _ h;exact avi (avj a).1
def nZ (k r c w:Int) (p:bO) (ix kd ver:Int):Option fW:=if kU k r c w p.1 ix kd ver=true then some (fX k r c w p.1) else if kU k r c w p.2 ix kd ver=true then some (fX k r c w p.2) else none
theorem an9 {k r c w:Int} {p:bO} {ix kd ver:Int} {s:fW} (h:nZ k r c w p ix kd ver=some s):s.Rd∧∃ n,abJ k r c w p ix kd ver = .tup [aC n,s.v,aV true,aC 0]:=by
 unfold nZ at h;unfold abJ;split at h
 ·rename_i a;cases h;exact ⟨vL _ _ _ _ _,0,by rw [if_pos a]⟩
 ·rename_i a;split at h
  ·rename_i b;cases h;exact ⟨vL _ _ _ _ _,1,by rw [if_neg a,if_pos b]⟩
  ·cases h
theorem avk {k r c w:Int} {p:bO} {ix kd ver:Int} (h:nZ k r c w p ix kd ver=none):abJ k r c w p ix kd ver = .tup [aC 0,tA.v,aV false,aC 0]:=by
 unfold nZ at h;unfold abJ;split at h
 ·cases h
 ·rename_i b;split at h
  ·cases h
  ·rename_i a;rw [if_neg b,if_neg a]
def n9:Nat→Bool:=fun d=>d != 13
theorem avl (k r c w kd ver:Int) (v:AV) (ps:List bO) (cells:List AV) (Z:fV v ps cells) (hm:bG k r c w=true) (hr:dS k r c ps=true) (hk:kd=1∨kd=2) (m0:aF) (g:FuncId) (E:List AV) (oM:Nat→aF→Prop) (h0:oM 0 m0) (o:∀ i m m',oM i m→lU m m'→oM i m')
 (U:∀ (l:List Int) (i:Nat) (p:bO) (m:aF) (s:fW),iP k r c w ps kd ver=some l→i < ps.length→ps[i]? = some p→nZ k r c w p (i:Nat) kd (l.getD i 0)=some s→oM i m→fH ayS g (aC (i:Nat) :: .agg s.cells::E) m fun H m'=>H = .tup []∧oM (i+1) m')
 (R:∀ (l:List Int) (i:Nat) (p:bO) (m:aF),iP k r c w ps kd ver=some l→i < ps.length→ps[i]? = some p→nZ k r c w p (i:Nat) kd (l.getD i 0)=none→oM i m→oM (i+1) m) :
 fH ayS 161 [aA k r c w,v,.val (.int .u8 kd),aC ver,.clo g E] m0 fun H m'=>H = .tup []∧oM (if (iP k r c w ps kd ver).isSome=true then ps.length else 0) m':=by
 have hp:=Z.rd.plain;have d:=avg k r c w kd ver v ps cells Z hm hr;have S:=gX hm;obtain ⟨Y,Q⟩:=v7 hr;replace U:=Hid.mk U;replace R:=Hid.mk R;replace o:=Hid.mk o;replace S:=Hid.mk S;replace Q:=Hid.mk Q;replace Y:=Hid.mk Y;cases O:iP k r c w ps kd ver with
 | none =>
  rw [O] at d;unfold tC aN at d;have M:lenE ayS 41 (.val (.slice none 0 0))=some (.val (.int .i64 0)):=by kernel_rfl
  refine bI Tryz.func161 n9 (h:=?_);unfold Tryz.f161;simp only [↓pre,zah,vC,n9,simprocAttr,aA,bne]
  (first | refine aH (d) (by first | rfl | simp only [aD, *]) ?_ | refine aG (d) (by first | rfl | simp only [aA,aD, *]) (by intro k;first | rfl | simp only [ *,zaa]) ?_);simp only [↓pre,za,n9,simprocAttr,bne,M]
  rw [bS];refine bU (fun q e m=>e 21 = .val (.int .i64 0)∧e 22 = .val (.int .i64 0)∧Hid (oM 0 m)) 0 ⟨rfl,rfl,⟨h0⟩⟩ ?_;rintro q e m ⟨u,y,X⟩;have:¬ (0:Int) < 0:=by omega
  simp only [↓pre,zah,n9,simprocAttr,bne,u,y,this];exact X.out
 | some l =>
  rw [O] at d;obtain ⟨a1,N⟩:=ah7 O;have a4:l.length=ps.length:=by have:=Y.out;omega
  have A:aZ (.tree l.length l.length (bK l) false) l.length (bK l++[]):=⟨.inr (.inr ⟨_,false,by rw [aBi],ay7 _⟩)⟩
  have a3:l.length≤16:=by have:=S.out;omega
  unfold tC at d;replace N:=Hid.mk N;replace a1:=Hid.mk a1;replace O:=Hid.mk O;refine bI Tryz.func161 n9 (h:=?_);unfold Tryz.f161;simp only [↓pre,zah,vC,n9,simprocAttr,aA,bne]
  (first | refine aH (d) (by first | rfl | simp only [aD, *]) ?_ | refine aG (d) (by first | rfl | simp only [aA,aD, *]) (by intro k;first | rfl | simp only [ *,zaa]) ?_);simp only [↓pre,za,vC,n9,simprocAttr,bne,A.len']
  rw [bS];refine bU (fun q e m=>∃ i,q+i=l.length∧e 1=v∧e 2 = .val (.int .u8 kd)∧e 4 = .clo g E∧e 5 = .tptr 0 [aC k,aC r,aC c,aC w]∧e 20 = .tree l.length l.length (bK l) false∧e 21=aC (l.length:Nat)∧e 22=aC (i:Nat)∧Hid (oM i m)) l.length ⟨0,by omega,rfl,rfl,rfl,rfl,rfl,rfl,rfl,⟨h0⟩⟩ ?_;rintro q e m ⟨i,K,e1,e2,e4,e5,G,u,y,X⟩;replace K:=Hid.mk K;by_cases P:i < l.length
  ·have B:((i:Nat):Int) < ((l.length:Nat):Int):=by omega
   have wi:=bY (n:=i) (by omega);have D:i < ps.length:=by omega
   obtain ⟨z,hz⟩:∃ z,l[i]? = some z:=⟨_,azj P⟩
   have T:=nB (x:=[]) hz;rw [aBi] at T A;obtain ⟨p,C⟩:∃ p,ps[i]? = some p:=⟨_,azj D⟩
   obtain ⟨a,b,xa,xb,ha,hb,W,a0⟩:=Z.at_ i p C;obtain ⟨ht,V⟩:=rL ha hb;have F:=N.out z (az5 hz);have I:l.getD i 0=z:=by rw [azp,hz];rfl
   have t:=avc k r c w (i:Nat) kd z a b p xa xb W a0 hm (Q.out p (az5 C)) hk (by omega) (by have:=Y.out;omega) F.1 F.2;have pa:=W.plain;have pb:=a0.plain;have f:∀ (cs:List AV),lU m ((m.push ⟨tA.cells,127,.var,true⟩).put m.next (some ⟨cs,127,.var,true⟩)):=fun cs=>⟨rfl,by rw [bX,bM];omega,fun j x hj Y=>by rw [aO,if_neg (by omega),aT,if_neg (by omega)];exact hj⟩
   replace hz:=Hid.mk hz;replace C:=Hid.mk C;replace F:=Hid.mk F;replace I:=Hid.mk I;replace f:=Hid.mk f;cases J:nZ k r c w p (i:Nat) kd z with
   | none =>
    rw [avk J] at t;replace J:=Hid.mk J;simp only [fW.v,fW.cells,tA,aN,aC,aV] at t;simp only [↓pre,za,vC,n9,simprocAttr,bne,e1,e2,e5,G,u,y,B,A.addr',P,T,Z.rd.addr',D,ht,V]
    (first | refine aH (t) (by first | rfl | simp only [aA,aD, *]) ?_ | refine aG (t) (by first | rfl | simp only [aD, *]) (by intro k;first | rfl | simp only [ *,zaa]) ?_);simp only [↓pre,zah,vC,n9,aM,simprocAttr,bne]
    refine dE (by kernel_rfl) ?_;simp only [↓pre,za,vC,n9,simprocAttr,bne,aJ];refine dE (by kernel_rfl) ?_;simp only [↓pre,zah,n9,simprocAttr,bne,e1,e2,e4,e5,G,u,y,wi];exact ⟨q - 1,by have:=K.out;omega,i+1,by have:=K.out;omega,rfl,⟨R.out l i p _ O.out D C.out (by rw [I.out];exact J.out) (o.out i m _ X.out (f.out _))⟩⟩
   | some s =>
    obtain ⟨a2,n0,L⟩:=an9 J;rw [L] at t;obtain ⟨⟨n1,y1,g1⟩,⟨n2,y2,g2⟩⟩:=a2;have q1:=bQ g1;have q2:=bQ g2;have t1:=cH g1;have t2:=cH g2;replace J:=Hid.mk J;replace L:=Hid.mk L;simp only [fW.v,fW.cells,aC,aV] at t;simp only [↓pre,za,vC,n9,simprocAttr,bne,e1,e2,e5,G,u,y,B,A.addr',P,T,Z.rd.addr',D,ht,V]
    (first | refine aH (t) (by first | rfl | simp only [aA,aD, *]) ?_ | refine aG (t) (by first | rfl | simp only [aD, *]) (by intro k;first | rfl | simp only [sq, *]) ?_);simp only [↓pre,zah,vC,n9,aM,simprocAttr,bne]
    refine dE (by kernel_rfl) ?_;simp only [↓pre,za,vC,n9,simprocAttr,bne,aJ];refine dE (by kernel_rfl) ?_;simp only [↓pre,za,vC,n9,simprocAttr,bne,e4];refine nR (U.out l i p _ s O.out D C.out (by rw [I.out];exact J.out) (o.out i m _ X.out (f.out _))) ?_;rintro H m' ⟨rfl,hI⟩;simp only [↓pre,zah,n9,simprocAttr,bne,e1,e2,e4,e5,G,u,y,wi];exact ⟨q - 1,by have:=K.out;omega,i+1,by have:=K.out;omega,rfl,⟨hI⟩⟩
  ·have B:¬ ((i:Nat):Int) < ((l.length:Nat):Int):=by omega
   have hi:i=ps.length:=by have:=K.out;omega
   simp only [↓pre,zah,n9,simprocAttr,bne,u,y,B];rw [←hi];exact X.out
def mW (k r c w:Int) (p:bO) (ix kd ver:Int):List UInt8:=if kU k r c w p.1 ix kd ver=true then (cT k r p.1).data else if kU k r c w p.2 ix kd ver=true then (cT k r p.2).data else []
def iV (k r c w:Int) (ps:List bO) (kd ver:Int):List (List UInt8):=match iP k r c w ps kd ver with
 | some l=>(aAm ps.length).map fun j=>mW k r c w (ps.getD j ([],[])) (j:Nat) kd (l.getD j 0)
 | none=>(aAm ps.length).map fun _=>[]
theorem ah8 (k r c w:Int) (ps:List bO) (kd ver:Int):(iV k r c w ps kd ver).length=ps.length:=by
 unfold iV;split <;> simp
theorem afj {k r c w:Int} {bs:List UInt8} {ix kd ver:Int} (h:kU k r c w bs ix kd ver=true):eS k r c w bs=true:=by
 unfold kU nY at h;rw [aAn] at h;have:=h.1;unfold gZ at this;rw [aAn] at this;exact this.1
theorem ah9 {k r c w:Int} {p:bO} {ix kd ver:Int} {s:fW} (h:nZ k r c w p ix kd ver=some s):(((mW k r c w p ix kd ver).length:Nat):Int)=c∧s.dv = .tree (mW k r c w p ix kd ver).length (mW k r c w p ix kd ver).length (aL (mW k r c w p ix kd ver)) false:=by
 unfold nZ at h;unfold mW;split at h
 ·rename_i a;cases h;rw [if_pos a];exact ⟨(afi (afj a)).data,an7 (afj a)⟩
 ·rename_i a;split at h
  ·rename_i b;cases h;rw [if_neg a,if_pos b];exact ⟨(afi (afj b)).data,an7 (afj b)⟩
  ·cases h
theorem aoa {k r c w:Int} {p:bO} {ix kd ver:Int} (h:nZ k r c w p ix kd ver=none):mW k r c w p ix kd ver=[]:=by
 unfold nZ at h;unfold mW;split at h
 ·cases h
 ·rename_i b;split at h
  ·cases h
  ·rename_i a;rw [if_neg b,if_neg a]
theorem avm (k r c w:Int) (p:bO) (ix kd ver:Int):(mW k r c w p ix kd ver).length=0∨(((mW k r c w p ix kd ver).length:Nat):Int)=c:=by
 cases h:nZ k r c w p ix kd ver with
 | none=>left;rw [aoa h];rfl
 | some s=>right;exact (ah9 h).1
theorem aob (k r c w:Int) (C:Nat) (d:c=(C:Nat)) (ps:List bO) (kd ver:Int):abH (iV k r c w ps kd ver) C:=by
 intro b a;unfold iV at a;split at a
 ·obtain ⟨j,_,rfl⟩:=azm.1 a;rcases avm k r c w (ps.getD j ([],[])) (j:Nat) kd _ with h | h
  ·exact .inl h
  ·exact .inr (by omega)
 ·obtain ⟨j,_,rfl⟩:=azm.1 a;exact .inl rfl
def fT (b:List UInt8):AV:=if b.length=0 then aN else .tree b.length b.length (aL b) false
theorem abK (b:List UInt8):aZ (fT b) b.length (b.map bA++[]):=by
 unfold fT;split
 ·rename_i h;rw [h];exact ⟨.inl ⟨rfl,rfl⟩⟩
 ·exact ⟨.inr (.inr ⟨_,false,by rw [aBi];rfl,ay7 _⟩)⟩
def fR (T:List (List UInt8)) (n:Nat):List AV:=(aAm T.length).map fun j=>if j < n then fT (T.getD j []) else aN
theorem afk (T:List (List UInt8)) (n:Nat):(fR T n).length=T.length:=by simp [fR]
theorem afl {T:List (List UInt8)} {n j:Nat} (h:j < T.length):(fR T n)[j]? = some (if j < n then fT (T.getD j []) else aN):=by
 unfold fR;rw [azl,aBO h];rfl
theorem aia {T:List (List UInt8)} {n a:Nat} (h:∀ j,j < T.length→(if j < n then fT (T.getD j []) else aN)=(if j < a then fT (T.getD j []) else aN)):fR T n=fR T a:=by
 unfold fR;apply aAt;intro j b;exact h j (List.mem_range.1 b)
theorem aoc {T:List (List UInt8)} {i:Nat} (hi:i < T.length):cP (fR T i) i [fT (T.getD i [])]=fR T (i+1):=by
 have c:=afk T i;unfold cP;apply List.ext_getElem?;intro j;by_cases a:j < T.length
 ·rw [afl a,azT];have b:((fR T i).take i).length=i:=by rw [aBP,c];omega
  by_cases d:j < i
  ·rw [List.getElem?_append_left (by omega),aBQ d,afl a,if_pos d,if_pos (by omega)]
  ·rw [aze (by omega),b];by_cases e:j=i
   ·subst e;rw [Nat.sub_self,if_pos (by omega)];rfl
   ·rw [aze (by simp;omega),List.getElem?_drop];simp only [aAC,List.length_nil];rw [show i+(0+1)+(j - i - (0+1))=j by omega,afl a,if_neg (by omega),if_neg (by omega)]
 ·rw [ay3 (by simp [c];omega),ay3 (by rw [afk];omega)]
theorem aod (T:List (List UInt8)) (v:AV) (c:aZ v T.length (fR T T.length)):fQ v T (fR T T.length):=⟨c,fun i b a=>by
 have hi:=(ay5.1 a).1;refine ⟨_,[],afl hi, ?_⟩;rw [if_pos hi,s6 a];exact abK b⟩
theorem avn (T:List (List UInt8)) (n:Nat):c9 (fR T n)=true:=aaj _ fun c a=>by
 unfold fR at a;obtain ⟨j,_,rfl⟩:=azm.1 a;split
 ·exact (abK _).plain
 ·rfl
theorem avo (m:aF) (i N cnt:Nat) (s:fW) (hs:s.Rd) (cs:List AV) (hi:i < N) (o:cs.length=N) (l:cnt < 1000) (f:m.at_ 0=some ⟨cs,52,.var,true⟩) (d:m.at_ 1=some ⟨[.sl 0 0 N N true],45,.var,true⟩) (g:m.at_ 2=some ⟨[aC (cnt:Nat)],3,.var,true⟩):fH ayS 235 [aC (i:Nat),.agg s.cells,.ptr 1 0,.ptr 2 0] m fun b m'=>b = .tup []∧m'=(m.put 0 (some ⟨cP cs i [s.dv],52,.var,true⟩)).put 2 (some ⟨[aC (cnt+1:Nat)],3,.var,true⟩):=by
 obtain ⟨⟨t,r,j⟩,⟨p,v,a⟩⟩:=hs;have c:=b6 j;have k:=b6 a;have q:=bQ j;have u:=bQ a;have w1:=bY (n:=cnt) (by omega);have e:i+1≤cs.length:=by omega
 obtain ⟨kd,ix,ce,st,vv,dv⟩:=s;simp only [fW.cells] at *
 rcases a.form with ⟨rfl,_⟩ | ⟨_,_,rfl,_⟩ | ⟨_,_,rfl,_⟩
 ·refine bI Tryz.func235 aB (h:=?_);unfold Tryz.f235;simp only [↓pre,zag,ahe,bH,aBj,simprocAttr,aJ,aBS,c,f,d,g,hi,e,w1,aN]
 ·refine bI Tryz.func235 aB (h:=?_);unfold Tryz.f235;simp only [↓pre,zag,ahe,bH,aBj,simprocAttr,aJ,aBS,c,k,f,d,g,hi,e,w1]
 ·refine bI Tryz.func235 aB (h:=?_);unfold Tryz.f235;simp only [↓pre,zag,ahe,bH,aBj,simprocAttr,aJ,aBS,c,k,f,d,g,hi,e,w1]
theorem aib {k r c w:Int} {ps:List bO} {kd ver:Int} {l:List Int} (b:iP k r c w ps kd ver=some l) {i:Nat} {p:bO} (a:ps[i]? = some p):(iV k r c w ps kd ver).getD i []=mW k r c w p (i:Nat) kd (l.getD i 0):=by
 have hi:=(ay5.1 a).1;unfold iV;rw [b];simp only;rw [azp,azl,aBO hi,az3,aAB,azp (l:=ps),a];rfl
theorem aoe {k r c w:Int} {ps:List bO} {kd ver:Int} (a:iP k r c w ps kd ver=none) (n:Nat):bW (iV k r c w ps kd ver) n=[]:=by
 unfold bW;rw [List.filter_eq_nil_iff];intro i hi;unfold iV;rw [a];simp only;rw [azp,azl];cases (aAm ps.length)[i]? <;> simp
def oA (k r c w:Int) (ps:List bO) (kd ver:Int):Mx:=abA k.toNat ((bW (iV k r c w ps kd ver) (k+r).toNat).take k.toNat) (gK (iV k r c w ps kd ver))
def iZ (k r c w:Int) (ps:List bO) (kd ver:Int):Nat:=(bW (iV k r c w ps kd ver) (k+r).toNat).length
def wX (k r c w:Int) (ps:List bO) (kd ver:Int):AV:=if iZ k r c w ps kd ver < k.toNat then .tup [aN,aC 5] else .tup [bD (k+r).toNat (eP c.toNat (oA k r c w ps kd ver) 0 (k+r).toNat),aC 0]
def abL:Nat→Bool:=fun d=>d != 10 && d != 11
theorem avp (k r c w kd ver:Int) (v:AV) (ps:List bO) (cells:List AV) (hv:fV v ps cells) (hm:bG k r c w=true) (hr:dS k r c ps=true) (hk:kd=1∨kd=2):aR ayS 160 [aA k r c w,v,.val (.int .u8 kd),aC ver] ⟨wX k r c w ps kd ver,[]⟩:=by
 refine d6 ?_;have hp:=hv.rd.plain;have U:=gX hm;have I:=jA.1 hm;obtain ⟨hl,a5⟩:=v7 hr;obtain ⟨K,hK⟩:∃ K:Nat,k=(K:Int):=⟨k.toNat,by omega⟩
 obtain ⟨R,hR⟩:∃ R:Nat,r=(R:Int):=⟨r.toNat,by omega⟩
 obtain ⟨C,hC⟩:∃ C:Nat,c=(C:Int):=⟨c.toNat,by omega⟩
 have a9:(k+r).toNat=K+R:=by omega
 have c0:k.toNat=K:=by omega
 have b9:c.toNat=C:=by omega
 have M:ps.length=K+R:=by omega
 have c1:=ah8 k r c w ps kd ver;have P:=aob k r c w C hC ps kd ver;have D:∀ (l:List Int) (i:Nat) (p:bO) (s:fW),iP k r c w ps kd ver=some l→ps[i]? = some p→nZ k r c w p (i:Nat) kd (l.getD i 0)=some s→s.dv=fT ((iV k r c w ps kd ver).getD i [])∧((iV k r c w ps kd ver).getD i []).length≠0:=fun l i p s y t F=>by
  obtain ⟨g1,g2⟩:=ah9 F;rw [aib y t];refine ⟨?_,by omega⟩;unfold fT;rw [if_neg (by omega)];exact g2
 have A:∀ (l:List Int) (i:Nat) (p:bO),iP k r c w ps kd ver=some l→ps[i]? = some p→nZ k r c w p (i:Nat) kd (l.getD i 0)=none→((iV k r c w ps kd ver).getD i []).length=0:=fun l i p y t F=>by
  rw [aib y t,aoa F];rfl
 have b:=fun h n=>aoe (k:=k) (r:=r) (c:=c) (w:=w) (ps:=ps) (kd:=kd) (ver:=ver) h n
 have o:=fun m0 g a1 oM h0 S b8 b5=>avl k r c w kd ver v ps cells hv hm hr hk m0 g a1 oM h0 S b8 b5
 unfold wX iZ oA;rw [a9,c0,b9];generalize c2:iV k r c w ps kd ver=T at *
 have hn:T.length=K+R:=by omega
 have a7:=fun m=>ah0 m (n:=K+R) (by omega)
 generalize a:(if (bW T (K+R)).length < K then AV.tup [aN,aC 5] else .tup [bD (K+R) (eP C (abA K ((bW T (K+R)).take K) (gK T)) 0 (K+R)),aC 0])=V;have d:∀ m,fzT 1 m V=some V:=fun m=>by
  rw [←a];split
  ·exact eW (bN _) (bN _) 1 m
  ·exact eW (kT (dY _ _)) (bN _) 1 m
 have B:K≤(bW T (K+R)).length→∀ N,aZ N T.length (fR T T.length)→aR ayS 236 [aC (K:Nat),aC (R:Nat),N] ⟨V,[]⟩:=fun h N J=>by
  have:=au7 N K R C T _ (aod T N J) hn P (by omega) (by omega) (by omega) (by omega) (by omega) h;rw [←a,if_neg (by omega)];exact this
 replace D:=Hid.mk D;replace A:=Hid.mk A;replace P:=Hid.mk P;replace a5:=Hid.mk a5;replace o:=Hid.mk o;replace I:=Hid.mk I;replace U:=Hid.mk U;replace d:=Hid.mk d;replace B:=Hid.mk B;replace b:=Hid.mk b;refine bI Tryz.func160 abL (h:=?_);unfold Tryz.f160;simp only [↓pre,zaj,aeA,abL,aM,simprocAttr,aA,bne,aJ,aBS,List.size_toArray,hv.rd.len',M,a7];generalize E:aF.put (aF.push _ _) _ _=m3;have Y:m3.at_ 0=some ⟨fR T 0,52,.var,true⟩:=by
  rw [←E];have:fR T 0=(aAm (K+R)).map fun _=>aN:=by unfold fR;rw [hn];apply aAt;intro j _;rw [if_neg (by omega)]
  rw [this];simp [aO,aT,bX,bM,a8]
 have a4:m3.at_ 1=some ⟨[.sl 0 0 (K+R) (K+R) true],45,.var,true⟩:=by rw [←E];simp [aO,aT,bX,bM,a8]
 have a6:m3.at_ 2=some ⟨[aC (0:Nat)],3,.var,true⟩:=by rw [←E];simp [aO];rfl
 have a0:2 < m3.next:=by rw [←E];simp [bX,bM,a8]
 refine nR (o.out m3 235 [.ptr 1 0,.ptr 2 0] (fun i m=>m.at_ 0=some ⟨fR T i,52,.var,true⟩∧m.at_ 1=some ⟨[.sl 0 0 (K+R) (K+R) true],45,.var,true⟩∧m.at_ 2=some ⟨[aC ((bW T i).length:Nat)],3,.var,true⟩∧2 < m.next) ⟨Y,a4,a6,a0⟩ ?_ ?_ ?_) ?_
 ·rintro i m m' ⟨y,t,F,O⟩ H;exact ⟨H.at_ 0 _ y (by omega),H.at_ 1 _ t (by omega),H.at_ 2 _ F (by omega),Nat.lt_of_lt_of_le O H.next⟩
 ·rintro l i p m s z hi W hF ⟨y,t,F,O⟩;obtain ⟨b3,_⟩:=an9 hF;obtain ⟨b0,b7⟩:=D.out l i p s z W hF;have c3:=afd T i;have b1:i < T.length:=by omega
  refine sK (avo m i (K+R) _ s b3 _ (by omega) (by rw [afk];omega) (by have:=U.out;omega) y t F) ?_;rintro b4 m' ⟨rfl,rfl⟩;refine ⟨rfl, ?_, ?_, ?_, ?_⟩
  ·rw [aO,if_neg (by decide),aO,if_pos rfl,b0,aoc b1]
  ·rw [aO,if_neg (by decide),aO,if_neg (by decide)];exact t
  ·rw [aO,if_pos rfl,wV,if_pos b7,aAZ];rfl
  ·exact O
 ·rintro l i p m z hi W hF ⟨y,t,F,O⟩;have hd:=A.out l i p z W hF;refine ⟨?_,t, ?_,O⟩
  ·rw [y];congr 2;refine aia fun j hj => ?_
   by_cases e:j=i
   ·subst e;rw [if_neg (by omega),if_pos (by omega)];unfold fT;rw [if_pos hd]
   ·by_cases e2:j < i
    ·rw [if_pos e2,if_pos (by omega)]
    ·rw [if_neg e2,if_neg (by omega)]
  ·rw [wV,if_neg (by omega),aBi];exact F
 rintro b4 m4 ⟨rfl,u⟩;clear E Y a4 a6 a0;by_cases q:(iP k r c w ps kd ver).isSome=true
 ·rw [if_pos q,M] at u;obtain ⟨h0,y,t,O⟩:=u;by_cases G:(bW T (K+R)).length < K
  ·have f:(((bW T (K+R)).length:Nat):Int) < k:=by omega
   rw [if_pos G] at a;subst a;have x:=d.out;unfold aN aC at x;replace x:=Hid.mk x;simp only [↓pre,zah,aeA,abL,aBj,simprocAttr,bne,aBS,t,f];exact ⟨1,x.out _⟩
  ·have f:¬ (((bW T (K+R)).length:Nat):Int) < k:=by omega
   have Z:T.length=K+R:=by omega
   have X:m6 m4 (.sl 0 0 (K+R) (K+R) true) (K+R) (fR T (K+R)):=⟨.inr ⟨0,0,K+R,true,_,rfl,h0,.inr ⟨rfl,avn _ _⟩,rfl,ay7 _⟩⟩
   obtain ⟨N,m5,a2,J,_⟩:=X.fz;rw [←Z] at J;have a3:=B.out (by omega) N J;rw [if_neg G] at a;subst a;have L:fzs m4 [aC k,aC r,.sl 0 0 (K+R) (K+R) true]=some ([aC (K:Nat),aC (R:Nat),N],m5):=by rw [hK,hR];simp [fzs,fz,aC] at a2 ⊢;simp [a2]
   have x:=d.out;simp only [aC] at a3 L x;replace x:=Hid.mk x;simp only [↓pre,zah,aeA,abL,aBj,simprocAttr,bne,aBS,y,t,f];refine zO a3 L ?_;simp only [↓pre,zah,abL,sJ,simprocAttr,bne,aBS];exact ⟨1,x.out _⟩
 ·rw [if_neg q] at u;obtain ⟨h0,y,t,O⟩:=u;have Q:iP k r c w ps kd ver=none:=by simpa using q
  have G:(bW T (K+R)).length < K:=by have:=I.out;rw [b.out Q];simp;omega
  have f:(0:Int) < k:=by have:=I.out;omega
  rw [if_pos G] at a;subst a;have x:=d.out;unfold aN aC at x;replace x:=Hid.mk x;have b2:m4.at_ 2=some ⟨[.val (.int .i64 0)],3,.var,true⟩:=t;simp only [↓pre,zah,aeA,abL,aBj,simprocAttr,bne,aBS,b2,f];exact ⟨1,x.out _⟩
end Go.Proofs.YtaekhhlgnbhnpaaGreat
set_option linter.unusedVariables false
set_option linter.unusedSimpArgs false
set_option maxRecDepth 10000
namespace Go.Tw
open Go
structure aof (m:aF) (el:TypeId) (sz:Nat) (v:AV) (n:Nat) (cells:List AV):Prop where
 form:Own m el sz v n cells∨∃ b c,v = .sl b 0 0 c true∧m.at_ b=some ⟨[],el,.flat,true⟩∧b < m.next∧n=0∧cells=[]∧0 < c
theorem avq {P:Program} {el:TypeId} {m:aF} {v x:AV} {K:bR→Prop} {sz y n cnt:Nat} {zl:List Value} {cells new:List AV} (a:bP P el = .flat) (p:aof m el sz v n cells) (q:cE P el=some sz) (r:lB P el=some y) (k:gN P el=some zl) (i:zl.length=sz) (g:f9 P el sz m x=some (new,cnt)) (l:new.length=cnt*sz) (e:(n+cnt)*y≤140737488355328) (d:n+cnt≤140737488355328) (w:0 < cnt)
 (j:∀ s m',Own m' el sz s (n+cnt) (cells++new)→m.next≤m'.next→K ⟨s,m',none⟩):eO (gA P el m v x) K:=by
 rcases p.form with p | ⟨b,c,rfl,t,u,rfl,rfl,f⟩
 ·exact pA a p q r k i g l e d j
 ·by_cases h:c < 0+cnt
  ·have:gA P el m (.sl b 0 0 c true) x=some ⟨.sl m.next 0 cnt cnt false,m.push ⟨new,el,.flat,true⟩,none⟩:=by
    simp only [gA,q,r,k,g,eE,t,a,aAh];simp at e d h;simp [vS,h,bL,i,e,d,aAX f]
   rw [this];refine j _ _ ⟨.inr ⟨m.next,by rw [azn],by rw [aT,if_pos rfl];rfl,by rw [bM];omega,by omega⟩,by simpa using l⟩ (by rw [bM];omega)
  ·have:gA P el m (.sl b 0 0 c true) x=some ⟨.sl m.next 0 cnt cnt false,(m.put b none).push ⟨new,el,.flat,true⟩,none⟩:=by
    simp only [gA,q,r,k,g,eE,t,a,aAh];simp at e d h;have o:¬ c < cnt:=by omega
    simp [vS,o,bL,i,e,d,aAX f]
   rw [this];refine j _ _ ⟨.inr ⟨m.next,by rw [azn],by rw [aT,if_pos (by rw [bX])];rfl,by rw [bM,bX];omega,by omega⟩,by simpa using l⟩ (by rw [bM,bX];omega)
end Go.Tw
namespace Go.Proofs.YtaekhhlgnbhnpaaGreat
open Go Go.Tw Go.Proofs Go.Gf
theorem avr {kd ver:Int} (b:kd=1∨kd=2) (a:hU ver=true):ac8 kd ver=0:=by unfold ac8;rw [if_pos ⟨b,a⟩]
theorem avt {k r c w:Int} {ps:List bO} (b:bG k r c w=true) (a:dS k r c ps=true):yP k r c w ps=0:=by unfold yP;rw [b,a];rfl
theorem avu {k r c w:Int} {ps:List bO} {kd ver:Int} (a:bG k r c w=true) (d:dS k r c ps=true) (b:kd=1∨kd=2) (e:hU ver=true):afh k r c w ps kd ver=0:=by
 unfold afh;rw [avt a d,if_pos rfl,avr b e]
theorem avv (k r c w:Int) (ps:List bO) (kd ver:Int):∃ a e,wX k r c w ps kd ver = .tup [a,aC e]∧(∀ n,shift n a=a)∧eH a:=by
 unfold wX;split
 ·exact ⟨_,_,rfl,fun n=>rfl,bN _⟩
 ·exact ⟨_,_,rfl,fun n=>aaV,kT (dY _ _)⟩
theorem avw (k r c w kd ver:Int) (v:AV) (ps:List bO) (cells:List AV) (j:fV v ps cells) (o:bG k r c w=true) (p:dS k r c ps=true) (n:kd=1∨kd=2) (b:hU ver=true):aR ayS 165 [aA k r c w,v,.val (.int .u8 kd),aC ver] ⟨wX k r c w ps kd ver,[]⟩:=by
 refine d6 ?_;have s:=j.rd.plain;have l:=avf k r c w v ps cells j kd ver;rw [avu o p n b] at l;have i:=avp k r c w kd ver v ps cells j o p n;obtain ⟨a,e,q,g,d⟩:=avv k r c w ps kd ver;rw [q] at i ⊢;have f:=fun m=>eW d (bN (.int .i64 e)) 1 m
 replace f:=Hid.mk f;refine bI Tryz.func165 aB (h:=?_);unfold Tryz.f165;simp only [↓pre,zab,ami,simprocAttr,aA]
 (first | refine aH (l) (by first | rfl | simp only [aD, *]) ?_ | refine aG (l) (by first | rfl | simp only [aA,aD, *]) (by intro k;first | rfl | simp only [ *,zaa]) ?_);simp only [↓pre,zab,ami,simprocAttr,eq_self];(first | refine aH (i) (by first | rfl | simp only [aD, *]) ?_ | refine aG (i) (by first | rfl | simp only [aA,aD, *]) (by intro k;first | rfl | simp only [ *,zaa]) ?_);simp only [↓pre,zab,simprocAttr,eq_self,g]
 exact ⟨1,f.out _⟩
def mE (k r c w:Int) (ps:List bO) (kd ver:Int) (n:Nat):List UInt8:=(aAm n).flatMap fun i=>tab c.toNat (oA k r c w ps kd ver i)
theorem aic (k r c w:Int) (ps:List bO) (kd ver:Int) (n:Nat):mE k r c w ps kd ver (n+1)=mE k r c w ps kd ver n++tab c.toNat (oA k r c w ps kd ver n):=by
 unfold mE;rw [List.range_succ,List.flatMap_append];simp
theorem wY (k r c w:Int) (ps:List bO) (kd ver:Int):∀ n,(mE k r c w ps kd ver n).length=n*c.toNat
 | 0=>by simp [mE]
 | n+1=>by rw [aic,aAZ,wY k r c w ps kd ver n,pJ,azX,aBW]
def qQ (k r c w:Int) (ps:List bO) (kd ver:Int):AV:=if iZ k r c w ps kd ver < k.toNat then .tup [aN,aC 5] else .tup [bD (k.toNat*c.toNat) (aL (mE k r c w ps kd ver k.toNat)),aC 0]
theorem aid (k r c w kd ver:Int) (v:AV) (ps:List bO) (cells:List AV) (Y:fV v ps cells) (T:bG k r c w=true) (hr:dS k r c ps=true) (hk:kd=1∨kd=2) (I:hU ver=true):aR ayS 91 [aA k r c w,v,.val (.int .u8 kd),aC ver] ⟨qQ k r c w ps kd ver,[]⟩:=by
 refine d6 ?_;have hp:=Y.rd.plain;have g:=avw k r c w kd ver v ps cells Y T hr hk I;have d:=jA.1 T;have X:=g9 T;unfold qQ;unfold wX at g;by_cases j:iZ k r c w ps kd ver < k.toNat
 ·rw [if_pos j] at g ⊢;have O:=fun m=>eW (bN (.slice none 0 0)) (bN (.int .i64 5)) 1 m
  replace O:=Hid.mk O;simp only [aN] at g;refine bI Tryz.func91 aB (h:=?_);unfold Tryz.f91;simp only [↓pre,zab,aet,simprocAttr,aA,aN]
  (first | refine aH (g) (by first | rfl | simp only [aD, *]) ?_ | refine aG (g) (by first | rfl | simp only [aA,aD, *]) (by intro k;first | rfl | simp only [ *,zaa]) ?_);simp only [↓pre,zad,simprocAttr]
  exact ⟨1,O.out _⟩
 ·rw [if_neg j] at g ⊢;obtain ⟨K,Z⟩:∃ K:Nat,k=(K:Int):=⟨k.toNat,by omega⟩
  obtain ⟨C,hC⟩:∃ C:Nat,c=(C:Int):=⟨c.toNat,by omega⟩
  have U:k.toNat=K:=by omega
  have u:c.toNat=C:=by omega
  have a2:K≤(k+r).toNat:=by omega
  rw [U,u];rw [u] at g;have a4:=dY (k+r).toNat (eP C (oA k r c w ps kd ver) 0 (k+r).toNat);have l:=aic k r c w ps kd ver;have o:=wY k r c w ps kd ver;rw [u] at l o;have f:=fun i (h:i < (k+r).toNat)=>aff (L:=C) (F:=oA k r c w ps kd ver) (a:=0) h
  have p:k*c=((K*C:Nat):Int):=by rw [Z,hC];simp
  have V:K*C≤768:=by omega
  have a1:32≤K*C:=by omega
  have Q:azv.wrap (k*c)=((K*C:Nat):Int):=by rw [p];exact cD (by omega)
  have R:∀ m,rZ ayS m 52 0 (K*C)=some ⟨.sl m.next 0 0 (K*C) true,m.push ⟨[],5,.flat,true⟩,none⟩:=fun m=>by
   have g:bZ ayS 52=some 5:=by kernel_rfl
   have h2:cE ayS 5=some 1:=by kernel_rfl
   have h3:lB ayS 5=some 1:=by kernel_rfl
   have h4:bP ayS 5 = .flat:=by kernel_rfl
   have hz:=ahZ h2 (x := .int .u8 0) (by kernel_rfl) (K*C);simp only [rZ,g,h2,h3,h4,hz,bL,aAh,azD];rw [if_pos (by omega)];rfl
  generalize oA k r c w ps kd ver=W at *
  generalize mE k r c w ps kd ver=D at *
  have P:D 0=[]:=azY (by rw [o];omega);replace l:=Hid.mk l;replace o:=Hid.mk o;replace f:=Hid.mk f;replace j:=Hid.mk j;replace p:=Hid.mk p;replace d:=Hid.mk d;replace X:=Hid.mk X;refine bI Tryz.func91 aB (h:=?_);unfold Tryz.f91;simp only [↓pre,zab,aet,simprocAttr,aA]
  (first | refine aH (g) (by first | rfl | simp only [aD, *]) ?_ | refine aG (g) (by first | rfl | simp only [aA,aD, *]) (by intro k;first | rfl | simp only [ *,zaa]) ?_);simp only [↓pre,zag,aet,sJ,simprocAttr,Q,R]
  rw [bS];refine bU (fun q e m=>∃ i lv,q+i=K∧e 10=bD (k+r).toNat (eP C W 0 (k+r).toNat)∧e 12=lv∧e 32=aC (K:Nat)∧e 33=aC (i:Nat)∧Hid (aof m 5 1 lv (i*C) (aL (D i))∧(i=0∨Own m 5 1 lv (i*C) (aL (D i)))) ) K ⟨0,_,by omega,rfl,rfl,by simp [bB.set,aC,Z],rfl,⟨⟨.inr ⟨_,K*C,rfl,by rw [aT,if_pos rfl],by rw [bM];omega,by omega,by rw [P];rfl,by omega⟩⟩,.inl rfl⟩⟩ ?_;rintro q e m ⟨i,lv,H,M,B,s,t,hJ⟩;replace H:=Hid.mk H;by_cases a0:i < K
  ·have b:((i:Nat):Int) < ((K:Nat):Int):=by omega
   have wi:=bY (n:=i) (by have:=d.out;omega);have A:i < (k+r).toNat:=by omega
   have G:=f.out i A;rw [azn] at G;have a3:i*C+C≤768:=by
    have:(i+1)*C≤K*C:=Nat.mul_le_mul_right _ (by omega);rw [azX,aBW] at this;omega
   have a5:8≤C:=by have:=d.out;omega
   have E:∀ m:aF,f9 ayS 5 1 m (.tree C C (aY C (W i)) true)=some (aY C (W i),C):=fun m=>by
    rw [acz (by rw [eK];omega),azD,aA7 (by rw [eK];omega)]
   simp only [↓pre,zag,aet,sJ,simprocAttr,M,B,s,t,b,A,G];refine avq (sz:=1) (y:=1) (zl:=[.int .u8 0]) (by kernel_rfl) hJ.out.1 (by kernel_rfl) (by kernel_rfl) (by kernel_rfl) rfl (E m) (by rw [eK];omega) (by omega) (by omega) (by omega) ?_;intro S m' N a6;simp only [↓pre,zab,simprocAttr,M,s,t,wi];have hb:aL (D (i+1))=aL (D i)++aY C (W i):=by rw [l.out];unfold aL aY;rw [aBp]
   have J:(i+1)*C=i*C+C:=by rw [azX,aBW]
   refine ⟨q - 1,by have:=H.out;omega,i+1,S,by have:=H.out;omega,rfl,rfl,⟨⟨.inl ?_⟩,.inr ?_⟩⟩
   ·rw [hb,J];exact N
   ·rw [hb,J];exact N
  ·have b:¬ ((i:Nat):Int) < ((K:Nat):Int):=by omega
   have hi:i=K:=by have:=H.out;omega
   subst hi;have z:=hJ.out.2.resolve_left (by have:=d.out;omega);simp only [↓pre,zad,simprocAttr,B,s,t,b];exact ⟨0,by rw [j8,dM,vK z,aAh,dM,gB,i8];rfl⟩
end Go.Proofs.YtaekhhlgnbhnpaaGreat
namespace Go.Proofs.YtaekhhlgnbhnpaaGreat
open Go Go.Tw Go.Proofs Go.Gf
theorem avx {P:Program} {t:TypeId} {x y:Operand} {k b:IntKind} {a:Int} {n:Nat}:dR P .shr t x y (.val (.int k a)) (.val (.int b ((n:Nat):Int)))=some (.val (.int k (a / 2 ^ min n k.bits))):=by
 have e:¬ (((n:Nat):Int) < 0):=by omega
 have c:((n:Nat):Int).toNat=n:=rfl;have d:a.fdiv (2 ^ min n k.bits)=a / 2 ^ min n k.bits:=Int.fdiv_eq_ediv_of_nonneg _ (Int.le_of_lt (Int.pow_pos (by decide)));simp only [dR,pZ,eqGuard,binOp,Op.shift,e,c,Bind.bind,Pure.pure,if_false,d];simp [cF,Sem.bind]
def cR (n:Int):Nat→List UInt8
 | 0=>[]
 | c+1=>azN (n / 2 ^ (8*c)).toNat::cR n c
theorem kV (n:Int):∀ c,(cR n c).length=c
 | 0=>rfl
 | c+1=>by simp [cR,kV n c]
theorem afm (m0:aF) (lv:AV) (cs:List AV) (n:Int) (c:Nat) (E:Own m0 5 1 lv cs.length cs) (A:0≤n) (B:n≤1073741824) (L:c≤4) (K:cs.length≤100000):fH ayS 192 [lv,aC n,aC (c:Nat)] m0 fun r m'=>r=(jI 5 m0 lv cs (aL (cR n c))).2∧m'=(jI 5 m0 lv cs (aL (cR n c))).1:=by
 have w0:azv.wrap ((c:Int) - 1)=(c:Int) - 1:=eD (by omega) (by omega);refine bI Tryz.func192 aB (h:=?_);unfold Tryz.f192;simp only [↓pre,zab,simprocAttr,w0];rw [bS];refine bU (fun q e m=>∃ (s:Nat) (ys:List UInt8),q=s∧s≤c∧Hid (ys++cR n s=cR n c)∧e 0=(jI 5 m0 lv cs (aL ys)).2∧e 1=aC n∧e 7=aC ((s:Int) - 1)∧m=(jI 5 m0 lv cs (aL ys)).1) c ⟨c,[],rfl,ay7 _,⟨rfl⟩,rfl,rfl,rfl,rfl⟩ ?_;rintro q e m ⟨s,ys,rfl,f,j,l,D,u,i⟩;replace f:=Hid.mk f;cases q with
 | zero =>
  have G:¬ (0:Int)≤((0:Nat):Int) - 1:=by omega
  have w:=j.out;simp only [cR,aBi] at w;subst w;simp only [↓pre,zad,simprocAttr,l,u];exact i
 | succ d =>
  have z:(0:Int)≤((d+1:Nat):Int) - 1:=by omega
  have C:((d+1:Nat):Int) - 1=(d:Nat):=by omega
  have w1:azv.wrap (8*((d:Nat):Int))=((8*d:Nat):Int):=by rw [show 8*((d:Nat):Int)=((8*d:Nat):Int) by simp];exact cD (by have:=f.out;omega)
  have F:azv.wrap (((d:Nat):Int) - 1)=((d:Nat):Int) - 1:=eD (by omega) (by have:=f.out;omega);have t:min (8*d) azv.bits=8*d:=by have:=f.out;have:azv.bits=64:=rfl;omega
  have g:0≤n / 2 ^ (8*d):=Int.ediv_nonneg A (Int.le_of_lt (Int.pow_pos (by decide)));have H:aBM.wrap (n / 2 ^ (8*d))=((azN (n / 2 ^ (8*d)).toNat).toNat:Int):=by
   have:=ad5 (n / 2 ^ (8*d)).toNat;rw [Int.toNat_of_nonneg g] at this;exact this
  have b:=wE (aL ys) m0 lv cs E;rw [←i,←l] at b;have p:(aL ys).length≤4:=by
   have I:=congrArg List.length j.out;rw [aAZ,kV,kV] at I;simp [aL];omega
  have o:=ar3 (P:=ayS) (x := .tree 1 1 [.val (.int .u8 (azN (n / 2 ^ (8*d)).toNat).toNat)] true) (y := .val (.int .u8 (azN (n / 2 ^ (8*d)).toNat).toNat)) (yb:=1) (zl:=[.int .u8 0]) (by kernel_rfl) b (by kernel_rfl) (by kernel_rfl) (by kernel_rfl) rfl mN (by omega) (by omega);have a:=alS (el:=5) (aL ys) [.val (.int .u8 (azN (n / 2 ^ (8*d)).toNat).toNat)] m0 lv cs;rw [←i,←l] at a;simp only [jI] at a;generalize v:e 0=J at *
  rw [C] at u;replace p:=Hid.mk p;replace b:=Hid.mk b;replace a:=Hid.mk a;replace i:=Hid.mk i;replace l:=Hid.mk l;replace g:=Hid.mk g;have k:(0:Int)≤((d:Nat):Int):=by omega
  simp only [↓pre,zad,ask,bE,avx,simprocAttr,v,D,u,k,w1,F,t,H,o];refine ⟨d,by omega,d,ys++[azN (n / 2 ^ (8*d)).toNat],rfl,by have:=f.out;omega,⟨by rw [azT];exact j.out⟩, ?_,rfl, ?_⟩
  ·unfold aL at a ⊢;rw [aBp,aAo,aAp];exact (congrArg Prod.snd a.out).symm
  ·unfold aL at a ⊢;rw [aBp,aAo,aAp];exact (congrArg Prod.fst a.out).symm
abbrev bJ:=Int×Int
def cA (l:List bJ):List AV:=l.flatMap fun x=>[aC x.1,aC x.2]
theorem tD (l:List bJ):(cA l).length=l.length*2:=by
 induction l with
 | nil=>rfl
 | cons a l b=>simp only [cA,aBC,aAZ,aAC,List.length_nil] at b ⊢;omega
theorem afn (a b:List bJ):cA (a++b)=cA a++cA b:=by simp [cA]
theorem xA:∀ (l:List bJ) (x:List AV) (i:Nat) (a:bJ),l[i]? = some a→(cA l++x)[i*2]? = some (aC a.1)∧(cA l++x)[i*2+1]? = some (aC a.2)
 | [],x,i,a,h=>by simp at h
 | b::l,x,0,a,h=>by simp at h;subst h;exact ⟨rfl,rfl⟩
 | b::l,x,i+1,a,h=>by
  have c:=xA l x i a (by simpa using h);have e:cA (b::l)=aC b.1::aC b.2::cA l:=rfl;rw [e,show (i+1)*2=i*2+1+1 by omega];simpa using c
def qR (v:AV) (l:List bJ):Prop:=∃ x,aZ v l.length (cA l++x)
def dO (l:List bJ):List UInt8:=l.flatMap fun x=>cR x.1 2++cR x.2 4
theorem rP (l:List bJ):(dO l).length=l.length*6:=by
 induction l with
 | nil=>rfl
 | cons a l b=>simp only [dO,aBC,aAZ,kV,aAC] at b ⊢;omega
theorem rQ (a b:List UInt8):aL (a++b)=aL a++aL b:=by unfold aL;rw [aBp]
theorem iB (a:List UInt8):(aL a).length=a.length:=by simp [aL]
def aal (m:aF):aF:=(m.push ⟨[.val (.int .i64 0),.val (.int .i64 0)],67,.hole,true⟩).put m.next none
theorem aie {m:aF} {el:TypeId} {sz n:Nat} {v:AV} {cs:List AV} (h:Own m el sz v n cs):Own (aal m) el sz v n cs:=h.pp _ _
def qS:aF→AV→List AV→List bJ→aF×AV
 | m,v,_,[]=>(m,v)
 | m,v,cs,x::xs=>qS (jI 5 (jI 5 (aal m) v cs (aL (cR x.1 2))).1 (jI 5 (aal m) v cs (aL (cR x.1 2))).2 (cs++aL (cR x.1 2)) (aL (cR x.2 4))).1
  (jI 5 (jI 5 (aal m) v cs (aL (cR x.1 2))).1 (jI 5 (aal m) v cs (aL (cR x.1 2))).2 (cs++aL (cR x.1 2)) (aL (cR x.2 4))).2 (cs++aL (cR x.1 2)++aL (cR x.2 4)) xs
theorem aif:∀ (l:List bJ) (m:aF) (v:AV) (cs:List AV),Own m 5 1 v cs.length cs→Own (qS m v cs l).1 5 1 (qS m v cs l).2 (cs.length+(dO l).length) (cs++aL (dO l))
 | [],m,v,cs,h=>by simpa [qS,dO,aL] using h
 | x::xs,m,v,cs,h=>by
  rw [qS];have d:=wE (aL (cR x.1 2)) _ _ cs (aie h);rw [←aAZ] at d;have c:=wE (aL (cR x.2 4)) _ _ _ d;rw [←aAZ] at c;have f:=aif xs _ _ _ c;have e:dO (x::xs)=cR x.1 2++(cR x.2 4++dO xs):=by simp [dO]
  have a:cs.length+(dO (x::xs)).length=(cs++aL (cR x.1 2)++aL (cR x.2 4)).length+(dO xs).length:=by rw [e];simp [iB];omega
  have b:cs++aL (dO (x::xs))=cs++aL (cR x.1 2)++aL (cR x.2 4)++aL (dO xs):=by rw [e,rQ,rQ,←azT,←azT]
  rw [a,b];exact f
theorem aog (m0:aF) (lv:AV) (cs:List AV) (v:AV) (l:List bJ) (F:qR v l) (T:Own m0 5 1 lv cs.length cs) (M:∀ x∈l,(0≤x.1∧x.1≤1073741824)∧0≤x.2∧x.2≤1073741824) (Z:l.length≤1000) (hc:cs.length≤1000):fH ayS 194 [lv,v] m0 fun r m'=>r=(qS m0 lv cs l).2∧m'=(qS m0 lv cs l).1:=by
 obtain ⟨x,F⟩:=F;replace M:=Hid.mk M;generalize E:qS m0 lv cs l=G;replace E:=Hid.mk E;have N:qS m0 lv (cs++aL (dO (l.take 0))) (l.drop 0)=G:=by simpa [dO,aL] using E.out
 have H:Own m0 5 1 lv (cs++aL (dO (l.take 0))).length (cs++aL (dO (l.take 0))):=by simpa [dO,aL] using T
 have w:=fun m v cs n c a b d e f=>afm m v cs n c a b d e f
 replace w:=Hid.mk w;refine bI Tryz.func194 aB (h:=?_);unfold Tryz.f194;simp only [↓pre,zae,ahd,simprocAttr,F.len'];rw [bS];refine bU (fun q e m=>∃ i,q+i=l.length∧e 7=v∧e 8=aC (l.length:Nat)∧e 9=aC (i:Nat)∧Hid (qS m (e 0) (cs++aL (dO (l.take i))) (l.drop i)=G∧Own m 5 1 (e 0) (cs++aL (dO (l.take i))).length (cs++aL (dO (l.take i))))) l.length ⟨0,by omega,rfl,rfl,rfl,⟨N,H⟩⟩ ?_;rintro q e m ⟨i,C,O,K,J,W⟩;replace C:=Hid.mk C;obtain ⟨o,s⟩:=W.out;generalize D:e 0=U at *
 by_cases u:i < l.length
 ·have t:((i:Nat):Int) < ((l.length:Nat):Int):=by omega
  have S:=bY (n:=i) (by omega);obtain ⟨y,A⟩:∃ y,l[i]? = some y:=⟨_,azj u⟩
  obtain ⟨V,X⟩:=xA l x i y A;obtain ⟨R,I⟩:=rL V X;have z:=M.out y (az5 A);have k:l.drop i=y::l.drop (i+1):=by
   rw [List.drop_eq_getElem_cons u];congr 1;rw [azj u] at A;exact Option.some.inj A
  have p:dO (l.take (i+1))=dO (l.take i)++(cR y.1 2++cR y.2 4):=by
   rw [aA6,A];simp [dO]
  have Y:(cs++aL (dO (l.take i))).length≤7000:=by
   rw [aAZ,iB,rP,aBP];omega
  rw [k,qS] at o;have P:=w.out (aal m) U (cs++aL (dO (l.take i))) y.1 2 (aie s) z.1.1 z.1.2 (by omega) (by omega);have g:=wE (aL (cR y.1 2)) _ _ _ (aie s);rw [←aAZ] at g;have Q:=w.out _ _ _ y.2 4 g z.2.1 z.2.2 (by omega) (by rw [aAZ,iB,kV];omega);have j:=wE (aL (cR y.2 4)) _ _ _ g;rw [←aAZ] at j;rw [show cs++aL (dO (l.take i))++aL (cR y.1 2)++aL (cR y.2 4)=cs++aL (dO (l.take (i+1))) by rw [p,rQ,rQ,azT,azT]] at o j;replace A:=Hid.mk A;replace k:=Hid.mk k;replace p:=Hid.mk p;replace o:=Hid.mk o;replace s:=Hid.mk s;replace g:=Hid.mk g;replace j:=Hid.mk j;have B:(m.push ⟨[.val (.int .i64 0),.val (.int .i64 0)],67,.hole,true⟩).put m.next none=aal m:=rfl;simp only [aC] at P Q;simp only [↓pre,zag,ahd,aM,simprocAttr,aJ,D,O,K,J,t,F.addr',u,R,I,aC,B];refine nR P ?_;rintro L m2 ⟨rfl,rfl⟩;simp only [↓pre,zab,ahd,simprocAttr];refine nR Q ?_;rintro L m3 ⟨rfl,rfl⟩;simp only [↓pre,zab,simprocAttr,O,K,J,S];exact ⟨q - 1,by have:=C.out;omega,i+1,by have:=C.out;omega,rfl,⟨o.out,j.out⟩⟩
 ·have t:¬ ((i:Nat):Int) < ((l.length:Nat):Int):=by omega
  have hi:i=l.length:=by have:=C.out;omega
  rw [List.drop_of_length_le (by omega),qS] at o;have hg:=E.out;subst o;simp only [↓pre,zad,simprocAttr,D,K,J,t]
def jP (w:Int) (x:bJ):Bool:=decide ((0≤x.1∧x.1 < w)∧1≤x.2∧x.2≤1073741824)
def kF (w:Int) (l:List bJ):Bool:=l.all (jP w)
theorem aoh (k r c w:Int) (v:AV) (l:List bJ) (s:qR v l) (V:l.length≤9223372036854775807):aR ayS 251 [aA k r c w,v] ⟨aV (kF w l),[]⟩:=by
 obtain ⟨x,s⟩:=s;have W:=s.plain;generalize f:kF w l=B;replace f:=Hid.mk f;refine aX Tryz.func251 aB (h:=?_);unfold Tryz.f251;simp only [↓pre,zag,abk,simprocAttr,aA,s.len'];rw [bS];refine bU (fun q e m=>∃ i,q+i=l.length∧e 2 = .tptr 0 [aC k,aC r,aC c,aC w]∧e 7=v∧e 8=aC (l.length:Nat)∧e 9=aC (i:Nat)∧Hid (∀ j y,j < i→l[j]? = some y→jP w y=true)) l.length ⟨0,by omega,rfl,rfl,rfl,rfl,⟨fun j y h=>by omega⟩⟩ ?_;rintro q e m ⟨i,J,H,E,D,C,M⟩;replace J:=Hid.mk J;by_cases g:i < l.length
 ·have a:((i:Nat):Int) < ((l.length:Nat):Int):=by omega
  have Q:=bY (n:=i) (by omega);obtain ⟨y,u⟩:∃ y,l[i]? = some y:=⟨_,azj g⟩
  obtain ⟨R,T⟩:=xA l x i y u;obtain ⟨A,o⟩:=rL R T;have b:jP w y=false→B=false:=fun h=>by
   rw [←f.out];unfold kF;rw [List.all_eq_false];exact ⟨y,az5 u,by rw [h];decide⟩
  have d:jP w y=true→∃ I,I < q∧I+(i+1)=l.length∧∀ j y,j < i+1→l[j]? = some y→jP w y=true:=fun h=>⟨q - 1,by have:=J.out;omega,by have:=J.out;omega,fun j O K z=>by
   by_cases e:j=i
   ·subst e;rw [u] at z;cases z;exact h
   ·exact M.out j O (by omega) z⟩
  have t:jP w y=decide ((0≤y.1∧y.1 < w)∧1≤y.2∧y.2≤1073741824):=rfl;replace u:=Hid.mk u;replace b:=Hid.mk b;replace d:=Hid.mk d;replace t:=Hid.mk t;simp only [aC] at A;by_cases F:y.1 < 0
  ·have p:=b.out (by rw [t.out];simp;omega);subst p;simp only [↓pre,zag,abk,aM,simprocAttr,aJ,E,D,C,a,s.addr',g,A,o,F]
  ·by_cases G:w≤y.1
   ·have p:=b.out (by rw [t.out];simp;omega);subst p;simp only [↓pre,zag,abk,aM,simprocAttr,aJ,H,E,D,C,a,s.addr',g,A,o,F,G]
   ·by_cases L:y.2 < 1
    ·have p:=b.out (by rw [t.out];simp;omega);subst p;simp only [↓pre,zag,abk,aM,simprocAttr,aJ,H,E,D,C,a,s.addr',g,A,o,F,G,L]
    ·by_cases N:(1073741824:Int) < y.2
     ·have p:=b.out (by rw [t.out];simp;omega);subst p;simp only [↓pre,zag,abk,aM,simprocAttr,aJ,H,E,D,C,a,s.addr',g,A,o,F,G,L,N]
     ·obtain ⟨I,S,U,P⟩:=d.out (by rw [t.out];simp;omega);simp only [↓pre,zag,abk,aM,simprocAttr,aJ,H,E,D,C,a,s.addr',g,A,o,F,G,L,N,Q];exact ⟨I,S,i+1,U,rfl,⟨P⟩⟩
 ·have a:¬ ((i:Nat):Int) < ((l.length:Nat):Int):=by omega
  have p:B=true:=by
   rw [←f.out];unfold kF;rw [aAr];intro y u;obtain ⟨j,K⟩:=aBg u;have:=(ay5.1 K).1;exact M.out j y (by omega) K
  subst p;simp only [↓pre,zad,simprocAttr,D,C,a]
def rR (k r c w len dep:Int) (l:List bJ):Bool:=decide (oE k r c w len=0) && (decide (min (oF k r c w len) 1=dep) && (decide ((l.length:Int)=(if dep=1 then oF k r c w len else oS k r c w len)) && kF w l))
def kW (k r c w len dep:Int) (l:List bJ):Int:=if bG k r c w=true then (if rR k r c w len dep l=true then 0 else 150) else 2
theorem ac9 {k r c w n:Int} (e:bG k r c w=true):0≤oF k r c w n:=by
 unfold oF;split
 ·rename_i h;unfold oE at h;rw [e,if_pos rfl] at h;split at h
  ·omega
  ·split at h
   ·omega
   ·unfold fI;split
    ·omega
    ·have d:=g9 e;have f:=abr (a:=n) (b:=wI k c) (by omega) (by have:=aeR k c;omega) (by unfold wI;omega) (by unfold wI;omega);have i:=sQ d.1 d.2;have g:0≤sI k c n:=f.1;unfold gR lI;refine Int.ediv_nonneg ?_ ?_ <;> omega
 ·omega
theorem avy (k r c w len dep:Int) (v:AV) (l:List bJ) (g:qR v l) (A:l.length≤9223372036854775807):aR ayS 191 [aA k r c w,.agg [aC len,aC dep,v]] ⟨aC (kW k r c w len dep l),[]⟩:=by
 have b:=sP k r c w;have d:=asI k r c w len;have q:=asH k r c w len;have p:=amK k r c w len;have j:=aoh k r c w v l g A;obtain ⟨x,g⟩:=g;have G:=g.plain;have i:=b6 g;have F:=bQ g;generalize a:kW k r c w len dep l=E;unfold kW at a;cases y:bG k r c w with
 | false =>
  rw [y] at b a;subst a;simp only [azx,if_false] at b;refine aX Tryz.func191 aB (h:=?_);unfold Tryz.f191;simp only [↓pre,zab,iM,simprocAttr,aA,i]
  (first | refine aH (b) (by first | rfl | simp only [aA,aD, *]) ?_ | refine aG (b) (by first | rfl | simp only [aA,aD, *]) (by intro k;first | rfl | simp only [ *,zaa]) ?_);simp only [↓pre,zad,simprocAttr]
 | true =>
  have C:=ac9 (n:=len) y;rw [y] at b a;simp only [if_true] at b a;unfold rR at a;generalize oE k r c w len=D at *
  generalize oF k r c w len=f at *
  generalize oS k r c w len=s at *
  generalize kF w l=B at *
  by_cases u:D=0
  ·subst u;by_cases o:min f 1=dep
   ·rw [decide_eq_true o] at a;by_cases kd:dep=1
    ·subst kd;by_cases e:f=(l.length:Int)
     ·rw [if_pos rfl,e] at a;have t:min (l.length:Int) 1=1:=by omega
      cases B with
      | true =>
       simp only [decide_true,aAu,if_true] at a;subst a;refine aX Tryz.func191 aB (h:=?_);unfold Tryz.f191;simp only [↓pre,zab,iM,simprocAttr,aA,i]
       (first | refine aH (b) (by first | rfl | simp only [aA,aD, *]) ?_ | refine aG (b) (by first | rfl | simp only [aA,aD, *]) (by intro k;first | rfl | simp only [ *,zaa]) ?_);simp only [↓pre,zad,iM,simprocAttr];(first | refine aH (d) (by first | rfl | simp only [aA,aD, *]) ?_ | refine aG (d) (by first | rfl | simp only [aA,aD, *]) (by intro k;first | rfl | simp only [ *,zaa]) ?_);simp only [↓pre,zad,iM,simprocAttr,e,t];(first | refine aH (q) (by first | rfl | simp only [aA,aD, *]) ?_ | refine aG (q) (by first | rfl | simp only [aA,aD, *]) (by intro k;first | rfl | simp only [ *,zaa]) ?_);simp only [↓pre,zag,iM,simprocAttr,e,g.len'];(first | refine aH (j) (by first | rfl | simp only [aD, *]) ?_ | refine aG (j) (by first | rfl | simp only [aA,aD, *]) (by intro k;first | rfl | simp only [ *,zaa]) ?_);simp only [↓pre,zad,simprocAttr]
      | false =>
       simp only [decide_true,aBX,azx,if_false] at a;subst a;refine aX Tryz.func191 aB (h:=?_);unfold Tryz.f191;simp only [↓pre,zab,iM,simprocAttr,aA,i]
       (first | refine aH (b) (by first | rfl | simp only [aA,aD, *]) ?_ | refine aG (b) (by first | rfl | simp only [aA,aD, *]) (by intro k;first | rfl | simp only [ *,zaa]) ?_);simp only [↓pre,zad,iM,simprocAttr];(first | refine aH (d) (by first | rfl | simp only [aA,aD, *]) ?_ | refine aG (d) (by first | rfl | simp only [aA,aD, *]) (by intro k;first | rfl | simp only [ *,zaa]) ?_);simp only [↓pre,zad,iM,simprocAttr,e,t];(first | refine aH (q) (by first | rfl | simp only [aA,aD, *]) ?_ | refine aG (q) (by first | rfl | simp only [aA,aD, *]) (by intro k;first | rfl | simp only [ *,zaa]) ?_);simp only [↓pre,zag,iM,simprocAttr,e,g.len'];(first | refine aH (j) (by first | rfl | simp only [aD, *]) ?_ | refine aG (j) (by first | rfl | simp only [aA,aD, *]) (by intro k;first | rfl | simp only [ *,zaa]) ?_);simp only [↓pre,zad,simprocAttr]
     ·have m:¬ (l.length:Int)=f:=fun h=>e h.symm
      rw [if_pos rfl,decide_eq_false m] at a;simp only [aBY,aBX,azx,if_false] at a;subst a;refine aX Tryz.func191 aB (h:=?_);unfold Tryz.f191;simp only [↓pre,zab,iM,simprocAttr,aA,i]
      (first | refine aH (b) (by first | rfl | simp only [aA,aD, *]) ?_ | refine aG (b) (by first | rfl | simp only [aA,aD, *]) (by intro k;first | rfl | simp only [ *,zaa]) ?_);simp only [↓pre,zad,iM,simprocAttr];(first | refine aH (d) (by first | rfl | simp only [aA,aD, *]) ?_ | refine aG (d) (by first | rfl | simp only [aA,aD, *]) (by intro k;first | rfl | simp only [ *,zaa]) ?_);simp only [↓pre,zad,iM,simprocAttr,o];(first | refine aH (q) (by first | rfl | simp only [aA,aD, *]) ?_ | refine aG (q) (by first | rfl | simp only [aA,aD, *]) (by intro k;first | rfl | simp only [ *,zaa]) ?_);simp only [↓pre,zag,iM,simprocAttr,e,g.len']
    ·have z:dep=0:=by omega
     subst z;rw [if_neg (show ¬ (0:Int)=1 by decide)] at a;by_cases e:s=(l.length:Int)
     ·rw [e] at a;cases B with
      | true =>
       simp only [decide_true,aAu,if_true] at a;subst a;refine aX Tryz.func191 aB (h:=?_);unfold Tryz.f191;simp only [↓pre,zab,iM,simprocAttr,aA,i]
       (first | refine aH (b) (by first | rfl | simp only [aA,aD, *]) ?_ | refine aG (b) (by first | rfl | simp only [aA,aD, *]) (by intro k;first | rfl | simp only [ *,zaa]) ?_);simp only [↓pre,zad,iM,simprocAttr];(first | refine aH (d) (by first | rfl | simp only [aA,aD, *]) ?_ | refine aG (d) (by first | rfl | simp only [aA,aD, *]) (by intro k;first | rfl | simp only [ *,zaa]) ?_);simp only [↓pre,zad,iM,simprocAttr,o];(first | refine aH (p) (by first | rfl | simp only [aA,aD, *]) ?_ | refine aG (p) (by first | rfl | simp only [aA,aD, *]) (by intro k;first | rfl | simp only [ *,zaa]) ?_);simp only [↓pre,zag,iM,simprocAttr,e,g.len'];(first | refine aH (j) (by first | rfl | simp only [aD, *]) ?_ | refine aG (j) (by first | rfl | simp only [aA,aD, *]) (by intro k;first | rfl | simp only [ *,zaa]) ?_);simp only [↓pre,zad,simprocAttr]
      | false =>
       simp only [decide_true,aBX,azx,if_false] at a;subst a;refine aX Tryz.func191 aB (h:=?_);unfold Tryz.f191;simp only [↓pre,zab,iM,simprocAttr,aA,i]
       (first | refine aH (b) (by first | rfl | simp only [aA,aD, *]) ?_ | refine aG (b) (by first | rfl | simp only [aA,aD, *]) (by intro k;first | rfl | simp only [ *,zaa]) ?_);simp only [↓pre,zad,iM,simprocAttr];(first | refine aH (d) (by first | rfl | simp only [aA,aD, *]) ?_ | refine aG (d) (by first | rfl | simp only [aA,aD, *]) (by intro k;first | rfl | simp only [ *,zaa]) ?_);simp only [↓pre,zad,iM,simprocAttr,o];(first | refine aH (p) (by first | rfl | simp only [aA,aD, *]) ?_ | refine aG (p) (by first | rfl | simp only [aA,aD, *]) (by intro k;first | rfl | simp only [ *,zaa]) ?_);simp only [↓pre,zag,iM,simprocAttr,e,g.len'];(first | refine aH (j) (by first | rfl | simp only [aD, *]) ?_ | refine aG (j) (by first | rfl | simp only [aA,aD, *]) (by intro k;first | rfl | simp only [ *,zaa]) ?_);simp only [↓pre,zad,simprocAttr]
     ·have m:¬ (l.length:Int)=s:=fun h=>e h.symm
      rw [decide_eq_false m] at a;simp only [aBY,aBX,azx,if_false] at a;subst a;refine aX Tryz.func191 aB (h:=?_);unfold Tryz.f191;simp only [↓pre,zab,iM,simprocAttr,aA,i]
      (first | refine aH (b) (by first | rfl | simp only [aA,aD, *]) ?_ | refine aG (b) (by first | rfl | simp only [aA,aD, *]) (by intro k;first | rfl | simp only [ *,zaa]) ?_);simp only [↓pre,zad,iM,simprocAttr];(first | refine aH (d) (by first | rfl | simp only [aA,aD, *]) ?_ | refine aG (d) (by first | rfl | simp only [aA,aD, *]) (by intro k;first | rfl | simp only [ *,zaa]) ?_);simp only [↓pre,zad,iM,simprocAttr,o];(first | refine aH (p) (by first | rfl | simp only [aA,aD, *]) ?_ | refine aG (p) (by first | rfl | simp only [aA,aD, *]) (by intro k;first | rfl | simp only [ *,zaa]) ?_);simp only [↓pre,zag,iM,simprocAttr,e,g.len']
   ·rw [decide_eq_false o] at a;simp only [aBY,aBX,azx,if_false] at a;subst a;refine aX Tryz.func191 aB (h:=?_);unfold Tryz.f191;simp only [↓pre,zab,iM,simprocAttr,aA,i]
    (first | refine aH (b) (by first | rfl | simp only [aA,aD, *]) ?_ | refine aG (b) (by first | rfl | simp only [aA,aD, *]) (by intro k;first | rfl | simp only [ *,zaa]) ?_);simp only [↓pre,zad,iM,simprocAttr];(first | refine aH (d) (by first | rfl | simp only [aA,aD, *]) ?_ | refine aG (d) (by first | rfl | simp only [aA,aD, *]) (by intro k;first | rfl | simp only [ *,zaa]) ?_);simp only [↓pre,zad,iM,simprocAttr,o]
  ·rw [decide_eq_false u] at a;simp only [aBY,azx,if_false] at a;subst a;refine aX Tryz.func191 aB (h:=?_);unfold Tryz.f191;simp only [↓pre,zab,iM,simprocAttr,aA,i]
   (first | refine aH (b) (by first | rfl | simp only [aA,aD, *]) ?_ | refine aG (b) (by first | rfl | simp only [aA,aD, *]) (by intro k;first | rfl | simp only [ *,zaa]) ?_);simp only [↓pre,zad,iM,simprocAttr];(first | refine aH (d) (by first | rfl | simp only [aA,aD, *]) ?_ | refine aG (d) (by first | rfl | simp only [aA,aD, *]) (by intro k;first | rfl | simp only [ *,zaa]) ?_);simp only [↓pre,zad,simprocAttr,u]
theorem ada {P:Program} {m:aF} {t a ty:TypeId} {d x:AV}:r6 P m #[t,a] ty [d,x] .copy=(bZ P t).bind fun el=>p7 P el m d x:=rfl
def pQ (bs:List UInt8) (W:Nat):List UInt8:=bs++List.replicate (W - bs.length) 0
theorem afo {bs:List UInt8} {W:Nat} (h:bs.length≤W):(pQ bs W).length=W:=by simp [pQ];omega
theorem aoi (W:Nat):aY W (fun _=>0)=aL (List.replicate W 0):=by
 unfold aY tab aL;congr 1;apply List.ext_getElem
 ·simp
 ·intro i b a;simp
theorem aoj (k r c w:Int) (o:bG k r c w=true) (m0:aF) (lv:AV) (bs:List UInt8) (q:Own m0 5 1 lv bs.length (aL bs)) (t:bs.length≤(wI k c).toNat):fH ayS 193 [aA k r c w,lv] m0 fun j m'=>j = .tup [.sl m0.next 0 (wI k c).toNat (wI k c).toNat true,aC 0]∧m'=m0.push ⟨aL (pQ bs (wI k c).toNat),5,.flat,true⟩:=by
 have e:=ahr k r c w;have s:=g9 o;simp only [o,if_true] at e;obtain ⟨W,l⟩:∃ W:Nat,wI k c=(W:Int):=⟨(wI k c).toNat,by unfold wI;omega⟩
 have f:(wI k c).toNat=W:=by omega
 have y:W≤768:=by unfold wI at l;omega
 rw [f] at t ⊢;rw [l] at e;have i:=fun m=>rN m (n:=W) (by omega)
 have a:=q.push (x:=⟨aY W fun _=>0,5,.flat,true⟩);have b:=an1 (P:=ayS) (el':=5) (kd := .flat) a (by kernel_rfl);have g:p7 ayS 5 (m0.push ⟨aY W fun _=>0,5,.flat,true⟩) (.sl m0.next 0 W W true) lv=some ⟨aC (bs.length:Nat),m0.push ⟨aL (pQ bs W),5,.flat,true⟩,none⟩:=by
  have v:cE ayS 5=some 1:=by kernel_rfl
  have p:bP ayS 5 = .flat:=by kernel_rfl
  have u:(m0.push ⟨aY W fun _=>0,5,.flat,true⟩).at_ m0.next=some ⟨aY W fun _=>0,5,.flat,true⟩:=by rw [aT,if_pos rfl]
  simp only [p7,v,b,u,aAh,p];rw [if_pos ⟨trivial,trivial,by rw [eK];omega⟩,ah2 rfl];have d:min bs.length W=bs.length:=by omega
  rw [d,azD,aA7 (by rw [iB];omega),aoi];congr 4;unfold pQ cP;rw [rQ,iB,List.take_zero,aBq,azn];congr 1;unfold aL;rw [←List.map_drop,List.drop_replicate]
 refine bI Tryz.func193 aB (h:=?_);unfold Tryz.f193;simp only [↓pre,zab,amo,simprocAttr,aA]
 (first | refine aH (e) (by first | rfl | simp only [aA,aD, *]) ?_ | refine aG (e) (by first | rfl | simp only [aA,aD, *]) (by intro k;first | rfl | simp only [ *,zaa]) ?_);simp only [↓pre,zag,amo,ada,simprocAttr,i,g]
def oW (len dep:Int) (n:Nat):List UInt8:=cR len 4++(cR dep 1++cR (n:Nat) 2)
def lM (k c len dep:Int) (l:List bJ):List UInt8:=pQ (oW len dep l.length++dO l) (wI k c).toNat
def aok (k r c w len dep:Int) (l:List bJ):AV:=if kW k r c w len dep l=0 then .tup [.tree (wI k c).toNat (wI k c).toNat (aL (lM k c len dep l)) true,aC 0] else .tup [aN,aC (kW k r c w len dep l)]
theorem adb {k r c w len dep:Int} {l:List bJ} (h:kW k r c w len dep l=0):bG k r c w=true∧rR k r c w len dep l=true:=by
 unfold kW at h;split at h
 ·rename_i b;split at h
  ·rename_i a;exact ⟨b,a⟩
  ·omega
 ·omega
theorem aol {a b d:Int} (c:0 < b) (h:a≤d*b):gR a b≤d:=by
 unfold gR;have:a+b - 1 < (d+1)*b:=by rw [Int.add_mul,Int.one_mul];omega
 have:=Int.ediv_lt_of_lt_mul c this;omega
theorem abM {k r c w len dep:Int} {l:List bJ} (h:kW k r c w len dep l=0):0≤len∧len≤32768∧(dep=0∨dep=1)∧(l.length:Int)≤dI k c∧(∀ x∈l,(0≤x.1∧x.1 < w)∧1≤x.2∧x.2≤1073741824):=by
 obtain ⟨m,i⟩:=adb h;unfold rR at i;simp only [aAn,decide_eq_true_eq] at i;obtain ⟨b,p,t,q⟩:=i;have s:=ac9 (n:=len) m;have u:=aeR k c;have e:=g9 m;have a:0≤len∧len≤mI k c:=by
  unfold oE at b;rw [m,if_pos rfl] at b;split at b
  ·omega
  ·split at b
   ·omega
   ·omega
 have g:∀ x∈l,(0≤x.1∧x.1 < w)∧1≤x.2∧x.2≤1073741824:=fun x v=>by
  have:=aAr.1 q x v;unfold jP at this;exact of_decide_eq_true this
 refine ⟨a.1,by omega,by omega, ?_,g⟩;rw [t];have B:=yE e.1 e.2;have D:=sQ e.1 e.2;have y:len≤dI k c*lI k c*(k*c):=by unfold mI at a;omega
 unfold oF oS at *
 rw [b,if_pos rfl] at *
 have hs:sI k c len≤dI k c*lI k c:=aol (by unfold wI;omega) (by unfold wI;omega);by_cases f:sI k c len≤dI k c
 ·have:fI k c len=0:=by unfold fI;rw [if_pos f]
  rw [this] at p ⊢;have C:dep=0:=by omega
  rw [if_neg (by omega)];exact f
 ·have d:fI k c len=gR (sI k c len) (lI k c):=by unfold fI;rw [if_neg f]
  have j:gR (sI k c len) (lI k c)≤dI k c:=aol (by unfold lI;omega) hs;split
  ·rw [d];exact j
  ·rename_i z;exfalso;have o:1≤gR (sI k c len) (lI k c):=by
    unfold gR;have A:1*lI k c≤sI k c len+lI k c - 1:=by unfold dI at f;omega
    exact (Int.le_ediv_iff_mul_le (by unfold lI;omega)).2 A
   rw [d] at p;omega
def jQ (m:aF) (v:AV) (r:fF):Prop:=jG ayS m v=some r
theorem aam {f:FuncId} {args:List AV} {r:fF} (h:fH ayS f args aF.empty fun v m=>jQ m v r):aR ayS f args r:=alQ h
def vM (bs:List UInt8) (e:Int):fF:=if bs.length=0 then ⟨.tup [.val (.slice none 0 0),.val (.int .i64 e)],[]⟩ else ⟨.tup [.sl 0 0 bs.length bs.length true,.val (.int .i64 e)],[(5,aL bs)]⟩
theorem aom (m:aF) (e:Int):jQ m (.tup [.val (.slice none 0 0),.val (.int .i64 e)]) (vM [] e):=by
 simp [jQ,jG,canon,gP,vM]
theorem aon {m:aF} {bs:List UInt8} {b n:Nat} {e:Int} (c:bs.length=n) (f:n≠0) (d:m.at_ b=some ⟨aL bs,5,.flat,true⟩):jQ m (.tup [.sl b 0 n n true,.val (.int .i64 e)]) (vM bs e):=by
 have a:bP ayS 5 = .flat:=by kernel_rfl
 subst c;unfold vM;rw [if_neg f];simp [jQ,jG,canon,gP,d,a]
structure aig (m m1:aF) (a:AV) (bs:List UInt8):Prop where
 form:(a = .val (.slice none 0 0)∧bs=[]∧m1=m)∨(a = .sl m.next 0 bs.length bs.length true∧bs.length≠0∧m1=m.push ⟨aL bs,5,.flat,true⟩)
theorem aig.canon {m b:aF} {a:AV} {bs:List UInt8} (h:aig m b a bs) (e:Int):jQ b (.tup [a,.val (.int .i64 e)]) (vM bs e):=by
 rcases h.form with ⟨rfl,rfl,rfl⟩ | ⟨rfl,c,rfl⟩
 ·exact aom _ _
 ·exact aon rfl c (by rw [aT,if_pos rfl])
theorem avz {d:Bool} {f:FuncId} {args b:List AV} {m:aF} {K:bR→Prop} {bs:List UInt8} {e:Int} (h:aR ayS f b (vM bs e)) (k:d9 3 m args=some b) (i:∀ a g,aig m g a bs→K ⟨.tup [a,.val (.int .i64 e)],g,none⟩):nO ayS d f args m K:=by
 refine ad1 h k ?_ ?_
 ·unfold vM;split <;> simp [fF.apart,jX,lP,show lP (aL bs)=true from ah4 _]
 ·have j:bP ayS 5 = .flat:=by kernel_rfl
  unfold vM;by_cases c:bs.length=0
  ·rw [if_pos c];have:=azY c;subst this;exact i _ _ ⟨.inl ⟨rfl,rfl,rfl⟩⟩
  ·rw [if_neg c];have:=i _ _ ⟨.inr ⟨rfl,c,rfl⟩⟩;simpa [shift,iG,dT,gO,j] using this
def rS (F:AV→AV) (l:List bJ):fF:=if l.length=0 then ⟨F (.val (.slice none 0 0)),[]⟩ else ⟨F (.sl 0 0 l.length l.length false),[(67,cA l)]⟩
theorem aoo:∀ l:List bJ,lP (cA l)=true
 | []=>rfl
 | a::l=>by
  have:=aoo l;simpa [cA,lP,jX,aC] using this
structure adc (m m1:aF) (a:AV) (l:List bJ):Prop where
 form:(a = .val (.slice none 0 0)∧l=[]∧m1=m)∨(a = .sl m.next 0 l.length l.length false∧l.length≠0∧m1=m.push ⟨cA l,67,.flat,true⟩)
theorem adc.own {m b:aF} {a:AV} {l:List bJ} (h:adc m b a l):Own b 67 2 a l.length (cA l):=by
 rcases h.form with ⟨rfl,rfl,rfl⟩ | ⟨rfl,c,rfl⟩
 ·exact fC
 ·exact ⟨.inr ⟨_,rfl,by rw [aT,if_pos rfl],by rw [bM];omega,by omega⟩,tD _⟩
theorem ade {d:Bool} {f:FuncId} {args b:List AV} {m:aF} {K:bR→Prop} {l:List bJ} (F:AV→AV) (h:aR ayS f b (rS F l)) (p:d9 3 m args=some b) (g:∀ k a,shift k (F a)=F (shift k a)) (e:∀ k n,jX (F (.val (.slice none 0 0)))=true∧jX (F (.sl k 0 n n false))=true) (j:∀ a i,adc m i a l→K ⟨F a,i,none⟩):nO ayS d f args m K:=by
 refine ad1 h p ?_ ?_
 ·unfold rS;split
  ·simp [fF.apart,(e 0 0).1]
  ·simp [fF.apart,(e 0 l.length).2,aoo]
 ·have o:bP ayS 67 = .flat:=by kernel_rfl
  unfold rS;by_cases c:l.length=0
  ·rw [if_pos c];have:=azY c;subst this;have:=j _ _ ⟨.inl ⟨rfl,rfl,rfl⟩⟩;simpa [g,shift,dT,gO] using this
  ·rw [if_neg c];have:=j _ _ ⟨.inr ⟨rfl,c,rfl⟩⟩;simpa [g,shift,dT,gO,o] using this
theorem agW {m:aF} {a:AV} {l:List bJ} (h:Own m 67 2 a l.length (cA l)):lend 3 m a=some (bD l.length (cA l)):=by
 rcases h.form with ⟨rfl,f,e⟩ | ⟨b,rfl,d,_,c⟩
 ·rw [e,f];simp [lend,aN,bD]
 ·unfold lend bD;simp [d,aAX c]
theorem aop {m:aF} {a:AV} {l:List bJ} (h:Own m 67 2 a l.length (cA l)):d9 3 m [a]=some [bD l.length (cA l)]:=by
 simp [d9,agW h]
theorem aan {m:aF} {a:AV} {l:List bJ} (h:Own m 67 2 a l.length (cA l)):∀ j,cI a=some j→j < m.next:=by
 rcases h.form with ⟨rfl,_⟩ | ⟨b,rfl,_,c,_⟩
 ·intro j h;cases h
 ·intro j h;cases h;exact c
theorem avA {m:aF} {a:AV} {l:List bJ} (h:Own m 67 2 a l.length (cA l)):lenE ayS 31 a=some (.val (.int .i64 (l.length:Nat))):=by
 have d:bZ ayS 31=some 67:=by kernel_rfl
 rcases h.form with ⟨rfl,c,_⟩ | ⟨b,rfl,_⟩
 ·rw [c];show lenE ayS 31 (.val (.slice none 0 0))=some (.val (.int .i64 0));kernel_rfl
 ·simp [lenE,d,vQ,aC]
structure adf (m m1:aF) (a:AV) (l:List bJ):Prop where
 own:Own m1 67 2 a l.length (cA l)
 blk:∀ j,cI a=some j→j=m.next
 keep:∀ j k,m.at_ j=some k→j < m.next→m1.at_ j=some k
 next:m.next≤m1.next
 cells:a.cells=[a]
 ok:g8 a=true
 one:d5 a=true
theorem adc.abs {m c:aF} {a:AV} {l:List bJ} (h:adc m c a l):adf m c a l:=by
 have b:=h.own;rcases h.form with ⟨rfl,rfl,rfl⟩ | ⟨rfl,e,rfl⟩
 ·exact ⟨b,fun j h=>(by cases h),fun _ _ h _=>h,ay7 _,rfl,rfl,rfl⟩
 ·exact ⟨b,fun j h=>(by cases h;rfl),fun j k h d=>by rw [aT,if_neg (by omega)];exact h,by rw [bM];omega,rfl,rfl,rfl⟩
theorem aih {m:aF} {a:AV} {l:List bJ} (F:AV→AV) (h:Own m 67 2 a l.length (cA l)) (d:jQ m (F (.val (.slice none 0 0))) ⟨F (.val (.slice none 0 0)),[]⟩) (f:∀ (b n:Nat) (cs:List AV),bP ayS 67 = .flat→m.at_ b=some ⟨cs,67,.flat,true⟩→jQ m (F (.sl b 0 n n false)) ⟨F (.sl 0 0 n n false),[(67,cs)]⟩):jQ m (F a) (rS F l):=by
 rcases h.form with ⟨rfl,e,i⟩ | ⟨b,rfl,c,_,g⟩
 ·unfold rS;rw [if_pos e];exact d
 ·unfold rS;rw [if_neg (by omega)];exact f b _ _ (by kernel_rfl) c
theorem avB {m:aF} {a:AV} {l:List bJ} {x y e:Value} (h:Own m 67 2 a l.length (cA l)):jQ m (.tup [.agg [.val x,.val y,a],.val e]) (rS (fun a => .tup [.agg [.val x,.val y,a],.val e]) l) :=
 aih (fun a => .tup [.agg [.val x,.val y,a],.val e]) h (by simp [jQ,jG,canon,gP]) fun b n cs d c=>by simp [jQ,jG,canon,gP,c,d]
theorem avC {m:aF} {a:AV} {l:List bJ} {x y v e:Value} (h:Own m 67 2 a l.length (cA l)):jQ m (.tup [.agg [.val x,.val y,a],.val v,.val e]) (rS (fun a => .tup [.agg [.val x,.val y,a],.val v,.val e]) l) :=
 aih (fun a => .tup [.agg [.val x,.val y,a],.val v,.val e]) h (by simp [jQ,jG,canon,gP]) fun b n cs d c=>by simp [jQ,jG,canon,gP,c,d]
theorem aoq {m:aF} {a:AV} {l:List bJ} (h:Own m 67 2 a l.length (cA l)):jQ m a (rS (fun a=>a) l) :=
 aih (fun a=>a) h (by simp [jQ,jG,canon]) fun b n cs d c=>by simp [jQ,jG,canon,c,d]
def yQ:Nat→Bool:=fun d=>d != 30 && d != 31
def afp (k r c w len dep:Int) (l:List bJ):List UInt8:=if kW k r c w len dep l=0 then lM k c len dep l else []
theorem avD (k r c w len dep:Int) (v:AV) (l:List bJ) (d:qR v l) (P:l.length≤9223372036854775807):fH ayS 109 [aA k r c w,.agg [aC len,aC dep,v]] aF.empty fun a m=>(∃ q,fzT q m a=some (aok k r c w len dep l))∧jQ m a (vM (afp k r c w len dep l) (kW k r c w len dep l)):=by
 have u:=avy k r c w len dep v l d P;unfold aok afp;by_cases e:kW k r c w len dep l=0
 ·rw [if_pos e,if_pos e];rw [e] at u ⊢;obtain ⟨i,C,K,y,g⟩:=abM e;obtain ⟨G,_⟩:=adb e;have I:=g9 G;have W:=yE I.1 I.2;have B:l.length≤126:=by unfold dI at y;omega
  have o:Own aF.empty 5 1 aN ([]:List AV).length []:=fC;have D:=afm aF.empty aN [] len 4 o i (by omega) (by omega) (by simp);have t:=wE (aL (cR len 4)) _ _ _ o;rw [←aAZ] at t;have H:=afm _ _ _ dep 1 t (by omega) (by omega) (by omega) (by rw [aAZ,iB,kV];simp);have n:=wE (aL (cR dep 1)) _ _ _ t;rw [←aAZ] at n;have F:=afm _ _ _ (l.length:Nat) 2 n (by omega) (by omega) (by omega) (by rw [aAZ,aAZ,iB,kV,iB,kV];simp);have s:=wE (aL (cR (l.length:Nat) 2)) _ _ _ n;rw [←aAZ] at s;have M:=aog _ _ _ v l d s (fun x U=>by have:=g x U;have:=jA.1 G;omega) (by omega) (by rw [aAZ,aAZ,aAZ,iB,kV,iB,kV,iB,kV];simp);have z:=aif l _ _ _ s;have f:(([]:List AV)++aL (cR len 4)++aL (cR dep 1)++aL (cR (l.length:Nat) 2))++aL (dO l)=aL (oW len dep l.length++dO l):=by
   unfold oW;simp only [rQ,aBq,azT]
  have j:(([]:List AV)++aL (cR len 4)++aL (cR dep 1)++aL (cR (l.length:Nat) 2)).length+(dO l).length=(oW len dep l.length++dO l).length:=by
   unfold oW;simp [iB,kV];omega
  rw [f,j] at z;have b:(oW len dep l.length++dO l).length≤(wI k c).toNat:=by
   unfold oW;simp only [aAZ,kV,rP];unfold dI at y;unfold wI;omega
  have L:=aoj k r c w G _ _ _ z b;have p:=Hid.mk (show (lM k c len dep l).length=(wI k c).toNat∧(wI k c).toNat≠0 from ⟨afo b,by unfold wI;omega⟩);obtain ⟨x,d⟩:=d;have E:=b6 d;have R:=bQ d;have V:=d.plain;replace g:=Hid.mk g;replace b:=Hid.mk b;replace z:=Hid.mk z;replace f:=Hid.mk f;replace j:=Hid.mk j;replace t:=Hid.mk t;replace n:=Hid.mk n;replace s:=Hid.mk s;generalize jI 5 aF.empty aN [] (aL (cR len 4))=O at *
  generalize jI 5 O.1 O.2 ([]++aL (cR len 4)) (aL (cR dep 1))=J at *
  generalize jI 5 J.1 J.2 ([]++aL (cR len 4)++aL (cR dep 1)) (aL (cR (l.length:Nat) 2))=N at *
  generalize qS N.1 N.2 ([]++aL (cR len 4)++aL (cR dep 1)++aL (cR (l.length:Nat) 2)) l=X at *
  have S:(((4:Nat):Nat):Int)=4:=rfl;have T:(((1:Nat):Nat):Int)=1:=rfl;have Q:(((2:Nat):Nat):Int)=2:=rfl;rw [S] at D;rw [T] at H;rw [Q] at F;simp only [aC,aN] at D H F M L;refine bI Tryz.func109 yQ (h:=?_);unfold Tryz.f109;simp only [↓pre,zah,abf,yQ,simprocAttr,aA,bne,E]
  (first | refine aH (u) (by first | rfl | simp only [aD, *]) ?_ | refine aG (u) (by first | rfl | simp only [aA,aD, *]) (by intro k;first | rfl | simp only [ *,zaa]) ?_);simp only [↓pre,zah,abf,yQ,simprocAttr,bne]
  refine rC D ?_;simp only [↓pre,zah,abf,yQ,simprocAttr,bne];refine rC H ?_;simp only [↓pre,za,abf,yQ,simprocAttr,bne,d.len'];refine rC F ?_;simp only [↓pre,zah,abf,yQ,simprocAttr,bne];refine rC M ?_;refine dE (by kernel_rfl) ?_;simp only [↓pre,zah,yQ,simprocAttr,bne];refine rC L ?_;refine dE (by kernel_rfl) ?_;simp only [↓pre,zah,yQ,simprocAttr,bne];refine ⟨⟨0, ?_⟩,aon p.out.1 p.out.2 (by rw [aT,if_pos rfl];rfl)⟩;rw [j8,dM,uC (by rw [aT,if_pos rfl]),aAh,dM,gB,i8,aBu];rfl
 ·rw [if_neg e,if_neg e];obtain ⟨x,d⟩:=d;have E:=b6 d;have R:=bQ d;have V:=d.plain;have A:=fun m=>eW (bN (.slice none 0 0)) (bN (.int .i64 (kW k r c w len dep l))) 1 m
  replace A:=Hid.mk A;refine bI Tryz.func109 aB (h:=?_);unfold Tryz.f109;simp only [↓pre,zab,abf,simprocAttr,aA,E]
  (first | refine aH (u) (by first | rfl | simp only [aD, *]) ?_ | refine aG (u) (by first | rfl | simp only [aA,aD, *]) (by intro k;first | rfl | simp only [ *,zaa]) ?_);simp only [↓pre,zab,simprocAttr,e,aN]
  exact ⟨⟨1,A.out _⟩,aom _ _⟩
theorem avE (k r c w len dep:Int) (v:AV) (l:List bJ) (b:qR v l) (a:l.length≤9223372036854775807):aR ayS 109 [aA k r c w,.agg [aC len,aC dep,v]] (vM (afp k r c w len dep l) (kW k r c w len dep l)):=aam (sK (avD k r c w len dep v l b a) fun _ _ h=>h.2)
theorem adg (v:AV) (n:Nat) (bs:List UInt8) (x:List AV) (j:aZ v n (aL bs++x)) (B:n≤bs.length) (z:n≤4):aR ayS 167 [v] ⟨aC (dL (bs.take n):Nat),[]⟩:=by
 have D:=j.plain;refine aX Tryz.func167 aB (h:=?_);unfold Tryz.f167;simp only [↓pre,zae,amj,simprocAttr,j.len'];rw [bS];refine bU (fun q e m=>∃ i,q+i=n∧e 6=v∧e 7=aC (n:Nat)∧e 8=aC (i:Nat)∧e 3=aC (dL (bs.take i):Nat)) n ⟨0,by omega,rfl,rfl,rfl,by simp [bB.set,aC,dL]⟩ ?_;rintro q e m ⟨i,hi,w,p,r,o⟩;replace hi:=Hid.mk hi;by_cases g:i < n
 ·have b:((i:Nat):Int) < ((n:Nat):Int):=by omega
  obtain ⟨a,s⟩:∃ a,bs[i]? = some a:=⟨_,azj (by omega)⟩
  have t:=iE (x:=x) s;have l:=aeT s;have f:=z6 i bs;have c:=a.toNat_lt;have w1:=bY (n:=i) (by omega);have d:256 ^ i≤256 ^ 3:=Nat.pow_le_pow_right (by decide) (by omega);have C:256 ^ 3=16777216:=by decide
  have u:azv.wrap (a.toNat:Int)=(a.toNat:Int):=cD (by omega);have A:azv.wrap (((dL (bs.take i):Nat):Int)*2 ^ min 8 azv.bits)=((dL (bs.take i)*256:Nat):Int):=by
   rw [show (((dL (bs.take i):Nat):Int)*2 ^ min 8 azv.bits)=((dL (bs.take i)*256:Nat):Int) by simp [IntKind.bits]];exact cD (by omega)
  have y:zR .i64 ((dL (bs.take i)*256:Nat):Int) (a.toNat:Int)=((dL (bs.take i)*256+a.toNat:Nat):Int):=by
   rw [ad8 (by omega) (by omega),ad9 (by omega)]
  replace f:=Hid.mk f;replace d:=Hid.mk d;replace c:=Hid.mk c;replace l:=Hid.mk l;simp only [↓pre,zae,amj,bE,lF,azD,iS,simprocAttr,w,p,r,o,b,j.addr',g,t,w1,u];exact ⟨q - 1,by have:=hi.out;omega,i+1,by have:=hi.out;omega,rfl,by rw [A,y,l.out]⟩
 ·have b:¬ ((i:Nat):Int) < ((n:Nat):Int):=by omega
  have k:i=n:=by have:=hi.out;omega
  subst k;simp only [↓pre,zab,fO,simprocAttr,p,r,o,b]
def afq (bs:List UInt8) (i:Nat):bJ:=((dL ((bs.drop (6*i)).take 2):Nat),(dL ((bs.drop (6*i+2)).take 4):Nat))
def dP (bs:List UInt8) (n:Nat):List bJ:=(aAm n).map (afq bs)
theorem abN (bs:List UInt8) (n:Nat):(dP bs n).length=n:=by simp [dP]
theorem aor (bs:List UInt8) (n:Nat):dP bs (n+1)=dP bs n++[afq bs n]:=by unfold dP;rw [List.range_succ,aBp];rfl
theorem aos (v:AV) (bs:List UInt8) (x:List AV) (n:Nat) (K:aZ v bs.length (aL bs++x)) (V:6*n≤bs.length) (X:bs.length≤100000):fH ayS 168 [v,aC (n:Nat)] aF.empty fun a m=>Own m 67 2 a n (cA (dP bs n)):=by
 have j:jW (.val (.int .i64 2))=some 2:=rfl;have g:jW (.val (.int .i64 6))=some 6:=rfl;refine bI Tryz.func168 aB (h:=?_);unfold Tryz.f168;simp only [↓pre,simprocAttr,sx];rw [bS];refine bU (fun q e m=>∃ i u,q+i=n∧e 0=u∧e 6=aC (n:Nat)∧e 7=aC (i:Nat)∧aZ u (bs.drop (6*i)).length (aL (bs.drop (6*i))++x)∧Hid (Own m 67 2 (e 5) i (cA (dP bs i)))) n ⟨0,v,by omega,rfl,rfl,rfl,by simpa using K,⟨fC⟩⟩ ?_;rintro q e m ⟨i,u,o,w,A,s,d,G⟩;replace o:=Hid.mk o;generalize p:e 5=W at *
 by_cases H:i < n
 ·have b:((i:Nat):Int) < ((n:Nat):Int):=by omega
  have w1:=bY (n:=i) (by omega);have r:(bs.drop (6*i)).length=bs.length - 6*i:=aA9;obtain ⟨L,O,r1⟩:=d.slice (P:=ayS) (t:=52) (sz:=1) (lo:=none) (hi:=some 2) (by kernel_rfl) (by simp) (by simp only [aAB];omega);obtain ⟨I,M,r2⟩:=d.slice (P:=ayS) (t:=52) (sz:=1) (lo:=some 2) (hi:=some 6) (by kernel_rfl) (by simp) (by simp only [aAB];omega);obtain ⟨S,T,l⟩:=d.slice (P:=ayS) (t:=52) (sz:=1) (lo:=some 6) (hi:=none) (by kernel_rfl) (by simp only [aAB,aAA];omega) (by simp);simp only [aAB,aAA,azD,Nat.sub_zero,aBu] at r1 r2 l;rw [qK _ x 2 (by omega),List.drop_drop] at r2;rw [qK _ x 6 (by omega),List.drop_drop,show (bs.drop (6*i)).length - 6=(bs.drop (6*i+6)).length by rw [aA9,aA9];omega] at l;have E:=adg L 2 (bs.drop (6*i)) x r1 (by omega) (by omega);have F:=adg I 4 (bs.drop (6*i+2)) x r2 (by rw [aA9];omega) (by omega);have J:=d.slOk (P:=ayS) (m:=m) (t:=52);have R:=r1.plain;have Q:=r2.plain;have f:=aor bs i;have c:afq bs i=(((dL ((bs.drop (6*i)).take 2):Nat):Int),((dL ((bs.drop (6*i+2)).take 4):Nat):Int)):=rfl;generalize dL ((bs.drop (6*i)).take 2)=C at *
  generalize dL ((bs.drop (6*i+2)).take 4)=D at *
  replace f:=Hid.mk f;replace c:=Hid.mk c;replace r1:=Hid.mk r1;replace r2:=Hid.mk r2;replace l:=Hid.mk l;replace r:=Hid.mk r;have z:∀ m,gF ayS m 31 1 [(0,.agg [.val (.int .i64 (C:Nat)),.val (.int .i64 (D:Nat))])]=some ⟨.tree 1 1 [.val (.int .i64 (C:Nat)),.val (.int .i64 (D:Nat))] true,m,none⟩:=fun m=>ad7 rfl rfl (by kernel_rfl) (by kernel_rfl)
  simp only [↓pre,zad,aBa,simprocAttr,dB,j,p,w,A,s,b,d.sliceX,O]
  (first | refine aH (E) (by first | rfl | simp only [aD, *]) ?_ | refine aG (E) (by first | rfl | simp only [aD, *]) (by intro k;first | rfl | simp only [ *,zaa]) ?_);simp only [↓pre,zab,aBa,simprocAttr,dB,j,g,w,d.sliceX,M];(first | refine aH (F) (by first | rfl | simp only [aD, *]) ?_ | refine aG (F) (by first | rfl | simp only [aD, *]) (by intro k;first | rfl | simp only [ *,zaa]) ?_);simp only [↓pre,zab,asd,bE,simprocAttr,z]
  refine pA (sz:=2) (y:=16) (zl:=[.int .i64 0,.int .i64 0]) (by kernel_rfl) G.out (by kernel_rfl) (by kernel_rfl) (by kernel_rfl) rfl zQ rfl (by omega) (by omega) ?_;intro N m' B U;refine dE (by kernel_rfl) ?_;simp only [↓pre,zab,aBa,simprocAttr,dB,g,w,A,s,d.sliceX,T,w1];refine ⟨q - 1,by have:=o.out;omega,i+1,S,by have:=o.out;omega,rfl,rfl,by rw [show 6*(i+1)=6*i+6 by omega];exact l.out,⟨?_⟩⟩;rw [f.out,afn,c.out];exact B
 ·have b:¬ ((i:Nat):Int) < ((n:Nat):Int):=by omega
  have hi:i=n:=by have:=o.out;omega
  subst hi;simp only [↓pre,zad,simprocAttr,p,A,s,b];exact G.out
theorem avF (v:AV) (bs:List UInt8) (x:List AV) (n:Nat) (c:aZ v bs.length (aL bs++x)) (a:6*n≤bs.length) (b:bs.length≤100000):aR ayS 168 [v,aC (n:Nat)] ⟨bD n (cA (dP bs n)),[]⟩:=d6 (sK (aos v bs x n c a b) fun _ _ h=>⟨0,vK h 0⟩)
theorem avG (v:AV) (bs:List UInt8) (x:List AV) (n:Nat) (d:aZ v bs.length (aL bs++x)) (b:6*n≤bs.length) (c:bs.length≤100000):aR ayS 168 [v,aC (n:Nat)] (rS (fun a=>a) (dP bs n)):=aam (sK (aos v bs x n d b c) fun _ m h=>aoq (by rw [abN];exact h))
theorem aot (k r c w:Int) (v:AV) (n:Nat) (cs:List AV) (d:aZ v n cs):aR ayS 166 [aA k r c w,v] ⟨aC (if bG k r c w=true then (if (n:Int)=wI k c then 0 else 20) else 2),[]⟩:=by
 have a:=ahr k r c w;have f:=d.plain;cases e:bG k r c w with
 | false =>
  simp only [e,azx,if_false] at a ⊢;refine aX Tryz.func166 aB (h:=?_);unfold Tryz.f166;simp only [↓pre,zab,acJ,simprocAttr,aA]
  (first | refine aH (a) (by first | rfl | simp only [aA,aD, *]) ?_ | refine aG (a) (by first | rfl | simp only [aA,aD, *]) (by intro k;first | rfl | simp only [ *,zaa]) ?_);simp only [↓pre,zad,simprocAttr]
 | true =>
  simp only [e,if_true] at a ⊢;by_cases b:(n:Int)=wI k c
  ·rw [if_pos b];refine aX Tryz.func166 aB (h:=?_);unfold Tryz.f166;simp only [↓pre,zab,acJ,simprocAttr,aA]
   (first | refine aH (a) (by first | rfl | simp only [aA,aD, *]) ?_ | refine aG (a) (by first | rfl | simp only [aA,aD, *]) (by intro k;first | rfl | simp only [ *,zaa]) ?_);simp only [↓pre,zag,acJ,simprocAttr,d.len',b]
  ·rw [if_neg b];refine aX Tryz.func166 aB (h:=?_);unfold Tryz.f166;simp only [↓pre,zab,acJ,simprocAttr,aA]
   (first | refine aH (a) (by first | rfl | simp only [aA,aD, *]) ?_ | refine aG (a) (by first | rfl | simp only [aA,aD, *]) (by intro k;first | rfl | simp only [ *,zaa]) ?_);simp only [↓pre,zag,acJ,simprocAttr,d.len',b]
def eqB (a b:List UInt8):Bool:=decide ((⟨a.toArray⟩:ByteArray)=⟨b.toArray⟩)
theorem aou (a b:List UInt8):eqB a b=decide (a=b):=by
 unfold eqB;by_cases h:a=b
 ·subst h;simp
 ·rw [decide_eq_false h,decide_eq_false];intro c;apply h;have:=congrArg (fun x:ByteArray=>x.data.toList) c;simpa using this
theorem aov (u v:AV) (a b:List UInt8) (x y:List AV) (e:aZ u a.length (aL a++x)) (i:aZ v b.length (aL b++y)):aR ayS 169 [u,v] ⟨aV (decide (a=b)),[]⟩:=by
 rw [←aou];have f:=fun (d c:Bool) (m:aF)=>wS (d:=d) (c:=c) (m:=m) e
 have g:=fun (d c:Bool) (m:aF)=>wS (d:=d) (c:=c) (m:=m) i
 refine aX Tryz.func169 aB (h:=?_);unfold Tryz.f169;simp only [↓pre,zae,oT,simprocAttr,f,g];rfl
end Go.Proofs.YtaekhhlgnbhnpaaGreat