import Derived.Test.YtaekhhlgnbhnpaaGreatQmcG19
import Derived.Test.YtaekhhlgnbhnpaaGreatQmcG16
import Derived.Test.YtaekhhlgnbhnpaaGreatQmcG12
import Derived.Test.YtaekhhlgnbhnpaaGreatQmcG15
import Derived.Test.YtaekhhlgnbhnpaaGreatQmcG10
import Derived.Test.YtaekhhlgnbhnpaaGreatQmcG18
set_option linter.unusedVariables false
set_option linter.unusedSimpArgs false
set_option maxRecDepth 10000
open Go.Proofs.Tryz
open Bool renaming and_self→aAx,and_eq_true→aAq,false_eq_true→azA,and_false→aB2,false_and→aB3
open Go.IntKind renaming i64→azy,u8→aBQ
open Go.Proofs.Tryz renaming prog→ayU
open Go.Value renaming int→azD
open Int renaming cast_ofNat_Int→aB0
open List renaming take_of_length_le→aBa,mem_map→azp,getD_eq_getElem?_getD→azs,getElem?_eq_getElem→azm,getElem?_map→azo,append_nil→aBl,length_take→aBT,mem_of_getElem?→az8,getElem?_take_of_lt→aBU,take_add_one→aA9,map_append→aBs,map_cons→aAr,map_nil→aAs,getElem?_of_mem→aBj,getElem?_eq_some_iff→ay8,mem_cons→az7,not_mem_nil→aBY,cons_append→aBZ,nil_append→aBt,all_eq_true→aAu,range→aAp,getElem?_range→aBS,map_congr_left→aAw,append_assoc→azW,getElem?_append_right→azh,length_cons→aAF,getElem?_eq_none→ay6,length_append→aA2,eq_nil_of_length_eq_zero→az1,flatMap_cons→aBF
open Nat renaming le_refl→aza,zero_add→azq,one_ne_zero→aBm,reduceEqDiff→aBW,ne_of_gt→aA0,add_mul→az0,one_mul→aB1,mul_one→azG
open Option renaming getD_some→aAE,map_some→az6,bind_some→aAk
open UInt8 renaming ofNat→azQ
namespace Go.Proofs.YtaekhhlgnbhnpaaGreat
open Go Go.Tw Go.Proofs Go.Gf
theorem afF {P:Program} {kd:gJ} {m:aF} {el el':TypeId} {sz n:Nat} {v:AV} {cells:List AV} (h:bY kd m el sz v n cells) (d:bK P el'=kd):eM P el' sz m v=some (cells,n):=by
 have a:=h.len;rcases h.form with ⟨rfl,rfl,rfl⟩ | ⟨b,rfl,c,_,_⟩
 ·simp [eM,dR,aW]
 ·simp [eM,dR,c,d,a];rw [aBa (by omega)]
theorem aau:∀ (l:List AV),(∀ c∈l,plain c=true)→cP l=true
 | [],_=>rfl
 | c::l,h=>by simp only [cP,h c (by simp),aau l fun x a=>h x (by simp [a]),aAx]
theorem aov (L:Nat) (F:Mx) (a n:Nat):cP (dJ L F a n)=true:=aau _ fun c b=>by
 unfold dJ at b;obtain ⟨i,_,rfl⟩:=azp.1 b;rfl
def gI (C:List (List UInt8)):Mx:=fun i p=>(C.getD i []).getD p 0
theorem aow {C:List (List UInt8)} {i L:Nat} (h:(C.getD i []).length=L):tab L (gI C i)=C.getD i []:=by
 unfold tab gI;apply List.ext_getElem
 ·rw [List.length_map,List.length_range,h]
 ·intro j b a;simp only [List.getElem_map,List.getElem_range];rw [azs,azm a];rfl
def nY (k:Nat) (l:List Nat):List AV:=l.map fun a => .tree k k (aR k (fO k a)) true
def kN (cells:List AV) (l:List Nat):List AV:=l.map fun a=>cells.getD a aW
theorem aox {k:Nat} {at_:List Nat} (d:at_.length=k):xJ k k (lP k at_) (nY k at_):=fun t c=>by
 obtain ⟨a,b⟩:∃ a,at_[t]? = some a:=⟨_,azm (by omega)⟩
 refine ⟨_,[],by unfold nY;rw [azo,b];rfl, ?_⟩;unfold lP;rw [azs,b,aBl];exact ⟨.inr (.inr ⟨k,true,rfl,aza _⟩)⟩
theorem avG (v:AV) (k r L:Nat) (C:List (List UInt8)) (cells:List AV) (hv:aap v C cells) (g8:C.length=k+r) (hC:aa9 C L) (hk:1≤k) (c3:k≤12) (hr:r≤4) (hL:1≤L) (a3:L≤65536) (h9:k≤(bP C (k+r)).length):aQ ayU 236 [aB (k:Nat),aB (r:Nat),v] ⟨.tup [bE (k+r) (dJ L (aco k ((bP C (k+r)).take k) (gI C)) 0 (k+r)),aB 0],[]⟩:=by
 refine gA ?_;have hp:=hv.rd.plain;have hm:=aol aF.empty k r hk c3 hr;have o:=avA v C cells L hv hC a3 (by omega);rw [g8] at o;have b3:=eQ (bP C (k+r)).length (nD (bP C (k+r)));obtain ⟨v',s',r'⟩:=b3.slice (P:=ayU) (t:=41) (sz:=1) (lo:=none) (hi:=some k) (by kernel_rfl) (by simp) (by simpa using h9);simp only [aAE,Option.getD_none,Nat.sub_zero,Nat.zero_mul,List.drop_zero] at r';have h3:=b3.slOk (P:=ayU) (m:=aF.empty) (t:=41);have e4:((bP C (k+r)).take k).length=k:=by rw [aBT];omega
 have u:∀ a∈(bP C (k+r)).take k,a < k+r∧(C.getD a []).length=L:=fun a A=>by
  obtain ⟨h1,h2⟩:=ain (List.mem_of_mem_take A);refine ⟨h1, ?_⟩;obtain ⟨b,l⟩:∃ b,C[a]? = some b:=⟨_,azm (by omega)⟩
  rw [tC l] at h2 ⊢;rcases hC b (az8 l) with h | h
  ·exact absurd h h2
  ·exact h
 have h8:((bP C (k+r)).take k).Nodup:=(aon C (k+r)).sublist (List.take_sublist _ _);have E:∀ i,i < k→∃ a,((bP C (k+r)).take k)[i]? = some a∧(nD (bP C (k+r)))[i]? = some (.val (.int .i64 a)):=fun i hi=>by
  obtain ⟨a,A⟩:∃ a,(bP C (k+r))[i]? = some a:=⟨_,azm (by omega)⟩
  exact ⟨a,by rw [aBU hi];exact A,aop A⟩
 generalize O:(bP C (k+r)).take k=at_ at *
 have k1:¬ (((bP C (k+r)).length:Nat):Int) < ((k:Nat):Int):=by omega
 have w1:azy.wrap (((k:Nat):Int)+((r:Nat):Int))=((k+r:Nat):Int):=by rw [←Int.natCast_add];exact dO (by omega)
 replace hC:=aA.mk hC;replace u:=aA.mk u;replace O:=aA.mk O;replace E:=aA.mk E;refine bV Tryz.func236 aD (h:=?_);unfold Tryz.f236;simp only [↓pre,zab,simprocAttr];refine jD hm ?_;rintro f4 m1 ⟨g,mm,rfl,rfl,I⟩;simp only [↓pre,zac,aos,simprocAttr,w1]
 (first | refine aI (o) (by first | rfl | simp only [aE, *]) ?_ | refine aH (o) (by first | rfl | simp only [aC,aE, *]) (by intro k;first | rfl | simp only [ *,zaa]) ?_);simp only [↓pre,zae,aaR,qS,Option.map_none,simprocAttr,b3.len',k1,s',r'.len',dD]
 generalize aF.setM aF.empty mm=m1 at *
 rw [bS];refine bU (fun q e m=>∃ i lm lf,q+i=k∧e 0=aB (k:Nat)∧e 1=aB (r:Nat)∧e 2=v∧e 8 = .val (.map (some g))∧e 11=lm∧e 12=lf∧e 44=v'∧e 45=aB (k:Nat)∧e 46=aB (i:Nat)∧aA (bY .var m 52 1 lm i (nY k (at_.take i))∧bY .var m 52 1 lf i (kN cells (at_.take i))∧nS m1 m∧kB m1 lm∧kB m1 lf∧∀ b,cG lm=some b→cG lf≠some b)) k ⟨0,aW,aW,by omega,rfl,rfl,rfl,rfl,rfl,rfl,rfl,rfl,rfl,⟨gK,gK,nS.refl _,wX _,wX _,fun b h=>by cases h⟩⟩ ?_;rintro q e m ⟨i,lm,lf,hq,e0,e1,e2,e8,c4,F,e5,b1,a7,hJ⟩;replace hq:=aA.mk hq;obtain ⟨a8,Z,J,g0,g5,f0⟩:=hJ.out;by_cases a5:i < k
 ·have H:((i:Nat):Int) < ((k:Nat):Int):=by omega
  have wi:=cB (n:=i) (by omega);obtain ⟨a,A,f8⟩:=E.out i a5;obtain ⟨c8,z⟩:=u.out a (az8 A);have D:at_.take (i+1)=at_.take i++[a]:=by rw [aA9,A];rfl
  have b0:nY k (at_.take (i+1))=nY k (at_.take i)++[.tree k k (aR k (fO k a)) true]:=by rw [D];unfold nY;rw [aBs];rfl
  have c5:=aoi (m:=m) (g:=g) (k:=k) (r:=r) (n:=k+r) (i:=a) (by unfold rA;rw [J.mm];exact I) c8;obtain ⟨b,l⟩:∃ b,C[a]? = some b:=⟨_,azm (by omega)⟩
  have c7:b.length=L:=by rw [tC l] at z;exact z
  obtain ⟨ca,x,Q,R⟩:=hv.at_ a b l;have g3:a < C.length:=by omega
  obtain ⟨cc,f,rfl,_⟩:∃ cc f,ca = .tree b.length cc (b.map bA++x) f∧b.length≤cc:=by
   rcases R.form with ⟨_,h⟩ | ⟨_,_,_,h⟩ | h
   ·omega
   ·omega
   ·exact h
  have b4:kN cells (at_.take (i+1))=kN cells (at_.take i)++[.tree b.length cc (b.map bA++x) f]:=by
   rw [D];unfold kN;rw [aBs,aAr,aAs,azs,Q];rfl
  replace A:=aA.mk A;replace l:=aA.mk l;replace D:=aA.mk D;replace b0:=aA.mk b0;replace b4:=aA.mk b4;replace z:=aA.mk z;replace J:=aA.mk J;replace c7:=aA.mk c7;simp only [aB] at c5;simp only [↓pre,zae,aaR,cO,aba,simprocAttr,e0,e1,e8,c4,e5,b1,a7,H,r'.addr',a5,f8,c5];refine aeG (kd := .var) (sz:=1) (y:=24) (zl:=[.slice none 0 0]) (by kernel_rfl) a8 (by kernel_rfl) (by kernel_rfl) (by kernel_rfl) rfl lV rfl (by omega) (by omega) J.out g0 ?_;intro h4 m' c0 d3 c6 f1 d1 a1;obtain ⟨e7,c9⟩:=Z.beside f1 d1 a1 fun b l h=>f0 b h l
  simp only [↓pre,zae,aaR,cO,aba,simprocAttr,e2,F,hv.rd.addr',g3,Q];refine aeG (kd := .var) (sz:=1) (y:=24) (zl:=[.slice none 0 0]) (by kernel_rfl) e7 (by kernel_rfl) (by kernel_rfl) (by kernel_rfl) rfl lV rfl (by omega) (by omega) d3 g5 ?_;intro h5 i3 a2 X Y d6 c2 d;obtain ⟨b2,a9⟩:=c0.beside d6 c2 d fun b l h=>c9 b h l
  simp only [↓pre,zab,simprocAttr,e0,e1,e2,e8,e5,b1,a7,wi];exact ⟨q - 1,by have:=hq.out;omega,i+1,h4,h5,by have:=hq.out;omega,rfl,rfl,rfl,⟨by rw [b0.out];exact b2,by rw [b4.out];exact a2,X,c6,Y,a9⟩⟩
 ·have H:¬ ((i:Nat):Int) < ((k:Nat):Int):=by omega
  have hi:i=k:=by have:=hq.out;omega
  subst hi;rw [aBa (by omega)] at a8 Z;have f9:cP (nY i at_)=true:=aau _ fun c hc=>by
   unfold nY at hc;obtain ⟨a,_,rfl⟩:=azp.1 hc;rfl
  have U:xJ i L (fun t=>gI C (at_.getD t 0)) (kN cells at_):=fun t ht=>by
   obtain ⟨a,A,_⟩:=E.out t ht;obtain ⟨c8,z⟩:=u.out a (az8 A);obtain ⟨b,l⟩:∃ b,C[a]? = some b:=⟨_,azm (by omega)⟩
   obtain ⟨ca,x,Q,R⟩:=hv.at_ a b l;refine ⟨ca,x, ?_, ?_⟩
   ·unfold kN;rw [azo,A,az6,azs,Q];rfl
   ·simp only [azs,A,aAE];unfold aR;have:=aow z;rw [this,tC l];rw [tC l] at z;rw [z] at R;exact R
  have f2:cP (kN cells at_)=true:=aau _ fun c hc=>by
   obtain ⟨t,ht⟩:=aBj hc;have f3:t < i:=by have:=(ay8.1 ht).1;unfold kN at this;rw [List.length_map] at this;omega
   obtain ⟨a,x,h1,h2⟩:=U t f3;rw [ht] at h1;cases h1;exact h2.plain
  obtain ⟨av,m2,h0,g9,g6,d0,T⟩:=(yH a8 (.inr ⟨rfl,f9⟩)).fz;have W:bY .var m2 52 1 lf i (kN cells at_):=Z.frz d0 T fun b l i1 n c f h=>by
   subst h;exact f0 b rfl l
  have d5:=asD J g6 d0 T;have b9:=avt av i (lP i at_) (nY i at_) ⟨g9,aox e4⟩ hk (by omega) (anW e4 h8 fun a A=>by have:=(u.out a A).1;omega);have d8:=(afx true true i i (mP i (lP i at_))).rd;have g2:=yH W (.inr ⟨rfl,f2⟩);have f6:=adb W;have e3:fzs m [lm]=some ([av],m2):=by simp [fzs,h0]
  simp only [↓pre,zac,simprocAttr,c4,b1,a7,H];refine abP b9 e3 ?_;simp only [↓pre,zae,aaR,simprocAttr,d8.len'];rw [bS];refine bU (fun q e m=>∃ j ld,q+j=i∧e 0=aB (i:Nat)∧e 1=aB (r:Nat)∧e 8 = .val (.map (some g))∧e 12=lf∧e 17=ld∧e 75 = .tree i i (nC true i i (mP i (lP i at_))) true∧e 76=aB (i:Nat)∧e 77=aB (j:Nat)∧aA (bY .var m 52 1 ld j (dJ L (lD i at_ (gI C)) 0 j)∧gX m2 m∧kB m2 ld)) i ⟨0,aW,by omega,e0,e1,e8,F,rfl,rfl,rfl,rfl,⟨gK,gX.refl _,wX _⟩⟩ ?_;rintro q2 e m ⟨j,ld,M,e0,e1,e8,F,a6,d2,b5,a4,g1⟩;replace M:=aA.mk M;obtain ⟨G,s,b6⟩:=g1.out;by_cases V:j < i
  ·have B:((j:Nat):Int) < ((i:Nat):Int):=by omega
   have wj:=cB (n:=j) (by omega);have b8:=aa7 true (w:=i) (mP i (lP i at_)) V;obtain ⟨f7,a0,K⟩:=(g2.keep s.w f6).lend2 (a := .tree i i (aR i (mP i (lP i at_) j)) true) rfl;have S:=aoe (.tree i i (aR i (mP i (lP i at_) j)) true) f7 i L (mP i (lP i at_) j) (fun t=>gI C (at_.getD t 0)) [] (kN cells at_) ⟨.inr (.inr ⟨i,true,by rw [aBl],aza _⟩)⟩ ⟨K,U⟩ hk (by omega) a3;rw [show pB i (mP i (lP i at_) j) (fun t=>gI C (at_.getD t 0))=lD i at_ (gI C) j from rfl] at S;have d:gX m2 ((m.push ⟨aR L (lD i at_ (gI C) j),5,.flat,true⟩).put m.next (some ⟨aR L (lD i at_ (gI C) j),5,.flat,false⟩)):=⟨s.mm,by rw [fC,cQ];have:=s.next;omega,fun j x hj hl=>by have:=s.next;rw [cI,if_neg (by omega),cF,if_neg (by omega)];exact s.at_ j x hj hl⟩
   have i0:=aip (m:=m.push ⟨aR L (lD i at_ (gI C) j),5,.flat,true⟩) (b:=m.next) (n:=L) (f:=true) (by rw [cF,if_pos rfl]);have N:=afC L (lD i at_ (gI C)) 0 j;rw [azq] at N;replace N:=aA.mk N;replace s:=aA.mk s;replace d:=aA.mk d;replace K:=aA.mk K;simp only [↓pre,zae,aaR,simprocAttr,F,d2,b5,a4,B,d8.addr',V,b8];refine wU S a0 (by simp [fA.apart,hY,iA,afD,aB]) ?_;simp only [↓pre,zac,aaR,cO,simprocAttr,a6,i0];refine adc (kd := .var) (sz:=1) (y:=24) (zl:=[.slice none 0 0]) (by kernel_rfl) (G.pp _ _) (by kernel_rfl) (by kernel_rfl) (by kernel_rfl) rfl lV rfl (by omega) (by omega) d.out b6 ?_;intro h7 m' c1 d4 d7;simp only [↓pre,zab,simprocAttr,e0,e1,e8,F,d2,b5,a4,wj];exact ⟨q2 - 1,by have:=M.out;omega,j+1,h7,by have:=M.out;omega,rfl,rfl,⟨by rw [N.out];exact c1,d4,d7⟩⟩
  ·have B:¬ ((j:Nat):Int) < ((i:Nat):Int):=by omega
   have hj:j=i:=by have:=M.out;omega
   subst hj;have g4:rA m g j r (j+r):=by unfold rA;rw [s.mm,d5.mm];exact I
   have f5:xJ j L (lD j at_ (gI C)) (dJ L (lD j at_ (gI C)) 0 j):=fun t ht=>by
    refine ⟨_,[],aat ht, ?_⟩;rw [aBl,azq];exact ⟨.inr (.inr ⟨L,true,rfl,aza _⟩)⟩
   have h6:=aor m g j r j r L ld (lD j at_ (gI C)) _ g4 (yH G (.inr ⟨rfl,aov _ _ _ _⟩)) (adb G) f5 hk c3 hr (aza _) a3;simp only [↓pre,zac,simprocAttr,e0,e1,e8,a6,b5,a4,B,w1];refine jD h6 ?_;rintro f4 m4 ⟨lv,rfl,g7,d9,i4⟩;have b7:bY .var m4 52 1 ld j (dJ L (lD j at_ (gI C)) 0 j):=G.keep d9.next fun b x l O=>d9.at_ b x O (by
    rcases G.form with ⟨rfl,_⟩ | ⟨b',rfl,_,a5,_⟩
    ·cases l
    ·injection l with l;omega)
   simp only [↓pre,zab,aaR,cO,simprocAttr,a6];refine nP (kd := .var) (sz:=1) (y:=24) (zl:=[.slice none 0 0]) (by kernel_rfl) b7 (by kernel_rfl) (by kernel_rfl) (by kernel_rfl) rfl (afF g7 (by kernel_rfl)) (by rw [avB];omega) (by omega) (by omega) ?_;intro lo m5 e9 i2;have e6:dJ L (lD j at_ (gI C)) 0 j++dJ L (gQ j (lD j at_ (gI C))) j r=dJ L (aco j at_ (gI C)) 0 (j+r):=by
    rw [←avC];congr 1;exact avD fun i _ hi p _=>(aie _ (by omega) p).symm
   rw [e6] at e9;simp only [↓pre,simprocAttr];exact ⟨1,by rw [kH,eC,adG e9 (aio _ _ _ _),aAk,eC,gU,jI];rfl⟩
structure fH where
 kd:Int
 ix:Int
 ce:Int
 st:Int
 vv:AV
 dv:AV
def fH.cells (s:fH):List AV:=[.val (.int .u8 s.kd),.val (.int .i64 s.ix),.val (.int .i64 s.ce),.val (.int .i64 s.st),s.vv,s.dv]
def fH.v (s:fH):AV := .agg s.cells
structure fH.Rd (s:fH):Prop where
 vv:∃ n cs,aT s.vv n cs
 dv:∃ n cs,aT s.dv n cs
def uP:fH:=⟨0,0,0,0,aW,aW⟩
def jK.sl (s:jK):fH:=⟨s.kd,s.ix,s.ce,s.st,.tree s.vec.length s.vec.length (bJ s.vec) false,.tree s.data.length s.data.length (aJ s.data) false⟩
def dW (k r c w:Int) (bs:List UInt8):fH:=if dP k r c w bs=true then (bN k r bs).sl else uP
theorem uQ (k r c w:Int) (bs:List UInt8):(dW k r c w bs).Rd:=by
 unfold dW;split
 ·exact ⟨⟨_,_,⟨.inr (.inr ⟨_,_,rfl,aza _⟩)⟩⟩,⟨_,_,⟨.inr (.inr ⟨_,_,rfl,aza _⟩)⟩⟩⟩
 ·exact ⟨⟨0,[],⟨.inl ⟨rfl,rfl⟩⟩⟩,⟨0,[],⟨.inl ⟨rfl,rfl⟩⟩⟩⟩
theorem afG (k r c w:Int) (v:AV) (bs:List UInt8) (x:List AV) (f:aT v bs.length (aJ bs++x)) (d:bG k r c w=true) (a:iY k r c bs.length=true):aQ ayU 93 [aC k r c w,v] ⟨.tup [.agg (dW k r c w bs).cells,aZ (dP k r c w bs),aB 0],[]⟩:=by
 have h:=am6 k r c w v bs x f;unfold qW at h;unfold dW;cases hs:dP k r c w bs with
 | true =>
  rw [hs,if_pos ⟨d,rfl⟩] at h;rw [if_pos rfl];exact h
 | false =>
  rw [hs,if_neg (fun h=>by cases h.2)] at h;rw [if_neg (by decide)];have e:(if bG k r c w=false then (2:Int) else if (bs.length:Int)=0 then 0 else if (bs.length:Int)=eE k r c then 0 else 100)=0:=by
   rw [d,if_neg (by decide)];unfold iY at a;by_cases b:(bs.length:Int)=0
   ·rw [if_pos b]
   ·rw [if_neg b];rw [decide_eq_false b,Bool.false_or] at a;rw [if_pos (of_decide_eq_true a)]
  rw [e] at h;exact h
theorem aoy (k r c w:Int) (bs:List UInt8) (ix:Int):(dP k r c w bs && decide ((dW k r c w bs).ix=ix))=eF k r c w bs ix:=by
 unfold dW eF;cases h:dP k r c w bs with
 | true=>rw [if_pos rfl];rfl
 | false=>rfl
def qE (b c:fH) (d a:Bool):List AV:=b.cells++(aZ d::c.cells)++[aZ a]
theorem abb {cs:List AV} (h:∀ c∈cs,kL c):kL (.agg cs):=fun k m=>by rw [abV,adF cs h];rfl
theorem afH {cs:List AV} (h:∀ c∈cs,kL c):kL (.tup cs):=fun k m=>by rw [kH,adF cs h];rfl
theorem fH.Rd.ids {s:fH} (h:s.Rd):∀ c∈s.cells,kL c:=by
 obtain ⟨⟨_,_,d⟩,⟨_,_,b⟩⟩:=h;intro c a;simp only [fH.cells,az7,aBY,or_false] at a;rcases a with rfl | rfl | rfl | rfl | rfl | rfl
 ·exact dK _
 ·exact dK _
 ·exact dK _
 ·exact dK _
 ·exact xI d
 ·exact xI b
theorem avH {b d:fH} (f:b.Rd) (g:d.Rd) (h e:Bool):∀ c∈qE b d h e,kL c:=by
 intro c a;simp only [qE,List.mem_append,az7,aBY,or_false] at a;rcases a with (a | rfl | a) | rfl
 ·exact f.ids c a
 ·exact dK _
 ·exact g.ids c a
 ·exact dK _
theorem pE {a b:AV} (e:kL a) (f:kL b):kL (.tup [a,b]):=afH fun c d=>by
 simp only [az7,aBY,or_false] at d;rcases d with rfl | rfl
 ·exact e
 ·exact f
theorem rB:azy.wrap 1=1:=by decide
theorem tD:azy.wrap 2=2:=by decide
def tE:Nat→Bool:=fun d=>d != 8
theorem aoz (k r c w ix kd:Int) (B y:AV) (p:aO) (Q R:List AV) (z:aT B p.1.length (aJ p.1++Q)) (A:aT y p.2.length (aJ p.2++R)) (H:bG k r c w=true) (E:kD k r c p.1.length p.2.length=true) (hk:kd=1∨kd=2) (a0:0≤ix) (O:ix < k+r) :
 aQ ayU 292 [aC k r c w,.agg [B,y],.val (.int .u8 kd),aB ix] ⟨.tup [.agg (qE (dW k r c w p.1) (dW k r c w p.2) (eF k r c w p.1 ix) (eF k r c w p.2 ix)),aB 0],[]⟩:=by
 refine gA ?_;unfold kD at E;rw [aAq] at E;have q:=afG k r c w B p.1 Q z H E.1;have o:=afG k r c w y p.2 R A H E.2;have L:=qB k r c w;simp only [H,if_true] at L;rw [←aoy,←aoy];have J:=uQ k r c w p.1;have G:=uQ k r c w p.2;obtain ⟨⟨n1,y1,P⟩,⟨n2,y2,M⟩⟩:=uQ k r c w p.1;obtain ⟨⟨n3,y3,V⟩,⟨n4,y4,T⟩⟩:=uQ k r c w p.2;generalize dW k r c w p.1=u at *
 generalize dW k r c w p.2=K at *
 generalize dP k r c w p.1=x at *
 generalize dP k r c w p.2=I at *
 have f1:=bW z;have f2:=bW A;have o1:=bR z;have o2:=bR A;have q1:=bR P;have q2:=bR M;have q3:=bR V;have q4:=bR T;have t1:=dB P;have Y:=dB M;have Z:=dB V;have t4:=dB T;have X:=z.plain;have a1:=A.plain;have N:¬ ix < 0:=by omega
 have U:¬ k+r≤ix:=by omega
 unfold fH.cells at q o;refine bV Tryz.func292 tE (h:=?_);unfold Tryz.f292;simp only [↓pre,zad,uH,tE,bD,aX,simprocAttr,aC,bne,f1,f2]
 (first | refine aI (L) (by first | rfl | simp only [aC,aE, *]) ?_ | refine aH (L) (by first | rfl | simp only [aC,aE, *]) (by intro k;first | rfl | simp only [ *,zaa]) ?_);simp only [↓pre,zaf,uH,tE,simprocAttr,bne]
 rw [bS];refine bU (fun n e m=>∃ i cs,n+i=2∧e 2 = .val (.int .u8 kd)∧e 3=aB ix∧e 4 = .tptr 0 [aB k,aB r,aB c,aB w]∧e 8 = .ptr 0 0∧e 10=aB (k+r)∧e 22 = .agg [B,y]∧e 23=aB (i:Nat)∧m.at_ 0=some ⟨cs,304,.var,true⟩∧(i=0→cs=qE uP uP false false)∧(i=1→cs=qE u uP (x && decide (u.ix=ix)) false)∧(i=2→cs=qE u K (x && decide (u.ix=ix)) (I && decide (K.ix=ix)))) 2 ⟨0,_,by omega,rfl,rfl,rfl,rfl,rfl,rfl,rfl,rfl,fun _=>rfl,fun h=>by omega,fun h=>by omega⟩ ?_;rintro n e m ⟨i,cs,f,s,t,v,l,j,g,a,b,C,F,D⟩;obtain rfl | rfl | rfl:i=0∨i=1∨i=2:=by omega
 ·obtain rfl:=C rfl;clear C F D;replace f:=aA.mk f;simp only [qE,fH.cells,uP,aBZ,aBt] at b;simp only [↓pre,zaj,uH,tE,aB0,aB0,simprocAttr,bne,v,g,a]
  (first | refine aI (q) (by first | rfl | simp only [aE, *]) ?_ | refine aH (q) (by first | rfl | simp only [aC,aE, *]) (by intro k;first | rfl | simp only [ *,zaa]) ?_);simp only [↓pre,zaj,uH,tE,simprocAttr,bne,aS,t1,Y,l,b]
  cases x with
  | false =>
   simp only [↓pre,zaj,uH,tE,rB,aB0,simprocAttr,bne,aS,s,t,v,l,j,g,a];refine ⟨n - 1,by have:=f.out;omega,1,_,by have:=f.out;omega,rfl,rfl,fun h=>(by cases h),fun _=>rfl,fun h=>(by cases h)⟩
  | true =>
   simp only [↓pre,zaj,uH,tE,rB,aB0,simprocAttr,bne,aS,s,t,v,l,j,g,a];refine ⟨n - 1,by have:=f.out;omega,1,_,by have:=f.out;omega,rfl,rfl,fun h=>(by cases h),fun _=>rfl,fun h=>(by cases h)⟩
 ·obtain rfl:=F rfl;clear C F D;replace f:=aA.mk f;generalize W:(x && decide (u.ix=ix))=S at *
  simp only [qE,fH.cells,uP,aBZ,aBt] at b;simp only [↓pre,zaj,uH,tE,aB0,simprocAttr,bne,v,g,a]
  (first | refine aI (o) (by first | rfl | simp only [aE, *]) ?_ | refine aH (o) (by first | rfl | simp only [aC,aE, *]) (by intro k;first | rfl | simp only [ *,zaa]) ?_);simp only [↓pre,zaj,uH,tE,simprocAttr,bne,aS,Z,t4,l,b]
  cases I with
  | false =>
   simp only [↓pre,zaj,uH,tE,tD,aB0,simprocAttr,bne,aS,s,t,v,l,j,g,a];refine ⟨n - 1,by have:=f.out;omega,2,_,by have:=f.out;omega,rfl,rfl,fun h=>(by cases h),fun h=>(by cases h),fun _=>rfl⟩
  | true =>
   simp only [↓pre,zaj,uH,tE,tD,aB0,simprocAttr,bne,aS,s,t,v,l,j,g,a];refine ⟨n - 1,by have:=f.out;omega,2,_,by have:=f.out;omega,rfl,rfl,fun h=>(by cases h),fun h=>(by cases h),fun _=>rfl⟩
 ·obtain rfl:=D rfl;clear C F D;replace f:=aA.mk f;generalize W:(x && decide (u.ix=ix))=S at *
  generalize a2:(I && decide (K.ix=ix))=B1 at *
  simp only [qE,fH.cells,aBZ,aBt] at b;have d:=fun m=>pE (abb (avH J G S B1)) (dK (.int .i64 0)) 0 m
  replace d:=aA.mk d;rcases hk with rfl | rfl
  ·simp only [↓pre,za,uH,tE,aB0,simprocAttr,bne,aS,s,t,l,j,a,b,N,U];exact ⟨0,d.out _⟩
  ·simp only [↓pre,za,uH,tE,aB0,simprocAttr,bne,aS,s,t,l,j,a,b,N,U];exact ⟨0,d.out _⟩
def jY (s:fH) (b:Bool) (kd ver:Int):Bool:=b && (decide (s.kd=kd) && decide (s.ce=ver))
def yU (b c:fH) (d a:Bool) (kd ver:Int):Int:=if jY b d kd ver=true then 0 else if jY c a kd ver=true then 1 else -1
theorem avI {a b:fH} (e:a.Rd) (f:b.Rd) (d c:Bool) (m:aF):fz m (.agg (qE a b d c))=some (.agg (qE a b d c),m):=by
 obtain ⟨⟨w,s,j⟩,⟨p,t,o⟩⟩:=e;obtain ⟨⟨u,v,n⟩,⟨r,q,l⟩⟩:=f;have g:=bW j;have h:=bW o;have i:=bW n;have k:=bW l;simp [qE,fH.cells,fz,fzs,g,h,i,k,aZ]
theorem aoA (b c:fH) (v:b.Rd) (y:c.Rd) (l k:Bool) (kd ver:Int):aQ ayU 293 [.agg (qE b c l k),.val (.int .u8 kd),aB ver] ⟨aB (yU b c l k kd ver),[]⟩:=by
 have E:=avI v y l k;obtain ⟨⟨P,J,z⟩,⟨F,K,D⟩⟩:=v;obtain ⟨⟨N,O,C⟩,⟨H,G,A⟩⟩:=y;have s:=bW z;have t:=bW D;have u:=bW C;have w:=bW A;have M:=bR z;have L:=bR D;have Q:=bR C;have I:=bR A;simp only [qE,fH.cells,aBZ,aBt];refine aV Tryz.func293 aD (h:=?_);unfold Tryz.f293;simp only [↓pre,zac,yK,simprocAttr,s,t,u,w];rw [bS];refine bU (fun n e m=>∃ i,n+i=2∧e 1 = .val (.int .u8 kd)∧e 2=aB ver∧e 9 = .agg [AV.val (azD aBQ b.kd),AV.val (azD azy b.ix),AV.val (azD azy b.ce),AV.val (azD azy b.st),b.vv,b.dv,AV.val (Value.bool l),AV.val (azD aBQ c.kd),AV.val (azD azy c.ix),AV.val (azD azy c.ce),AV.val (azD azy c.st),c.vv,c.dv,AV.val (Value.bool k)]∧e 10=aB (i:Nat)∧(1≤i→jY b l kd ver=false)∧(2≤i→jY c k kd ver=false)) 2 ⟨0,by omega,rfl,rfl,rfl,rfl,fun h=>by omega,fun h=>by omega⟩ ?_;rintro n e m ⟨i,d,q,o,p,a,j,r⟩;obtain rfl | rfl | rfl:i=0∨i=1∨i=2:=by omega
 ·replace d:=aA.mk d;clear j r;have key:∀ (B:Bool),jY b l kd ver=B→(B=true→yU b c l k kd ver=0):=fun B f g=>by unfold yU;rw [f,g];rfl
  replace key:=aA.mk key;cases l with
  | false =>
   simp only [↓pre,zah,yK,bD,rB,simprocAttr,aS,s,t,q,o,p,a];exact ⟨n - 1,by have:=d.out;omega,1,by have:=d.out;omega,rfl,fun _=>rfl,fun h=>by omega⟩
  | true =>
   by_cases f:b.kd=kd
   ·by_cases g:b.ce=ver
    ·have x:=key.out true (by unfold jY;rw [decide_eq_true f,decide_eq_true g];rfl) rfl;rw [x];simp only [↓pre,zah,yK,bD,simprocAttr,aS,s,t,q,o,p,a,f,g]
    ·simp only [↓pre,zah,yK,bD,rB,simprocAttr,aS,s,t,q,o,p,a,f,g];exact ⟨n - 1,by have:=d.out;omega,1,by have:=d.out;omega,rfl,fun _=>by unfold jY;rw [decide_eq_false g];simp,fun h=>by omega⟩
   ·simp only [↓pre,zah,yK,bD,rB,simprocAttr,aS,s,t,q,o,p,a,f];exact ⟨n - 1,by have:=d.out;omega,1,by have:=d.out;omega,rfl,fun _=>by unfold jY;rw [decide_eq_false f];simp,fun h=>by omega⟩
 ·replace d:=aA.mk d;have j:=aA.mk (j (by omega));clear r;have key:∀ (B:Bool),jY c k kd ver=B→(B=true→yU b c l k kd ver=1):=fun B f g=>by unfold yU;rw [j.out,f,g];rfl
  replace key:=aA.mk key;cases k with
  | false =>
   simp only [↓pre,zah,yK,bD,tD,simprocAttr,aS,u,w,q,o,p,a];exact ⟨n - 1,by have:=d.out;omega,2,by have:=d.out;omega,rfl,fun _=>j.out,fun h=>rfl⟩
  | true =>
   by_cases f:c.kd=kd
   ·by_cases g:c.ce=ver
    ·have x:=key.out true (by unfold jY;rw [decide_eq_true f,decide_eq_true g];rfl) rfl;rw [x];simp only [↓pre,zah,yK,bD,simprocAttr,aS,u,w,q,o,p,a,f,g]
    ·simp only [↓pre,zah,yK,bD,tD,simprocAttr,aS,u,w,q,o,p,a,f,g];exact ⟨n - 1,by have:=d.out;omega,2,by have:=d.out;omega,rfl,fun _=>j.out,fun _=>by unfold jY;rw [decide_eq_false g];simp⟩
   ·simp only [↓pre,zah,yK,bD,tD,simprocAttr,aS,u,w,q,o,p,a,f];exact ⟨n - 1,by have:=d.out;omega,2,by have:=d.out;omega,rfl,fun _=>j.out,fun _=>by unfold jY;rw [decide_eq_false f];simp⟩
 ·have j:=j (by omega);have r:=r (by omega);have x:yU b c l k kd ver = -1:=by unfold yU;rw [j,r];rfl
  replace j:=aA.mk j;replace r:=aA.mk r;rw [x];simp only [↓pre,zac,aB0,simprocAttr,a]
def eX (k r c w:Int) (bs:List UInt8) (ix kd ver:Int):Bool:=jY (dW k r c w bs) (eF k r c w bs ix) kd ver
def acu (k r c w:Int) (p:aO) (ix kd ver:Int):AV:=if eX k r c w p.1 ix kd ver=true then .tup [aB 0,(dW k r c w p.1).v,aZ true,aB 0] else if eX k r c w p.2 ix kd ver=true then .tup [aB 1,(dW k r c w p.2).v,aZ true,aB 0] else .tup [aB 0,uP.v,aZ false,aB 0]
theorem aiq {a b c d:AV} (f:kL a) (h:kL b) (g:kL c) (i:kL d):kL (.tup [a,b,c,d]):=afH fun x e=>by
 simp only [az7,aBY,or_false] at e;rcases e with rfl | rfl | rfl | rfl
 ·exact f
 ·exact h
 ·exact g
 ·exact i
theorem ww0:azy.wrap 0=0:=by decide
def abc:Nat→Bool:=fun d=>d != 11
theorem avJ (k r c w ix kd ver:Int) (t o:AV) (p:aO) (G H:List AV) (f:aT t p.1.length (aJ p.1++G)) (g:aT o p.2.length (aJ p.2++H)) (L:bG k r c w=true) (U:kD k r c p.1.length p.2.length=true) (X:kd=1∨kd=2) (v:0≤ix) (e:ix < k+r) (Q:1≤ver) (Y:ver≤1073741824) :
 aQ ayU 237 [aC k r c w,.agg [t,o],.val (.int .u8 kd),aB ix,aB ver] ⟨acu k r c w p ix kd ver,[]⟩:=by
 refine gA ?_;have z:=aoz k r c w ix kd t o p G H f g L U X v e;have d:=uQ k r c w p.1;have a:=uQ k r c w p.2;unfold acu eX;generalize dW k r c w p.1=J at *
 generalize dW k r c w p.2=K at *
 generalize eF k r c w p.1 ix=D at *
 generalize eF k r c w p.2 ix=B at *
 have b:=aoA J K d a D B kd ver;have q:=fun m=>aiq (dK (.int .i64 0)) (abb d.ids) (dK (.bool true)) (dK (.int .i64 0)) 0 m
 have u:=fun m=>aiq (dK (.int .i64 1)) (abb a.ids) (dK (.bool true)) (dK (.int .i64 0)) 0 m
 have x:=fun m=>aiq (dK (.int .i64 0)) (abb (cs:=uP.cells) (fH.Rd.ids (s:=uP) ⟨⟨0,[],⟨.inl ⟨rfl,rfl⟩⟩⟩,⟨0,[],⟨.inl ⟨rfl,rfl⟩⟩⟩⟩)) (dK (.bool false)) (dK (.int .i64 0)) 0 m
 replace q:=aA.mk q;replace u:=aA.mk u;replace x:=aA.mk x;obtain ⟨⟨n1,y1,i⟩,⟨n2,y2,n⟩⟩:=d;obtain ⟨⟨n3,y3,l⟩,⟨n4,y4,j⟩⟩:=a;have C:=bW i;have E:=bW n;have F:=bW l;have I:=bW j;have q1:=bR i;have q2:=bR n;have q3:=bR l;have q4:=bR j;have R:=dB i;have M:=dB n;have P:=dB l;have W:=dB j;have p1:=i.plain;have p2:=n.plain;have p3:=l.plain;have p4:=j.plain;have A:=bW f;have y:=bW g;have o1:=bR f;have o2:=bR g;have N:=f.plain;have S:=g.plain;have T:¬ ver < 1:=by omega
 have Z:¬ (1073741824:Int) < ver:=by omega
 simp only [qE,fH.cells,aBZ,aBt,aZ] at z b;refine bV Tryz.func237 abc (h:=?_);unfold Tryz.f237;simp only [↓pre,zad,aaS,abc,bD,aX,simprocAttr,aC,bne,A,y]
 (first | refine aI (z) (by first | rfl | simp only [aE, *]) ?_ | refine aH (z) (by first | rfl | simp only [aC,aE, *]) (by intro k;first | rfl | simp only [ *,zaa]) ?_);simp only [↓pre,zaf,aaS,abc,bD,simprocAttr,bne,aS,C,E,F,I,R,M,P,W,T,Z];(first | refine aI (b) (by first | rfl | simp only [aE, *]) ?_ | refine aH (b) (by first | rfl | simp only [aC,aE, *]) (by intro k;first | rfl | simp only [ *,zaa]) ?_);simp only [↓pre,zaf,abc,simprocAttr,bne]
 unfold yU;cases V:jY J D kd ver with
 | true =>
  simp only [↓pre,zaf,aaS,abc,bH,simprocAttr,bne,aS,C,E];refine cX (by kernel_rfl) ?_;simp only [↓pre,simprocAttr,sx,aaS,aG];exact ⟨0,q.out _⟩
 | false =>
  cases O:jY K B kd ver with
  | true =>
   simp only [↓pre,zaf,aaS,abc,bH,simprocAttr,bne,aS,F,I];refine cX (by kernel_rfl) ?_;simp only [↓pre,simprocAttr,sx,aaS,aG];exact ⟨0,u.out _⟩
  | false =>
   simp only [↓pre,zaf,aaS,abc,simprocAttr,bne,aS];exact ⟨0,x.out _⟩
def qF (k r c w:Int) (p:aO) (ix kd a:Int):Nat :=
 if 0 < a∧eX k r c w p.1 ix kd a=true then 1 else if 0 < a∧eX k r c w p.2 ix kd a=true then 0
 else if eF k r c w p.1 ix=false then 0 else if eF k r c w p.2 ix=false then 1
 else if (dW k r c w p.2).ce < (dW k r c w p.1).ce then 1 else 0
theorem avK (k r c w ix kd a:Int) (v0 Z:AV) (p:aO) (x0 x1:List AV) (R:aT v0 p.1.length (aJ p.1++x0)) (T:aT Z p.2.length (aJ p.2++x1)) (hm:bG k r c w=true) (hp:kD k r c p.1.length p.2.length=true) (hk:kd=1∨kd=2) (a0:0≤ix) (J:ix < k+r) (a5:0≤a) (a4:a≤1073741824) :
 aQ ayU 239 [aC k r c w,.agg [v0,Z],.val (.int .u8 kd),aB ix,aB a] ⟨.tup [aB (qF k r c w p ix kd a:Nat),aB 0],[]⟩:=by
 generalize j:qF k r c w p ix kd a=N;have hl:=aoz k r c w ix kd v0 Z p x0 x1 R T hm hp hk a0 J;have P:=uQ k r c w p.1;have L:=uQ k r c w p.2;unfold qF eX at j;generalize dW k r c w p.1=d at *
 generalize dW k r c w p.2=f at *
 generalize eF k r c w p.1 ix=u at *
 generalize eF k r c w p.2 ix=x at *
 have B:=aoA d f P L u x kd a;obtain ⟨⟨n1,y1,X⟩,⟨n2,y2,U⟩⟩:=P;obtain ⟨⟨n3,y3,Y⟩,⟨n4,y4,W⟩⟩:=L;have I:=bW X;have M:=bW U;have O:=bW Y;have K:=bW W;have q1:=bR X;have q2:=bR U;have q3:=bR Y;have q4:=bR W;have t1:=dB X;have t2:=dB U;have t3:=dB Y;have t4:=dB W;have p1:=X.plain;have p2:=U.plain;have p3:=Y.plain;have p4:=W.plain;have a2:=bW R;have a1:=bW T;have o1:=bR R;have o2:=bR T;have a3:=R.plain;have a6:=T.plain;have z1:¬ a < 0:=by omega
 have z2:¬ (1073741824:Int) < a:=by omega
 replace j:=aA.mk j;simp only [qE,fH.cells,aBZ,aBt,aZ] at hl B;refine aV Tryz.func239 aD (h:=?_);unfold Tryz.f239;simp only [↓pre,zab,qA,simprocAttr,aC,a2,a1]
 (first | refine aI (hl) (by first | rfl | simp only [aE, *]) ?_ | refine aH (hl) (by first | rfl | simp only [aC,aE, *]) (by intro k;first | rfl | simp only [ *,zaa]) ?_);simp only [↓pre,zae,qA,bD,aX,simprocAttr,aS,I,M,O,K,t1,t2,t3,t4,z1,z2];(first | refine aI (B) (by first | rfl | simp only [aE, *]) ?_ | refine aH (B) (by first | rfl | simp only [aC,aE, *]) (by intro k;first | rfl | simp only [ *,zaa]) ?_);simp only [↓pre,zai,aX,simprocAttr]
 unfold yU;by_cases E:0 < a∧jY d u kd a=true
 ·obtain ⟨G,H⟩:=E;have q:N=1:=by rw [←j.out,if_pos ⟨G,H⟩]
  subst q;simp only [↓pre,zac,rB,aB0,simprocAttr,G,H]
 ·by_cases V:0 < a∧jY f x kd a=true
  ·obtain ⟨D,Q⟩:=V;have hf:jY d u kd a=false:=by
    cases h:jY d u kd a with
    | false=>rfl
    | true=>exact absurd ⟨D,h⟩ E
   have q:N=0:=by rw [←j.out,if_neg E,if_pos ⟨D,Q⟩]
   subst q;simp only [↓pre,zac,ww0,aB0,simprocAttr,D,Q,hf]
  ·have b:=j.out;rw [if_neg E,if_neg V] at b;replace b:=aA.mk b;have F:∀ (z:Int),(z=(if jY d u kd a=true then 0 else if jY f x kd a=true then 1 else -1))→(0 < a→z = -1):=fun z S v=>by
    rw [S,if_neg (fun h=>E ⟨v,h⟩),if_neg (fun h=>V ⟨v,h⟩)]
   generalize S:(if jY d u kd a=true then (0:Int) else if jY f x kd a=true then 1 else -1)=z;have C:=F z S.symm;clear S F E V;by_cases v:0 < a
   ·have:=C v;subst this;clear C;simp only [↓pre,zac,qA,simprocAttr,v];rw [bS];refine bU (fun n e m=>∃ i,n+i=2∧e 12 = .tptr 0 [AV.val (azD aBQ d.kd),AV.val (azD azy d.ix),AV.val (azD azy d.ce),AV.val (azD azy d.st),d.vv,d.dv,AV.val (Value.bool u),AV.val (azD aBQ f.kd),AV.val (azD azy f.ix),AV.val (azD azy f.ce),AV.val (azD azy f.st),f.vv,f.dv,AV.val (Value.bool x)]∧e 46 = .agg [AV.val (azD aBQ d.kd),AV.val (azD azy d.ix),AV.val (azD azy d.ce),AV.val (azD azy d.st),d.vv,d.dv,AV.val (Value.bool u),AV.val (azD aBQ f.kd),AV.val (azD azy f.ix),AV.val (azD azy f.ce),AV.val (azD azy f.st),f.vv,f.dv,AV.val (Value.bool x)]∧e 47=aB (i:Nat)∧(1≤i→u=true)∧(2≤i→x=true)) 2 ⟨0,by omega,rfl,rfl,rfl,fun h=>by omega,fun h=>by omega⟩ ?_;rintro n e m ⟨i,s,l,o,g,t,y⟩;obtain rfl | rfl | rfl:i=0∨i=1∨i=2:=by omega
    ·replace s:=aA.mk s;clear t y;cases u with
     | false =>
      have q:N=0:=by rw [←b.out,if_pos rfl]
      subst q;simp only [↓pre,zah,qA,bD,simprocAttr,aS,I,M,o,g]
     | true =>
      simp only [↓pre,zah,qA,bD,rB,simprocAttr,aS,I,M,l,o,g];exact ⟨n - 1,by have:=s.out;omega,1,by have:=s.out;omega,rfl,fun _=>trivial,fun h=>by omega⟩
    ·replace s:=aA.mk s;have t:=t (by omega);subst t;clear y;cases x with
     | false =>
      have q:N=1:=by rw [←b.out,if_neg (by decide),if_pos rfl]
      subst q;simp only [↓pre,zah,qA,bD,simprocAttr,aS,O,K,o,g]
     | true =>
      simp only [↓pre,zah,qA,bD,tD,simprocAttr,aS,O,K,l,o,g];exact ⟨n - 1,by have:=s.out;omega,2,by have:=s.out;omega,rfl,fun _=>trivial,fun h=>trivial⟩
    ·have t:=t (by omega);have y:=y (by omega);subst t y;by_cases A:f.ce < d.ce
     ·have q:N=1:=by rw [←b.out,if_neg (by decide),if_neg (by decide),if_pos A]
      subst q;simp only [↓pre,zah,qA,simprocAttr,l,g,A]
     ·have q:N=0:=by rw [←b.out,if_neg (by decide),if_neg (by decide),if_neg A]
      subst q;simp only [↓pre,zah,qA,simprocAttr,l,g,A]
   ·clear C;simp only [↓pre,zac,qA,simprocAttr,v];rw [bS];refine bU (fun n e m=>∃ i,n+i=2∧e 12 = .tptr 0 [AV.val (azD aBQ d.kd),AV.val (azD azy d.ix),AV.val (azD azy d.ce),AV.val (azD azy d.st),d.vv,d.dv,AV.val (Value.bool u),AV.val (azD aBQ f.kd),AV.val (azD azy f.ix),AV.val (azD azy f.ce),AV.val (azD azy f.st),f.vv,f.dv,AV.val (Value.bool x)]∧e 46 = .agg [AV.val (azD aBQ d.kd),AV.val (azD azy d.ix),AV.val (azD azy d.ce),AV.val (azD azy d.st),d.vv,d.dv,AV.val (Value.bool u),AV.val (azD aBQ f.kd),AV.val (azD azy f.ix),AV.val (azD azy f.ce),AV.val (azD azy f.st),f.vv,f.dv,AV.val (Value.bool x)]∧e 47=aB (i:Nat)∧(1≤i→u=true)∧(2≤i→x=true)) 2 ⟨0,by omega,rfl,rfl,rfl,fun h=>by omega,fun h=>by omega⟩ ?_;rintro n e m ⟨i,s,l,o,g,t,y⟩;obtain rfl | rfl | rfl:i=0∨i=1∨i=2:=by omega
    ·replace s:=aA.mk s;clear t y;cases u with
     | false =>
      have q:N=0:=by rw [←b.out,if_pos rfl]
      subst q;simp only [↓pre,zah,qA,bD,simprocAttr,aS,I,M,o,g]
     | true =>
      simp only [↓pre,zah,qA,bD,rB,simprocAttr,aS,I,M,l,o,g];exact ⟨n - 1,by have:=s.out;omega,1,by have:=s.out;omega,rfl,fun _=>trivial,fun h=>by omega⟩
    ·replace s:=aA.mk s;have t:=t (by omega);subst t;clear y;cases x with
     | false =>
      have q:N=1:=by rw [←b.out,if_neg (by decide),if_pos rfl]
      subst q;simp only [↓pre,zah,qA,bD,simprocAttr,aS,O,K,o,g]
     | true =>
      simp only [↓pre,zah,qA,bD,tD,simprocAttr,aS,O,K,l,o,g];exact ⟨n - 1,by have:=s.out;omega,2,by have:=s.out;omega,rfl,fun _=>trivial,fun h=>trivial⟩
    ·have t:=t (by omega);have y:=y (by omega);subst t y;by_cases A:f.ce < d.ce
     ·have q:N=1:=by rw [←b.out,if_neg (by decide),if_neg (by decide),if_pos A]
      subst q;simp only [↓pre,zah,qA,simprocAttr,l,g,A]
     ·have q:N=0:=by rw [←b.out,if_neg (by decide),if_neg (by decide),if_neg A]
      subst q;simp only [↓pre,zah,qA,simprocAttr,l,g,A]
theorem qR {k r c:Int} {ps:List aO} (h:dE k r c ps=true):(ps.length:Int)=k+r∧∀ p∈ps,kD k r c p.1.length p.2.length=true:=by
 unfold dE at h;rw [aAq] at h;exact ⟨of_decide_eq_true h.1,fun p a=>aAu.1 h.2 p a⟩
def pG (k r c w:Int) (ps:List aO):Int:=if bG k r c w=true then (if dE k r c ps=true then 0 else 120) else 2
theorem aoB (k r c w:Int) (v:AV) (ps:List aO) (cells:List AV) (Q:dG v ps cells):aQ ayU 233 [aC k r c w,v] ⟨.tup [aB (if pG k r c w ps=0 then eE k r c else 0),aB (pG k r c w ps)],[]⟩:=by
 have Z:=Q.rd.plain;have I:=qB k r c w;have hs:=rS k r c w;unfold pG;cases T:bG k r c w with
 | false =>
  simp only [T,azA,if_false] at I;refine aV Tryz.func233 aD (h:=?_);unfold Tryz.f233;simp only [↓pre,zab,rQ,simprocAttr,aC]
  (first | refine aI (I) (by first | rfl | simp only [aC,aE, *]) ?_ | refine aH (I) (by first | rfl | simp only [aC,aE, *]) (by intro k;first | rfl | simp only [ *,zaa]) ?_);simp only [↓pre,zab,jP,simprocAttr]
 | true =>
  simp only [T,if_true] at I hs;have K:=fG T;by_cases S:(ps.length:Int)=k+r
  ·replace K:=aA.mk K;generalize s:(if dE k r c ps=true then (0:Int) else 120)=E;replace s:=aA.mk s;refine aV Tryz.func233 aD (h:=?_);unfold Tryz.f233;simp only [↓pre,zab,rQ,simprocAttr,aC]
   (first | refine aI (I) (by first | rfl | simp only [aC,aE, *]) ?_ | refine aH (I) (by first | rfl | simp only [aC,aE, *]) (by intro k;first | rfl | simp only [ *,zaa]) ?_);simp only [↓pre,zac,rQ,simprocAttr];(first | refine aI (hs) (by first | rfl | simp only [aC,aE, *]) ?_ | refine aH (hs) (by first | rfl | simp only [aC,aE, *]) (by intro k;first | rfl | simp only [ *,zaa]) ?_);simp only [↓pre,zae,rQ,simprocAttr,Q.rd.len',S]
   rw [bS];refine bU (fun q e m=>∃ i,q+i=ps.length∧e 4=aB (eE k r c)∧e 31=v∧e 32=aB (k+r)∧e 33=aB (i:Nat)∧aA (∀ j p,j < i→ps[j]? = some p→kD k r c p.1.length p.2.length=true)) ps.length ⟨0,by omega,rfl,rfl,by simp [bC.set,aB],rfl,⟨fun j p h=>by omega⟩⟩ ?_;rintro q e m ⟨i,R,D,l,f,g,Y⟩;replace R:=aA.mk R;by_cases P:i < ps.length
   ·have z:((i:Nat):Int) < k+r:=by omega
    have wi:=cB (n:=i) (by have:=K.out;omega);obtain ⟨p,y⟩:∃ p,ps[i]? = some p:=⟨_,azm P⟩
    obtain ⟨a,b,xa,xb,ha,M,C,B⟩:=Q.at_ i p y;obtain ⟨ht,W⟩:=qX ha M;have fa:=bW C;have fb:=bW B;have oa:=bR C;have ob:=bR B;replace y:=aA.mk y;simp only [↓pre,zae,rQ,bD,simprocAttr,aS,l,f,g,z,Q.rd.addr',P,ht,W,fa,fb];rw [bS];refine bU (fun L e m=>∃ H,L+H=2∧e 4=aB (eE k r c)∧e 31=v∧e 32=aB (k+r)∧e 33=aB (i:Nat)∧e 37 = .agg [a,b]∧e 38=aB (H:Nat)∧(1≤H→iY k r c p.1.length=true)∧(2≤H→iY k r c p.2.length=true)) 2 ⟨0,by omega,D,l,f,g,rfl,rfl,fun h=>by omega,fun h=>by omega⟩ ?_;rintro L e m ⟨H,d,D,l,f,g,t,o,F,N⟩;have G:∀ n:Nat,(n=p.1.length∨n=p.2.length)→iY k r c n=false→E=120:=fun n hn M=>by
     rw [←s.out];have:dE k r c ps=false:=by
      cases h:dE k r c ps with
      | false=>rfl
      | true =>
       have:=(qR h).2 p (az8 y.out);unfold kD at this;rw [aAq] at this;rcases hn with rfl | rfl
       ·rw [this.1] at M;cases M
       ·rw [this.2] at M;cases M
     rw [this];rfl
    have u:∀ n:Nat,iY k r c n=(decide ((n:Int)=0) || decide ((n:Int)=eE k r c)):=fun _=>rfl
    obtain rfl | rfl | rfl:H=0∨H=1∨H=2:=by omega
    ·replace d:=aA.mk d;clear F N;by_cases x:(p.1.length:Int)=0
     ·simp only [↓pre,zah,rQ,rB,simprocAttr,D,l,f,g,t,o,C.len',x];exact ⟨L - 1,by have:=d.out;omega,1,by have:=d.out;omega,rfl,fun _=>by rw [u,decide_eq_true x];rfl,fun h=>by omega⟩
     ·by_cases A:(p.1.length:Int)=eE k r c
      ·have X:¬ eE k r c=0:=fun h=>x (A.trans h)
       simp only [↓pre,zah,rQ,rB,simprocAttr,D,l,f,g,t,o,C.len',A,X];exact ⟨L - 1,by have:=d.out;omega,1,by have:=d.out;omega,rfl,fun _=>by rw [u,decide_eq_true A,Bool.or_true],fun h=>by omega⟩
      ·have O:=G _ (.inl rfl) (by rw [u,decide_eq_false x,decide_eq_false A];rfl);subst O;simp only [↓pre,zah,rQ,simprocAttr,D,t,o,C.len',x,A]
    ·replace d:=aA.mk d;replace F:=aA.mk (F (by omega));clear N;by_cases x:(p.2.length:Int)=0
     ·simp only [↓pre,zah,rQ,tD,simprocAttr,D,l,f,g,t,o,B.len',x];exact ⟨L - 1,by have:=d.out;omega,2,by have:=d.out;omega,rfl,fun _=>F.out,fun h=>by rw [u,decide_eq_true x];rfl⟩
     ·by_cases A:(p.2.length:Int)=eE k r c
      ·have X:¬ eE k r c=0:=fun h=>x (A.trans h)
       simp only [↓pre,zah,rQ,tD,simprocAttr,D,l,f,g,t,o,B.len',A,X];exact ⟨L - 1,by have:=d.out;omega,2,by have:=d.out;omega,rfl,fun _=>F.out,fun h=>by rw [u,decide_eq_true A,Bool.or_true]⟩
      ·have O:=G _ (.inr rfl) (by rw [u,decide_eq_false x,decide_eq_false A];rfl);subst O;simp only [↓pre,zah,rQ,simprocAttr,D,t,o,B.len',x,A]
    ·replace F:=aA.mk (F (by omega));replace N:=aA.mk (N (by omega));simp only [↓pre,zac,aB0,simprocAttr,D,l,f,g,o,wi];refine ⟨q - 1,by have:=R.out;omega,i+1,by have:=R.out;omega,rfl,⟨fun j p' U J => ?_⟩⟩;by_cases V:j=i
     ·subst V;rw [y.out] at J;cases J;unfold kD;rw [F.out,N.out];rfl
     ·exact Y.out j p' (by omega) J
   ·have z:¬ ((i:Nat):Int) < k+r:=by omega
    have O:E=0:=by
     rw [←s.out];have:dE k r c ps=true:=by
      unfold dE;rw [decide_eq_true S,Bool.true_and,aAu];intro p Z;obtain ⟨j,U⟩:=aBj Z;have:=(ay8.1 U).1;exact Y.out j p (by omega) U
     rw [this];rfl
    subst O;simp only [↓pre,zac,simprocAttr,D,f,g,z]
  ·have hr:dE k r c ps=false:=by unfold dE;rw [decide_eq_false S];rfl
   rw [hr];refine aV Tryz.func233 aD (h:=?_);unfold Tryz.f233;simp only [↓pre,zab,rQ,simprocAttr,aC]
   (first | refine aI (I) (by first | rfl | simp only [aC,aE, *]) ?_ | refine aH (I) (by first | rfl | simp only [aC,aE, *]) (by intro k;first | rfl | simp only [ *,zaa]) ?_);simp only [↓pre,zab,rQ,gH,simprocAttr];(first | refine aI (hs) (by first | rfl | simp only [aC,aE, *]) ?_ | refine aH (hs) (by first | rfl | simp only [aC,aE, *]) (by intro k;first | rfl | simp only [ *,zaa]) ?_);simp only [↓pre,zai,rQ,jP,gH,simprocAttr,Q.rd.len',S]
def wD (kd ver:Int):Int:=if (kd=1∨kd=2)∧eL ver=true then 0 else 2
theorem aoC (kd ver:Int):aQ ayU 234 [.val (.int .u8 kd),aB ver] ⟨aB (wD kd ver),[]⟩:=by
 unfold wD eL;by_cases c:kd=1
 ·by_cases a:ver < 1
  ·rw [if_neg (by simp;omega)];refine aV Tryz.func234 aD (h:=?_);unfold Tryz.f234;simp only [↓pre,zab,wT,vL,simprocAttr,c,a,eq_self]
  ·by_cases d:(1073741824:Int) < ver
   ·rw [if_neg (by simp;omega)];refine aV Tryz.func234 aD (h:=?_);unfold Tryz.f234;simp only [↓pre,zab,vL,simprocAttr,c,a,d,eq_self]
   ·rw [if_pos ⟨.inl c,by simp;omega⟩];refine aV Tryz.func234 aD (h:=?_);unfold Tryz.f234;simp only [↓pre,zab,vL,simprocAttr,c,a,d,eq_self]
 ·by_cases b:kd=2
  ·by_cases a:ver < 1
   ·rw [if_neg (by simp;omega)];refine aV Tryz.func234 aD (h:=?_);unfold Tryz.f234;simp only [↓pre,zab,wT,vL,simprocAttr,b,a,eq_self]
   ·by_cases d:(1073741824:Int) < ver
    ·rw [if_neg (by simp;omega)];refine aV Tryz.func234 aD (h:=?_);unfold Tryz.f234;simp only [↓pre,zab,wT,vL,simprocAttr,b,a,d,eq_self]
    ·rw [if_pos ⟨.inr b,by simp;omega⟩];refine aV Tryz.func234 aD (h:=?_);unfold Tryz.f234;simp only [↓pre,zab,wT,vL,simprocAttr,b,a,d,eq_self]
  ·rw [if_neg (by simp [c,b])];refine aV Tryz.func234 aD (h:=?_);unfold Tryz.f234;simp only [↓pre,zab,wT,simprocAttr,c,b,eq_self]
def afI (k r c w:Int) (ps:List aO) (kd ver:Int):Int:=if pG k r c w ps=0 then wD kd ver else pG k r c w ps
theorem avL (k r c w:Int) (v:AV) (ps:List aO) (cells:List AV) (d:dG v ps cells) (kd ver:Int):aQ ayU 231 [aC k r c w,v,.val (.int .u8 kd),aB ver] ⟨aB (afI k r c w ps kd ver),[]⟩:=by
 have e:=d.rd.plain;have a:=aoB k r c w v ps cells d;have b:=aoC kd ver;unfold afI;by_cases h:pG k r c w ps=0
 ·rw [h] at a;simp only [h,if_true] at a ⊢;refine aV Tryz.func231 aD (h:=?_);unfold Tryz.f231;simp only [↓pre,zab,amI,simprocAttr,aC]
  (first | refine aI (a) (by first | rfl | simp only [aE, *]) ?_ | refine aH (a) (by first | rfl | simp only [aC,aE, *]) (by intro k;first | rfl | simp only [ *,zaa]) ?_);simp only [↓pre,zab,simprocAttr,eq_self];(first | refine aI (b) (by first | rfl | simp only [aC,aE, *]) ?_ | refine aH (b) (by first | rfl | simp only [aC,aE, *]) (by intro k;first | rfl | simp only [ *,zaa]) ?_);simp only [↓pre,simprocAttr,sx,eq_self]
 ·rw [if_neg h];simp only [if_neg h] at a;refine aV Tryz.func231 aD (h:=?_);unfold Tryz.f231;simp only [↓pre,zab,amI,simprocAttr,aC]
  (first | refine aI (a) (by first | rfl | simp only [aE, *]) ?_ | refine aH (a) (by first | rfl | simp only [aC,aE, *]) (by intro k;first | rfl | simp only [ *,zaa]) ?_);simp only [↓pre,zab,simprocAttr,h]
def iT (k r c w:Int) (bs:List UInt8) (ix kd ver:Int):Bool:=dP k r c w bs && (decide ((dW k r c w bs).kd=kd) && (decide ((dW k r c w bs).ix=ix) && decide ((dW k r c w bs).st=ver)))
def rZ (k r c w:Int) (p:aO) (ix kd ver:Int):Option (List Int):=if iT k r c w p.1 ix kd ver=true then some (bN k r p.1).vec else if iT k r c w p.2 ix kd ver=true then some (bN k r p.2).vec else none
def nZ (k r c w:Int) (ps:List aO) (kd ver:Int):Nat→Option (List Int)
 | 0=>none
 | n+1=>(nZ k r c w ps kd ver n).or (rZ k r c w (ps.getD n ([],[])) (n:Nat) kd ver)
def dZ (k r c w:Int) (ps:List aO) (kd ver:Int):Option (List Int):=nZ k r c w ps kd ver ps.length
theorem afJ {k r c w:Int} {ps:List aO} {kd ver:Int} {n:Nat} {l:List Int} (h:nZ k r c w ps kd ver n=some l):∀ m,n≤m→nZ k r c w ps kd ver m=some l
 | 0,hm=>by
  have:n=0:=by omega
  subst this;exact h
 | m+1,hm=>by
  by_cases e:n=m+1
  ·subst e;exact h
  ·unfold nZ;rw [afJ h m (by omega)];rfl
def jZ:Option (List Int)→AV
 | some l => .tree l.length l.length (bJ l) false
 | none=>aW
theorem aoD {k r c w:Int} {bs:List UInt8} (h:dP k r c w bs=true):(dW k r c w bs).vv=jZ (some (bN k r bs).vec):=by
 unfold dW;rw [if_pos h];rfl
theorem air {k r c w:Int} {bs:List UInt8} (h:dP k r c w bs=true):(dW k r c w bs).dv = .tree (bN k r bs).data.length (bN k r bs).data.length (aJ (bN k r bs).data) false:=by
 unfold dW;rw [if_pos h];rfl
theorem ais (k r c w kd ver:Int) (v:AV) (ps:List aO) (cells:List AV) (hv:dG v ps cells) (hm:bG k r c w=true) (hr:dE k r c ps=true):aQ ayU 163 [aC k r c w,v,.val (.int .u8 kd),aB ver] ⟨jZ (dZ k r c w ps kd ver),[]⟩:=by
 refine gA ?_;have hp:=hv.rd.plain;have a2:=fG hm;obtain ⟨hl,a3⟩:=qR hr;generalize J:dZ k r c w ps kd ver=T;replace J:=aA.mk J;replace a2:=aA.mk a2;replace a3:=aA.mk a3;have a8:ps.length≤16:=by have:=a2.out;omega
 replace hl:=aA.mk hl;refine bV Tryz.func163 aD (h:=?_);unfold Tryz.f163;simp only [↓pre,zai,lM,simprocAttr,aC,hv.rd.len'];rw [bS];refine bU (fun q e m=>∃ i,q+i=ps.length∧e 2 = .val (.int .u8 kd)∧e 3=aB ver∧e 4 = .tptr 0 [aB k,aB r,aB c,aB w]∧e 16=v∧e 17=aB (ps.length:Nat)∧e 18=aB (i:Nat)∧aA (nZ k r c w ps kd ver i=none)) ps.length ⟨0,by omega,rfl,rfl,rfl,rfl,rfl,rfl,⟨rfl⟩⟩ ?_;rintro q e m ⟨i,hq,K,L,x,s,o,j,hJ⟩;replace hq:=aA.mk hq;by_cases a4:i < ps.length
 ·have O:((i:Nat):Int) < ((ps.length:Nat):Int):=by omega
  have wi:=cB (n:=i) (by omega);obtain ⟨p,N⟩:∃ p,ps[i]? = some p:=⟨_,azm a4⟩
  obtain ⟨a,b,xa,xb,ha,hb,Y,V⟩:=hv.at_ i p N;have a0:=a3.out p (az8 N);unfold kD at a0;rw [aAq] at a0;have t:=afG k r c w a p.1 xa Y hm a0.1;have u:=afG k r c w b p.2 xb V hm a0.2;obtain ⟨ht,a5⟩:=qX ha hb;have fa:=bW Y;have fb:=bW V;have oa:=bR Y;have ob:=bR V;have a1:ps.getD i ([],[])=p:=by rw [azs,N];rfl
  have A:nZ k r c w ps kd ver (i+1)=rZ k r c w p (i:Nat) kd ver:=by
   show (nZ k r c w ps kd ver i).or _=_;rw [hJ.out,a1];rfl
  have B:∀ l,rZ k r c w p (i:Nat) kd ver=some l→T=some l:=fun l h=>by
   rw [←J.out];exact afJ (A.trans h) _ (by omega)
  have Q:dP k r c w p.1=true→(dW k r c w p.1).vv=jZ (some (bN k r p.1).vec):=aoD;have P:dP k r c w p.2=true→(dW k r c w p.2).vv=jZ (some (bN k r p.2).vec):=aoD;have a7:=uQ k r c w p.1;have a6:=uQ k r c w p.2;have R:rZ k r c w p (i:Nat) kd ver=if iT k r c w p.1 (i:Nat) kd ver=true then some (bN k r p.1).vec else if iT k r c w p.2 (i:Nat) kd ver=true then some (bN k r p.2).vec else none:=rfl
  generalize rZ k r c w p (i:Nat) kd ver=T1 at *
  have H:iT k r c w p.1 (i:Nat) kd ver=(dP k r c w p.1 && (decide ((dW k r c w p.1).kd=kd) && (decide ((dW k r c w p.1).ix=(i:Nat)) && decide ((dW k r c w p.1).st=ver)))):=rfl;have E:iT k r c w p.2 (i:Nat) kd ver=(dP k r c w p.2 && (decide ((dW k r c w p.2).kd=kd) && (decide ((dW k r c w p.2).ix=(i:Nat)) && decide ((dW k r c w p.2).st=ver)))):=rfl;generalize iT k r c w p.1 (i:Nat) kd ver=B0 at *
  generalize iT k r c w p.2 (i:Nat) kd ver=B1 at *
  generalize dW k r c w p.1=s0 at *
  generalize dW k r c w p.2=s1 at *
  generalize dP k r c w p.1=i0 at *
  generalize dP k r c w p.2=i1 at *
  generalize (bN k r p.1).vec=l0 at *
  generalize (bN k r p.2).vec=l1 at *
  obtain ⟨⟨n1,y1,g1⟩,⟨n2,y2,g2⟩⟩:=a7;obtain ⟨⟨n3,y3,g3⟩,⟨n4,y4,g4⟩⟩:=a6;have f1:=bW g1;have f2:=bW g2;have f3:=bW g3;have f4:=bW g4;have q1:=bR g1;have q2:=bR g2;have q3:=bR g3;have q4:=bR g4;have t1:=dB g1;have t2:=dB g2;have t3:=dB g3;have t4:=dB g4;have pa:=Y.plain;have pb:=V.plain;simp only [fH.cells] at t u;replace N:=aA.mk N;replace a1:=aA.mk a1;replace A:=aA.mk A;replace B:=aA.mk B;replace Q:=aA.mk Q;replace P:=aA.mk P;replace R:=aA.mk R;replace H:=aA.mk H;replace E:=aA.mk E;simp only [↓pre,zae,lM,bD,simprocAttr,aS,fa,fb,s,o,j,O,hv.rd.addr',a4,ht,a5];rw [bS];refine bU (fun q2 e m=>∃ kk,q2+kk=2∧e 2 = .val (.int .u8 kd)∧e 3=aB ver∧e 4 = .tptr 0 [aB k,aB r,aB c,aB w]∧e 9=aB (i:Nat)∧e 16=v∧e 17=aB (ps.length:Nat)∧e 18=aB (i:Nat)∧e 23 = .agg [a,b]∧e 24=aB (kk:Nat)∧(1≤kk→B0=false)∧(2≤kk→B1=false)) 2 ⟨0,by omega,K,L,x,rfl,s,o,j,rfl,rfl,fun h=>by omega,fun h=>by omega⟩ ?_;rintro W e m ⟨kk,C,K,L,x,U,s,o,j,f,d,c1,c2⟩;obtain rfl | rfl | rfl:kk=0∨kk=1∨kk=2:=by omega
  ·replace C:=aA.mk C;clear c1 c2;have g:B0=false→∃ y,y < W∧y+1=2∧(1≤1→B0=false)∧(2≤1→B1=false):=fun h=>⟨W - 1,by have:=C.out;omega,by have:=C.out;omega,fun _=>h,fun h=>by omega⟩
   replace g:=aA.mk g;cases i0 with
   | false =>
    simp only [↓pre,zah,lM,simprocAttr,x,f,d]
    (first | refine aI (t) (by first | rfl | simp only [aE, *]) ?_ | refine aH (t) (by first | rfl | simp only [aC,aE, *]) (by intro k;first | rfl | simp only [ *,zaa]) ?_);simp only [↓pre,zae,lM,aB0,rB,bD,simprocAttr,aS,f1,f2,t1,t2,K,L,x,U,s,o,j,f,d]
    obtain ⟨y,D,F,G,I⟩:=g.out (by rw [H.out];rfl);exact ⟨y,D,1,F,rfl,G,I⟩
   | true =>
    by_cases M:s0.kd=kd
    ·by_cases S:s0.ix=(i:Nat)
     ·by_cases Z:s0.st=ver
      ·have hT:=B.out l0 (by rw [R.out,H.out,decide_eq_true M,decide_eq_true S,decide_eq_true Z];rfl);have z:=Q.out rfl;have X:=fun m=>ada (k:=0) (m:=m) g1
       rw [z] at X;replace z:=aA.mk z;subst hT;replace X:=aA.mk X;simp only [↓pre,zah,lM,simprocAttr,x,f,d]
       (first | refine aI (t) (by first | rfl | simp only [aE, *]) ?_ | refine aH (t) (by first | rfl | simp only [aC,aE, *]) (by intro k;first | rfl | simp only [ *,zaa]) ?_);simp only [↓pre,zae,lM,bD,simprocAttr,aS,f1,f2,t1,t2,K,L,U,M,S,Z]
       rw [z.out];exact ⟨0,X.out _⟩
      ·simp only [↓pre,zah,lM,simprocAttr,x,f,d]
       (first | refine aI (t) (by first | rfl | simp only [aE, *]) ?_ | refine aH (t) (by first | rfl | simp only [aC,aE, *]) (by intro k;first | rfl | simp only [ *,zaa]) ?_);simp only [↓pre,zae,lM,aB0,rB,bD,simprocAttr,aS,f1,f2,t1,t2,K,L,x,U,s,o,j,f,d,M,S,Z]
       obtain ⟨y,D,F,G,I⟩:=g.out (by rw [H.out,decide_eq_false Z];simp);exact ⟨y,D,1,F,rfl,G,I⟩
     ·simp only [↓pre,zah,lM,simprocAttr,x,f,d]
      (first | refine aI (t) (by first | rfl | simp only [aE, *]) ?_ | refine aH (t) (by first | rfl | simp only [aC,aE, *]) (by intro k;first | rfl | simp only [ *,zaa]) ?_);simp only [↓pre,zae,lM,aB0,rB,bD,simprocAttr,aS,f1,f2,t1,t2,K,L,x,U,s,o,j,f,d,M,S]
      obtain ⟨y,D,F,G,I⟩:=g.out (by rw [H.out,decide_eq_false S];simp);exact ⟨y,D,1,F,rfl,G,I⟩
    ·simp only [↓pre,zah,lM,simprocAttr,x,f,d]
     (first | refine aI (t) (by first | rfl | simp only [aE, *]) ?_ | refine aH (t) (by first | rfl | simp only [aC,aE, *]) (by intro k;first | rfl | simp only [ *,zaa]) ?_);simp only [↓pre,zae,lM,aB0,rB,bD,simprocAttr,aS,f1,f2,t1,t2,K,L,x,U,s,o,j,f,d,M]
     obtain ⟨y,D,F,G,I⟩:=g.out (by rw [H.out,decide_eq_false M];simp);exact ⟨y,D,1,F,rfl,G,I⟩
  ·replace C:=aA.mk C;replace c1:=aA.mk (c1 (by omega));clear c2;have g:B1=false→∃ y,y < W∧y+2=2∧(1≤2→B0=false)∧(2≤2→B1=false):=fun h=>⟨W - 1,by have:=C.out;omega,by have:=C.out;omega,fun _=>c1.out,fun _=>h⟩
   replace g:=aA.mk g;cases i1 with
   | false =>
    simp only [↓pre,zah,lM,simprocAttr,x,f,d]
    (first | refine aI (u) (by first | rfl | simp only [aE, *]) ?_ | refine aH (u) (by first | rfl | simp only [aC,aE, *]) (by intro k;first | rfl | simp only [ *,zaa]) ?_);simp only [↓pre,zae,lM,aB0,tD,bD,simprocAttr,aS,f3,f4,t3,t4,K,L,x,U,s,o,j,f,d]
    obtain ⟨y,D,F,G,I⟩:=g.out (by rw [E.out];rfl);exact ⟨y,D,2,F,rfl,G,I⟩
   | true =>
    by_cases M:s1.kd=kd
    ·by_cases S:s1.ix=(i:Nat)
     ·by_cases Z:s1.st=ver
      ·have hT:=B.out l1 (by rw [R.out,c1.out,E.out,decide_eq_true M,decide_eq_true S,decide_eq_true Z];rfl);have z:=P.out rfl;have X:=fun m=>ada (k:=0) (m:=m) g3
       rw [z] at X;replace z:=aA.mk z;subst hT;replace X:=aA.mk X;simp only [↓pre,zah,lM,simprocAttr,x,f,d]
       (first | refine aI (u) (by first | rfl | simp only [aE, *]) ?_ | refine aH (u) (by first | rfl | simp only [aC,aE, *]) (by intro k;first | rfl | simp only [ *,zaa]) ?_);simp only [↓pre,zae,lM,bD,simprocAttr,aS,f3,f4,t3,t4,K,L,U,M,S,Z]
       rw [z.out];exact ⟨0,X.out _⟩
      ·simp only [↓pre,zah,lM,simprocAttr,x,f,d]
       (first | refine aI (u) (by first | rfl | simp only [aE, *]) ?_ | refine aH (u) (by first | rfl | simp only [aC,aE, *]) (by intro k;first | rfl | simp only [ *,zaa]) ?_);simp only [↓pre,zae,lM,aB0,tD,bD,simprocAttr,aS,f3,f4,t3,t4,K,L,x,U,s,o,j,f,d,M,S,Z]
       obtain ⟨y,D,F,G,I⟩:=g.out (by rw [E.out,decide_eq_false Z];simp);exact ⟨y,D,2,F,rfl,G,I⟩
     ·simp only [↓pre,zah,lM,simprocAttr,x,f,d]
      (first | refine aI (u) (by first | rfl | simp only [aE, *]) ?_ | refine aH (u) (by first | rfl | simp only [aC,aE, *]) (by intro k;first | rfl | simp only [ *,zaa]) ?_);simp only [↓pre,zae,lM,aB0,tD,bD,simprocAttr,aS,f3,f4,t3,t4,K,L,x,U,s,o,j,f,d,M,S]
      obtain ⟨y,D,F,G,I⟩:=g.out (by rw [E.out,decide_eq_false S];simp);exact ⟨y,D,2,F,rfl,G,I⟩
    ·simp only [↓pre,zah,lM,simprocAttr,x,f,d]
     (first | refine aI (u) (by first | rfl | simp only [aE, *]) ?_ | refine aH (u) (by first | rfl | simp only [aC,aE, *]) (by intro k;first | rfl | simp only [ *,zaa]) ?_);simp only [↓pre,zae,lM,aB0,tD,bD,simprocAttr,aS,f3,f4,t3,t4,K,L,x,U,s,o,j,f,d,M]
     obtain ⟨y,D,F,G,I⟩:=g.out (by rw [E.out,decide_eq_false M];simp);exact ⟨y,D,2,F,rfl,G,I⟩
  ·replace c1:=aA.mk (c1 (by omega));replace c2:=aA.mk (c2 (by omega));simp only [↓pre,zac,aB0,simprocAttr,K,L,x,s,o,j,d,wi];refine ⟨q - 1,by have:=hq.out;omega,i+1,by have:=hq.out;omega,rfl,⟨?_⟩⟩;rw [A.out,R.out,c1.out,c2.out];rfl
 ·have O:¬ ((i:Nat):Int) < ((ps.length:Nat):Int):=by omega
  have hi:i=ps.length:=by have:=hq.out;omega
  have hT:T=none:=by rw [←J.out];unfold dZ;rw [←hi];exact hJ.out
  subst hT;simp only [↓pre,zac,simprocAttr,o,j,O];exact ⟨0,by unfold jZ aW;rw [gU]⟩
structure wE (k r c w:Int) (s:jK):Prop where
 vec:iX k r c w s.vec=0
 st:s.st=jR s.vec
 ix0:0≤s.ix
 ix1:s.ix < s.vec.length
 kd:s.kd=1∨s.kd=2
 ce:s.vec[s.ix.toNat]? = some s.ce
 data:(s.data.length:Int)=c
theorem aav {k r c w:Int} {bs:List UInt8} (h:dP k r c w bs=true):wE k r c w (bN k r bs):=by
 unfold dP tA dS at h;simp only [aAq,decide_eq_true_eq,Bool.or_eq_true] at h;obtain ⟨l,j,i,d,g,a,e,f,b⟩:=h;exact ⟨d,g,a.1,a.2,e,f,b⟩
theorem xK {k r c w:Int} {l:List Int} (h:iX k r c w l=0):(l.length:Int)=k+r∧∀ v∈l,1≤v∧v≤1073741824:=by
 unfold iX at h;split at h
 ·split at h
  ·split at h
   ·omega
   ·rename_i g d b;refine ⟨d,fun v f => ?_⟩;have:¬ (l.any fun n => !eL n)=true:=b;rw [List.any_eq_true] at this;have a:eL v=true:=by
     cases e:eL v with
     | true=>rfl
     | false=>exact absurd ⟨v,f,by rw [e];rfl⟩ this
    unfold eL at a;exact of_decide_eq_true a
  ·omega
 ·omega
theorem afK {k r c w:Int} {p:aO} {ix kd ver:Int} {l:List Int} (h:rZ k r c w p ix kd ver=some l):iX k r c w l=0∧∃ bs,(bs=p.1∨bs=p.2)∧iT k r c w bs ix kd ver=true∧l=(bN k r bs).vec:=by
 unfold rZ at h;split at h
 ·rename_i a;cases h;have b:=a;unfold iT at a;rw [aAq] at a;exact ⟨(aav a.1).vec,_,.inl rfl,b,rfl⟩
 ·split at h
  ·rename_i a;cases h;have b:=a;unfold iT at a;rw [aAq] at a;exact ⟨(aav a.1).vec,_,.inr rfl,b,rfl⟩
  ·cases h
theorem adI {k r c w:Int} {ps:List aO} {kd ver:Int}:∀ (n:Nat) (l:List Int),nZ k r c w ps kd ver n=some l→∃ i,i < n∧rZ k r c w (ps.getD i ([],[])) (i:Nat) kd ver=some l
 | 0,l,h=>by cases h
 | n+1,l,h=>by
  unfold nZ at h;cases a:nZ k r c w ps kd ver n with
  | some d =>
   rw [a] at h;cases h;obtain ⟨i,hi,b⟩:=adI n _ a;exact ⟨i,by omega,b⟩
  | none =>
   rw [a] at h;exact ⟨n,by omega,h⟩
theorem aaw {k r c w:Int} {ps:List aO} {kd ver:Int} {l:List Int} (h:dZ k r c w ps kd ver=some l):(l.length:Int)=k+r∧∀ v∈l,1≤v∧v≤1073741824:=by
 obtain ⟨i,hi,a⟩:=adI _ _ h;exact xK (afK a).1
def nE (k r c w:Int) (p:aO) (ix kd ver:Int):Option fH:=if eX k r c w p.1 ix kd ver=true then some (dW k r c w p.1) else if eX k r c w p.2 ix kd ver=true then some (dW k r c w p.2) else none
theorem ait {k r c w:Int} {p:aO} {ix kd ver:Int} {s:fH} (h:nE k r c w p ix kd ver=some s):s.Rd∧∃ n,acu k r c w p ix kd ver = .tup [aB n,s.v,aZ true,aB 0]:=by
 unfold nE at h;unfold acu;split at h
 ·rename_i a;cases h;exact ⟨uQ _ _ _ _ _,0,by rw [if_pos a]⟩
 ·rename_i a;split at h
  ·rename_i b;cases h;exact ⟨uQ _ _ _ _ _,1,by rw [if_neg a,if_pos b]⟩
  ·cases h
theorem avM {k r c w:Int} {p:aO} {ix kd ver:Int} (h:nE k r c w p ix kd ver=none):acu k r c w p ix kd ver = .tup [aB 0,uP.v,aZ false,aB 0]:=by
 unfold nE at h;unfold acu;split at h
 ·cases h
 ·rename_i b;split at h
  ·cases h
  ·rename_i a;rw [if_neg b,if_neg a]
def pH:Nat→Bool:=fun d=>d != 13
theorem aoE (k r c w kd ver:Int) (v:AV) (ps:List aO) (cells:List AV) (hv:dG v ps cells) (hm:bG k r c w=true) (hr:dE k r c ps=true) (hk:kd=1∨kd=2) (m0:aF) (g:FuncId) (E:List AV) (nN:Nat→aF→Prop) (h0:nN 0 m0) (f:∀ i m m',nN i m→gX m m'→nN i m')
 (O:∀ (l:List Int) (i:Nat) (p:aO) (m:aF) (s:fH),dZ k r c w ps kd ver=some l→i < ps.length→ps[i]? = some p→nE k r c w p (i:Nat) kd (l.getD i 0)=some s→nN i m→dV ayU g (aB (i:Nat) :: .agg s.cells::E) m fun F m'=>F = .tup []∧nN (i+1) m')
 (M:∀ (l:List Int) (i:Nat) (p:aO) (m:aF),dZ k r c w ps kd ver=some l→i < ps.length→ps[i]? = some p→nE k r c w p (i:Nat) kd (l.getD i 0)=none→nN i m→nN (i+1) m) :
 dV ayU 161 [aC k r c w,v,.val (.int .u8 kd),aB ver,.clo g E] m0 fun F m'=>F = .tup []∧nN (if (dZ k r c w ps kd ver).isSome=true then ps.length else 0) m':=by
 have hp:=hv.rd.plain;have d:=ais k r c w kd ver v ps cells hv hm hr;have S:=fG hm;obtain ⟨hl,U⟩:=qR hr;replace O:=aA.mk O;replace M:=aA.mk M;replace f:=aA.mk f;replace S:=aA.mk S;replace U:=aA.mk U;replace hl:=aA.mk hl;cases T:dZ k r c w ps kd ver with
 | none =>
  rw [T] at d;unfold jZ aW at d;have Q:lenE ayU 41 (.val (.slice none 0 0))=some (.val (.int .i64 0)):=by kernel_rfl
  refine bV Tryz.func161 pH (h:=?_);unfold Tryz.f161;simp only [↓pre,zad,xB,pH,simprocAttr,aC,bne]
  (first | refine aI (d) (by first | rfl | simp only [aE, *]) ?_ | refine aH (d) (by first | rfl | simp only [aC,aE, *]) (by intro k;first | rfl | simp only [ *,zaa]) ?_);simp only [↓pre,za,pH,simprocAttr,bne,Q]
  rw [bS];refine bU (fun q e m=>e 21 = .val (.int .i64 0)∧e 22 = .val (.int .i64 0)∧aA (nN 0 m)) 0 ⟨rfl,rfl,⟨h0⟩⟩ ?_;rintro q e m ⟨y,u,Z⟩;have:¬ (0:Int) < 0:=by omega
  simp only [↓pre,zad,pH,simprocAttr,bne,y,u,this];exact Z.out
 | some l =>
  rw [T] at d;obtain ⟨Y,L⟩:=aaw T;have a3:l.length=ps.length:=by have:=hl.out;omega
  have B:aT (.tree l.length l.length (bJ l) false) l.length (bJ l++[]):=⟨.inr (.inr ⟨_,false,by rw [aBl],aza _⟩)⟩
  have a2:l.length≤16:=by have:=S.out;omega
  unfold jZ at d;replace L:=aA.mk L;replace Y:=aA.mk Y;replace T:=aA.mk T;refine bV Tryz.func161 pH (h:=?_);unfold Tryz.f161;simp only [↓pre,zad,xB,pH,simprocAttr,aC,bne]
  (first | refine aI (d) (by first | rfl | simp only [aE, *]) ?_ | refine aH (d) (by first | rfl | simp only [aC,aE, *]) (by intro k;first | rfl | simp only [ *,zaa]) ?_);simp only [↓pre,za,xB,pH,simprocAttr,bne,B.len']
  rw [bS];refine bU (fun q e m=>∃ i,q+i=l.length∧e 1=v∧e 2 = .val (.int .u8 kd)∧e 4 = .clo g E∧e 5 = .tptr 0 [aB k,aB r,aB c,aB w]∧e 20 = .tree l.length l.length (bJ l) false∧e 21=aB (l.length:Nat)∧e 22=aB (i:Nat)∧aA (nN i m)) l.length ⟨0,by omega,rfl,rfl,rfl,rfl,rfl,rfl,rfl,⟨h0⟩⟩ ?_;rintro q e m ⟨i,R,e1,e2,e4,e5,I,y,u,Z⟩;replace R:=aA.mk R;by_cases N:i < l.length
  ·have A:((i:Nat):Int) < ((l.length:Nat):Int):=by omega
   have wi:=cB (n:=i) (by omega);have D:i < ps.length:=by omega
   obtain ⟨z,W⟩:∃ z,l[i]? = some z:=⟨_,azm N⟩
   have K:=nU (x:=[]) W;rw [aBl] at K B;obtain ⟨p,C⟩:∃ p,ps[i]? = some p:=⟨_,azm D⟩
   obtain ⟨a,b,xa,xb,ha,hb,a0,X⟩:=hv.at_ i p C;obtain ⟨ht,V⟩:=qX ha hb;have H:=L.out z (az8 W);have G:l.getD i 0=z:=by rw [azs,W];rfl
   have t:=avJ k r c w (i:Nat) kd z a b p xa xb a0 X hm (U.out p (az8 C)) hk (by omega) (by have:=hl.out;omega) H.1 H.2;have pa:=a0.plain;have pb:=X.plain;have o:∀ (cs:List AV),gX m ((m.push ⟨uP.cells,127,.var,true⟩).put m.next (some ⟨cs,127,.var,true⟩)):=fun cs=>⟨rfl,by rw [fC,cQ];omega,fun j x hj hl=>by rw [cI,if_neg (by omega),cF,if_neg (by omega)];exact hj⟩
   replace W:=aA.mk W;replace C:=aA.mk C;replace H:=aA.mk H;replace G:=aA.mk G;replace o:=aA.mk o;cases J:nE k r c w p (i:Nat) kd z with
   | none =>
    rw [avM J] at t;replace J:=aA.mk J;simp only [fH.v,fH.cells,uP,aW,aB,aZ] at t;simp only [↓pre,za,xB,pH,simprocAttr,bne,e1,e2,e5,I,y,u,A,B.addr',N,K,hv.rd.addr',D,ht,V]
    (first | refine aI (t) (by first | rfl | simp only [aC,aE, *]) ?_ | refine aH (t) (by first | rfl | simp only [aE, *]) (by intro k;first | rfl | simp only [ *,zaa]) ?_);simp only [↓pre,zad,xB,pH,bD,simprocAttr,bne]
    refine cX (by kernel_rfl) ?_;simp only [↓pre,za,xB,pH,simprocAttr,bne,aS];refine cX (by kernel_rfl) ?_;simp only [↓pre,zad,pH,simprocAttr,bne,e1,e2,e4,e5,I,y,u,wi];exact ⟨q - 1,by have:=R.out;omega,i+1,by have:=R.out;omega,rfl,⟨M.out l i p _ T.out D C.out (by rw [G.out];exact J.out) (f.out i m _ Z.out (o.out _))⟩⟩
   | some s =>
    obtain ⟨a1,n0,P⟩:=ait J;rw [P] at t;obtain ⟨⟨n1,y1,g1⟩,⟨n2,y2,g2⟩⟩:=a1;have q1:=bR g1;have q2:=bR g2;have t1:=dB g1;have t2:=dB g2;replace J:=aA.mk J;replace P:=aA.mk P;simp only [fH.v,fH.cells,aB,aZ] at t;simp only [↓pre,za,xB,pH,simprocAttr,bne,e1,e2,e5,I,y,u,A,B.addr',N,K,hv.rd.addr',D,ht,V]
    (first | refine aI (t) (by first | rfl | simp only [aC,aE, *]) ?_ | refine aH (t) (by first | rfl | simp only [aE, *]) (by intro k;first | rfl | simp only [sq, *]) ?_);simp only [↓pre,zad,xB,pH,bD,simprocAttr,bne]
    refine cX (by kernel_rfl) ?_;simp only [↓pre,za,xB,pH,simprocAttr,bne,aS];refine cX (by kernel_rfl) ?_;simp only [↓pre,za,xB,pH,simprocAttr,bne,e4];refine jD (O.out l i p _ s T.out D C.out (by rw [G.out];exact J.out) (f.out i m _ Z.out (o.out _))) ?_;rintro F m' ⟨rfl,hI⟩;simp only [↓pre,zad,pH,simprocAttr,bne,e1,e2,e4,e5,I,y,u,wi];exact ⟨q - 1,by have:=R.out;omega,i+1,by have:=R.out;omega,rfl,⟨hI⟩⟩
  ·have A:¬ ((i:Nat):Int) < ((l.length:Nat):Int):=by omega
   have hi:i=ps.length:=by have:=R.out;omega
   simp only [↓pre,zad,pH,simprocAttr,bne,y,u,A];rw [←hi];exact Z.out
def kA (k r c w:Int) (p:aO) (ix kd ver:Int):List UInt8:=if eX k r c w p.1 ix kd ver=true then (bN k r p.1).data else if eX k r c w p.2 ix kd ver=true then (bN k r p.2).data else []
def eR (k r c w:Int) (ps:List aO) (kd ver:Int):List (List UInt8):=match dZ k r c w ps kd ver with
 | some l=>(aAp ps.length).map fun j=>kA k r c w (ps.getD j ([],[])) (j:Nat) kd (l.getD j 0)
 | none=>(aAp ps.length).map fun _=>[]
theorem adJ (k r c w:Int) (ps:List aO) (kd ver:Int):(eR k r c w ps kd ver).length=ps.length:=by
 unfold eR;split <;> simp
theorem adK {k r c w:Int} {bs:List UInt8} {ix kd ver:Int} (h:eX k r c w bs ix kd ver=true):dP k r c w bs=true:=by
 unfold eX jY at h;rw [aAq] at h;have:=h.1;unfold eF at this;rw [aAq] at this;exact this.1
theorem afL {k r c w:Int} {p:aO} {ix kd ver:Int} {s:fH} (h:nE k r c w p ix kd ver=some s):(((kA k r c w p ix kd ver).length:Nat):Int)=c∧s.dv = .tree (kA k r c w p ix kd ver).length (kA k r c w p ix kd ver).length (aJ (kA k r c w p ix kd ver)) false:=by
 unfold nE at h;unfold kA;split at h
 ·rename_i a;cases h;rw [if_pos a];exact ⟨(aav (adK a)).data,air (adK a)⟩
 ·rename_i a;split at h
  ·rename_i b;cases h;rw [if_neg a,if_pos b];exact ⟨(aav (adK b)).data,air (adK b)⟩
  ·cases h
theorem aiu {k r c w:Int} {p:aO} {ix kd ver:Int} (h:nE k r c w p ix kd ver=none):kA k r c w p ix kd ver=[]:=by
 unfold nE at h;unfold kA;split at h
 ·cases h
 ·rename_i b;split at h
  ·cases h
  ·rename_i a;rw [if_neg b,if_neg a]
theorem avN (k r c w:Int) (p:aO) (ix kd ver:Int):(kA k r c w p ix kd ver).length=0∨(((kA k r c w p ix kd ver).length:Nat):Int)=c:=by
 cases h:nE k r c w p ix kd ver with
 | none=>left;rw [aiu h];rfl
 | some s=>right;exact (afL h).1
theorem aoF (k r c w:Int) (C:Nat) (d:c=(C:Nat)) (ps:List aO) (kd ver:Int):aa9 (eR k r c w ps kd ver) C:=by
 intro b a;unfold eR at a;split at a
 ·obtain ⟨j,_,rfl⟩:=azp.1 a;rcases avN k r c w (ps.getD j ([],[])) (j:Nat) kd _ with h | h
  ·exact .inl h
  ·exact .inr (by omega)
 ·obtain ⟨j,_,rfl⟩:=azp.1 a;exact .inl rfl
def jA (b:List UInt8):AV:=if b.length=0 then aW else .tree b.length b.length (aJ b) false
theorem afM (b:List UInt8):aT (jA b) b.length (b.map bA++[]):=by
 unfold jA;split
 ·rename_i h;rw [h];exact ⟨.inl ⟨rfl,rfl⟩⟩
 ·exact ⟨.inr (.inr ⟨_,false,by rw [aBl];rfl,aza _⟩)⟩
def fB (T:List (List UInt8)) (n:Nat):List AV:=(aAp T.length).map fun j=>if j < n then jA (T.getD j []) else aW
theorem adL (T:List (List UInt8)) (n:Nat):(fB T n).length=T.length:=by simp [fB]
theorem adM {T:List (List UInt8)} {n j:Nat} (h:j < T.length):(fB T n)[j]? = some (if j < n then jA (T.getD j []) else aW):=by
 unfold fB;rw [azo,aBS h];rfl
theorem aiv {T:List (List UInt8)} {n a:Nat} (h:∀ j,j < T.length→(if j < n then jA (T.getD j []) else aW)=(if j < a then jA (T.getD j []) else aW)):fB T n=fB T a:=by
 unfold fB;apply aAw;intro j b;exact h j (List.mem_range.1 b)
theorem aoG {T:List (List UInt8)} {i:Nat} (hi:i < T.length):cH (fB T i) i [jA (T.getD i [])]=fB T (i+1):=by
 have c:=adL T i;unfold cH;apply List.ext_getElem?;intro j;by_cases a:j < T.length
 ·rw [adM a,azW];have b:((fB T i).take i).length=i:=by rw [aBT,c];omega
  by_cases d:j < i
  ·rw [List.getElem?_append_left (by omega),aBU d,adM a,if_pos d,if_pos (by omega)]
  ·rw [azh (by omega),b];by_cases e:j=i
   ·subst e;rw [Nat.sub_self,if_pos (by omega)];rfl
   ·rw [azh (by simp;omega),List.getElem?_drop];simp only [zak];rw [show i+(0+1)+(j - i - (0+1))=j by omega,adM a,if_neg (by omega),if_neg (by omega)]
 ·rw [ay6 (by simp [c];omega),ay6 (by rw [adL];omega)]
theorem aoH (T:List (List UInt8)) (v:AV) (c:aT v T.length (fB T T.length)):aap v T (fB T T.length):=⟨c,fun i b a=>by
 have hi:=(ay8.1 a).1;refine ⟨_,[],adM hi, ?_⟩;rw [if_pos hi,tC a];exact afM b⟩
theorem avO (T:List (List UInt8)) (n:Nat):cP (fB T n)=true:=aau _ fun c a=>by
 unfold fB at a;obtain ⟨j,_,rfl⟩:=azp.1 a;split
 ·exact (afM _).plain
 ·rfl
theorem avP (m:aF) (i N a:Nat) (s:fH) (hs:s.Rd) (cs:List AV) (hi:i < N) (w:cs.length=N) (k:a < 1000) (b:m.at_ 0=some ⟨cs,52,.var,true⟩) (c:m.at_ 1=some ⟨[.sl 0 0 N N true],45,.var,true⟩) (d:m.at_ 2=some ⟨[aB (a:Nat)],3,.var,true⟩):dV ayU 235 [aB (i:Nat),.agg s.cells,.ptr 1 0,.ptr 2 0] m fun g m'=>g = .tup []∧m'=(m.put 0 (some ⟨cH cs i [s.dv],52,.var,true⟩)).put 2 (some ⟨[aB (a+1:Nat)],3,.var,true⟩):=by
 obtain ⟨⟨v,q,o⟩,⟨p,r,j⟩⟩:=hs;have e:=bW o;have l:=bW j;have u:=bR o;have t:=bR j;have w1:=cB (n:=a) (by omega);have f:i+1≤cs.length:=by omega
 obtain ⟨kd,ix,ce,st,vv,dv⟩:=s;simp only [fH.cells] at *
 rcases j.form with ⟨rfl,_⟩ | ⟨_,_,rfl,_⟩ | ⟨_,_,rfl,_⟩
 ·refine bV Tryz.func235 aD (h:=?_);unfold Tryz.f235;simp only [↓pre,zae,ahu,bH,aBm,simprocAttr,aS,aBW,e,b,c,d,hi,f,w1,aW]
 ·refine bV Tryz.func235 aD (h:=?_);unfold Tryz.f235;simp only [↓pre,zae,ahu,bH,aBm,simprocAttr,aS,aBW,e,l,b,c,d,hi,f,w1]
 ·refine bV Tryz.func235 aD (h:=?_);unfold Tryz.f235;simp only [↓pre,zae,ahu,bH,aBm,simprocAttr,aS,aBW,e,l,b,c,d,hi,f,w1]
theorem acv {k r c w:Int} {ps:List aO} {kd ver:Int} {l:List Int} (b:dZ k r c w ps kd ver=some l) {i:Nat} {p:aO} (a:ps[i]? = some p):(eR k r c w ps kd ver).getD i []=kA k r c w p (i:Nat) kd (l.getD i 0):=by
 have hi:=(ay8.1 a).1;unfold eR;rw [b];simp only;rw [azs,azo,aBS hi,az6,aAE,azs (l:=ps),a];rfl
theorem aiw {k r c w:Int} {ps:List aO} {kd ver:Int} (a:dZ k r c w ps kd ver=none) (n:Nat):bP (eR k r c w ps kd ver) n=[]:=by
 unfold bP;rw [List.filter_eq_nil_iff];intro i hi;unfold eR;rw [a];simp only;rw [azs,azo];cases (aAp ps.length)[i]? <;> simp
def iZ (k r c w:Int) (ps:List aO) (kd ver:Int):Mx:=aco k.toNat ((bP (eR k r c w ps kd ver) (k+r).toNat).take k.toNat) (gI (eR k r c w ps kd ver))
def jF (k r c w:Int) (ps:List aO) (kd ver:Int):Nat:=(bP (eR k r c w ps kd ver) (k+r).toNat).length
def wF (k r c w:Int) (ps:List aO) (kd ver:Int):AV:=if jF k r c w ps kd ver < k.toNat then .tup [aW,aB 5] else .tup [bE (k+r).toNat (dJ c.toNat (iZ k r c w ps kd ver) 0 (k+r).toNat),aB 0]
def acw:Nat→Bool:=fun d=>d != 10 && d != 11
theorem aoI (k r c w kd ver:Int) (v:AV) (ps:List aO) (cells:List AV) (hv:dG v ps cells) (hm:bG k r c w=true) (hr:dE k r c ps=true) (hk:kd=1∨kd=2):aQ ayU 160 [aC k r c w,v,.val (.int .u8 kd),aB ver] ⟨wF k r c w ps kd ver,[]⟩:=by
 refine gA ?_;have hp:=hv.rd.plain;have U:=fG hm;have F:=kW.1 hm;obtain ⟨hl,a6⟩:=qR hr;obtain ⟨K,hK⟩:∃ K:Nat,k=(K:Int):=⟨k.toNat,by omega⟩
 obtain ⟨R,hR⟩:∃ R:Nat,r=(R:Int):=⟨r.toNat,by omega⟩
 obtain ⟨C,hC⟩:∃ C:Nat,c=(C:Int):=⟨c.toNat,by omega⟩
 have a8:(k+r).toNat=K+R:=by omega
 have b3:k.toNat=K:=by omega
 have a7:c.toNat=C:=by omega
 have N:ps.length=K+R:=by omega
 have c0:=adJ k r c w ps kd ver;have W:=aoF k r c w C hC ps kd ver;have A:∀ (l:List Int) (i:Nat) (p:aO) (s:fH),dZ k r c w ps kd ver=some l→ps[i]? = some p→nE k r c w p (i:Nat) kd (l.getD i 0)=some s→s.dv=jA ((eR k r c w ps kd ver).getD i [])∧((eR k r c w ps kd ver).getD i []).length≠0:=fun l i p s y o I=>by
  obtain ⟨g1,g2⟩:=afL I;rw [acv y o];refine ⟨?_,by omega⟩;unfold jA;rw [if_neg (by omega)];exact g2
 have D:∀ (l:List Int) (i:Nat) (p:aO),dZ k r c w ps kd ver=some l→ps[i]? = some p→nE k r c w p (i:Nat) kd (l.getD i 0)=none→((eR k r c w ps kd ver).getD i []).length=0:=fun l i p y o I=>by
  rw [acv y o,aiu I];rfl
 have b:=fun h n=>aiw (k:=k) (r:=r) (c:=c) (w:=w) (ps:=ps) (kd:=kd) (ver:=ver) h n
 have t:=fun m0 g a4 nN h0 P b0 b8=>aoE k r c w kd ver v ps cells hv hm hr hk m0 g a4 nN h0 P b0 b8
 unfold wF jF iZ;rw [a8,b3,a7];generalize b9:eR k r c w ps kd ver=T at *
 have hn:T.length=K+R:=by omega
 have b1:=fun m=>ail m (n:=K+R) (by omega)
 generalize a:(if (bP T (K+R)).length < K then AV.tup [aW,aB 5] else .tup [bE (K+R) (dJ C (aco K ((bP T (K+R)).take K) (gI T)) 0 (K+R)),aB 0])=Q;have f:∀ m,fzT 1 m Q=some Q:=fun m=>by
  rw [←a];split
  ·exact pE (dK _) (dK _) 1 m
  ·exact pE (xI (eQ _ _)) (dK _) 1 m
 have E:K≤(bP T (K+R)).length→∀ L,aT L T.length (fB T T.length)→aQ ayU 236 [aB (K:Nat),aB (R:Nat),L] ⟨Q,[]⟩:=fun h L J=>by
  have:=avG L K R C T _ (aoH T L J) hn W (by omega) (by omega) (by omega) (by omega) (by omega) h;rw [←a,if_neg (by omega)];exact this
 replace A:=aA.mk A;replace D:=aA.mk D;replace W:=aA.mk W;replace a6:=aA.mk a6;replace t:=aA.mk t;replace F:=aA.mk F;replace U:=aA.mk U;replace f:=aA.mk f;replace E:=aA.mk E;replace b:=aA.mk b;refine bV Tryz.func160 acw (h:=?_);unfold Tryz.f160;simp only [↓pre,zaf,aeW,acw,bD,simprocAttr,aC,bne,aS,aBW,List.size_toArray,hv.rd.len',N,b1];generalize z:aF.put (aF.push _ _) _ _=m3;have a0:m3.at_ 0=some ⟨fB T 0,52,.var,true⟩:=by
  rw [←z];have:fB T 0=(aAp (K+R)).map fun _=>aW:=by unfold fB;rw [hn];apply aAw;intro j _;rw [if_neg (by omega)]
  rw [this];simp [cI,cF,fC,cQ,aX]
 have a1:m3.at_ 1=some ⟨[.sl 0 0 (K+R) (K+R) true],45,.var,true⟩:=by rw [←z];simp [cI,cF,fC,cQ,aX]
 have Z:m3.at_ 2=some ⟨[aB (0:Nat)],3,.var,true⟩:=by rw [←z];simp [cI];rfl
 have X:2 < m3.next:=by rw [←z];simp [fC,cQ,aX]
 refine jD (t.out m3 235 [.ptr 1 0,.ptr 2 0] (fun i m=>m.at_ 0=some ⟨fB T i,52,.var,true⟩∧m.at_ 1=some ⟨[.sl 0 0 (K+R) (K+R) true],45,.var,true⟩∧m.at_ 2=some ⟨[aB ((bP T i).length:Nat)],3,.var,true⟩∧2 < m.next) ⟨a0,a1,Z,X⟩ ?_ ?_ ?_) ?_
 ·rintro i m m' ⟨y,o,I,V⟩ H;exact ⟨H.at_ 0 _ y (by omega),H.at_ 1 _ o (by omega),H.at_ 2 _ I (by omega),Nat.lt_of_lt_of_le V H.next⟩
 ·rintro l i p m s B hi S hF ⟨y,o,I,V⟩;obtain ⟨b7,_⟩:=ait hF;obtain ⟨b4,b2⟩:=A.out l i p s B S hF;have c1:=afB T i;have b5:i < T.length:=by omega
  refine mW (avP m i (K+R) _ s b7 _ (by omega) (by rw [adL];omega) (by have:=U.out;omega) y o I) ?_;rintro a9 m' ⟨rfl,rfl⟩;refine ⟨rfl, ?_, ?_, ?_, ?_⟩
  ·rw [cI,if_neg (by decide),cI,if_pos rfl,b4,aoG b5]
  ·rw [cI,if_neg (by decide),cI,if_neg (by decide)];exact o
  ·rw [cI,if_pos rfl,yT,if_pos b2,aA2];rfl
  ·exact V
 ·rintro l i p m B hi S hF ⟨y,o,I,V⟩;have hd:=D.out l i p B S hF;refine ⟨?_,o, ?_,V⟩
  ·rw [y];congr 2;refine aiv fun j hj => ?_
   by_cases e:j=i
   ·subst e;rw [if_neg (by omega),if_pos (by omega)];unfold jA;rw [if_pos hd]
   ·by_cases e2:j < i
    ·rw [if_pos e2,if_pos (by omega)]
    ·rw [if_neg e2,if_neg (by omega)]
  ·rw [yT,if_neg (by omega),aBl];exact I
 rintro a9 m4 ⟨rfl,u⟩;clear z a0 a1 Z X;by_cases q:(dZ k r c w ps kd ver).isSome=true
 ·rw [if_pos q,N] at u;obtain ⟨h0,y,o,V⟩:=u;by_cases G:(bP T (K+R)).length < K
  ·have d:(((bP T (K+R)).length:Nat):Int) < k:=by omega
   rw [if_pos G] at a;subst a;have x:=f.out;unfold aW aB at x;replace x:=aA.mk x;simp only [↓pre,zad,aeW,acw,aBm,simprocAttr,bne,aBW,o,d];exact ⟨1,x.out _⟩
  ·have d:¬ (((bP T (K+R)).length:Nat):Int) < k:=by omega
   have a2:T.length=K+R:=by omega
   have Y:lW m4 (.sl 0 0 (K+R) (K+R) true) (K+R) (fB T (K+R)):=⟨.inr ⟨0,0,K+R,true,_,rfl,h0,.inr ⟨rfl,avO _ _⟩,rfl,aza _⟩⟩
   obtain ⟨L,m5,a5,J,_⟩:=Y.fz;rw [←a2] at J;have a3:=E.out (by omega) L J;rw [if_neg G] at a;subst a;have M:fzs m4 [aB k,aB r,.sl 0 0 (K+R) (K+R) true]=some ([aB (K:Nat),aB (R:Nat),L],m5):=by rw [hK,hR];simp [fzs,fz,aB] at a5 ⊢;simp [a5]
   have x:=f.out;simp only [aB] at a3 M x;replace x:=aA.mk x;simp only [↓pre,zad,aeW,acw,aBm,simprocAttr,bne,aBW,y,o,d];refine abP a3 M ?_;simp only [↓pre,zad,acw,qS,simprocAttr,bne,aBW];exact ⟨1,x.out _⟩
 ·rw [if_neg q] at u;obtain ⟨h0,y,o,V⟩:=u;have O:dZ k r c w ps kd ver=none:=by simpa using q
  have G:(bP T (K+R)).length < K:=by have:=F.out;rw [b.out O];simp;omega
  have d:(0:Int) < k:=by have:=F.out;omega
  rw [if_pos G] at a;subst a;have x:=f.out;unfold aW aB at x;replace x:=aA.mk x;have b6:m4.at_ 2=some ⟨[.val (.int .i64 0)],3,.var,true⟩:=o;simp only [↓pre,zad,aeW,acw,aBm,simprocAttr,bne,aBW,b6,d];exact ⟨1,x.out _⟩
end Go.Proofs.YtaekhhlgnbhnpaaGreat
set_option linter.unusedVariables false
set_option linter.unusedSimpArgs false
set_option maxRecDepth 10000
namespace Go.Tw
open Go
structure aix (m:aF) (el:TypeId) (sz:Nat) (v:AV) (n:Nat) (cells:List AV):Prop where
 form:Own m el sz v n cells∨∃ b c,v = .sl b 0 0 c true∧m.at_ b=some ⟨[],el,.flat,true⟩∧b < m.next∧n=0∧cells=[]∧0 < c
theorem aoJ {P:Program} {el:TypeId} {m:aF} {v x:AV} {K:bL→Prop} {sz y n a:Nat} {zl:List Value} {cells new:List AV} (d:bK P el = .flat) (o:aix m el sz v n cells) (h:bX P el=some sz) (l:jN P el=some y) (p:gF P el=some zl) (q:zl.length=sz) (k:eM P el sz m x=some (new,a)) (j:new.length=a*sz) (e:(n+a)*y≤140737488355328) (f:n+a≤140737488355328) (w:0 < a)
 (i:∀ v' m',Own m' el sz v' (n+a) (cells++new)→m.next≤m'.next→K ⟨v',m',none⟩):eO (fR P el m v x) K:=by
 rcases o.form with o | ⟨b,c,rfl,t,u,rfl,rfl,g⟩
 ·exact nP d o h l p q k j e f i
 ·by_cases s:c < 0+a
  ·have:fR P el m (.sl b 0 0 c true) x=some ⟨.sl m.next 0 a a false,m.push ⟨new,el,.flat,true⟩,none⟩:=by
    simp only [fR,h,l,p,k,dR,t,d,aAk];simp at e f s;simp [xT,s,bI,q,e,f,aA0 g]
   rw [this];refine i _ _ ⟨.inr ⟨m.next,by rw [azq],by rw [cF,if_pos rfl];rfl,by rw [cQ];omega,by omega⟩,by simpa using j⟩ (by rw [cQ];omega)
  ·have:fR P el m (.sl b 0 0 c true) x=some ⟨.sl m.next 0 a a false,(m.put b none).push ⟨new,el,.flat,true⟩,none⟩:=by
    simp only [fR,h,l,p,k,dR,t,d,aAk];simp at e f s;have r:¬ c < a:=by omega
    simp [xT,r,bI,q,e,f,aA0 g]
   rw [this];refine i _ _ ⟨.inr ⟨m.next,by rw [azq],by rw [cF,if_pos (by rw [fC])];rfl,by rw [cQ,fC];omega,by omega⟩,by simpa using j⟩ (by rw [cQ,fC];omega)
end Go.Tw
namespace Go.Proofs.YtaekhhlgnbhnpaaGreat
open Go Go.Tw Go.Proofs Go.Gf
theorem avQ {kd ver:Int} (b:kd=1∨kd=2) (a:eL ver=true):wD kd ver=0:=by unfold wD;rw [if_pos ⟨b,a⟩]
theorem avR {k r c w:Int} {ps:List aO} (b:bG k r c w=true) (a:dE k r c ps=true):pG k r c w ps=0:=by unfold pG;rw [b,a];rfl
theorem avS {k r c w:Int} {ps:List aO} {kd ver:Int} (a:bG k r c w=true) (b:dE k r c ps=true) (e:kd=1∨kd=2) (d:eL ver=true):afI k r c w ps kd ver=0:=by
 unfold afI;rw [avR a b,if_pos rfl,avQ e d]
theorem avT (k r c w:Int) (ps:List aO) (kd ver:Int):∃ a e,wF k r c w ps kd ver = .tup [a,aB e]∧(∀ n,shift n a=a)∧kL a:=by
 unfold wF;split
 ·exact ⟨_,_,rfl,fun n=>rfl,dK _⟩
 ·exact ⟨_,_,rfl,fun n=>aha,xI (eQ _ _)⟩
theorem avU (k r c w kd ver:Int) (v:AV) (ps:List aO) (cells:List AV) (g:dG v ps cells) (n:bG k r c w=true) (o:dE k r c ps=true) (p:kd=1∨kd=2) (b:eL ver=true):aQ ayU 165 [aC k r c w,v,.val (.int .u8 kd),aB ver] ⟨wF k r c w ps kd ver,[]⟩:=by
 refine gA ?_;have s:=g.rd.plain;have j:=avL k r c w v ps cells g kd ver;rw [avS n o p b] at j;have i:=aoI k r c w kd ver v ps cells g n o p;obtain ⟨a,e,q,l,d⟩:=avT k r c w ps kd ver;rw [q] at i ⊢;have f:=fun m=>pE d (dK (.int .i64 e)) 1 m
 replace f:=aA.mk f;refine bV Tryz.func165 aD (h:=?_);unfold Tryz.f165;simp only [↓pre,zab,amA,simprocAttr,aC]
 (first | refine aI (j) (by first | rfl | simp only [aE, *]) ?_ | refine aH (j) (by first | rfl | simp only [aC,aE, *]) (by intro k;first | rfl | simp only [ *,zaa]) ?_);simp only [↓pre,zab,amA,simprocAttr,eq_self];(first | refine aI (i) (by first | rfl | simp only [aE, *]) ?_ | refine aH (i) (by first | rfl | simp only [aC,aE, *]) (by intro k;first | rfl | simp only [ *,zaa]) ?_);simp only [↓pre,zab,simprocAttr,eq_self,l]
 exact ⟨1,f.out _⟩
def wG (k r c w:Int) (ps:List aO) (kd ver:Int) (n:Nat):List UInt8:=(aAp n).flatMap fun i=>tab c.toNat (iZ k r c w ps kd ver i)
theorem aiy (k r c w:Int) (ps:List aO) (kd ver:Int) (n:Nat):wG k r c w ps kd ver (n+1)=wG k r c w ps kd ver n++tab c.toNat (iZ k r c w ps kd ver n):=by
 unfold wG;rw [List.range_succ,List.flatMap_append];simp
theorem afN (k r c w:Int) (ps:List aO) (kd ver:Int):∀ n,(wG k r c w ps kd ver n).length=n*c.toNat
 | 0=>by simp [wG]
 | n+1=>by rw [aiy,aA2,afN k r c w ps kd ver n,pA,az0,aB1]
def acx (k r c w:Int) (ps:List aO) (kd ver:Int):AV:=if jF k r c w ps kd ver < k.toNat then .tup [aW,aB 5] else .tup [bE (k.toNat*c.toNat) (aJ (wG k r c w ps kd ver k.toNat)),aB 0]
theorem avV (k r c w kd ver:Int) (v:AV) (ps:List aO) (cells:List AV) (hv:dG v ps cells) (P:bG k r c w=true) (hr:dE k r c ps=true) (hk:kd=1∨kd=2) (E:eL ver=true):aQ ayU 91 [aC k r c w,v,.val (.int .u8 kd),aB ver] ⟨acx k r c w ps kd ver,[]⟩:=by
 refine gA ?_;have hp:=hv.rd.plain;have f:=avU k r c w kd ver v ps cells hv P hr hk E;have d:=kW.1 P;have X:=kJ P;unfold acx;unfold wF at f;by_cases o:jF k r c w ps kd ver < k.toNat
 ·rw [if_pos o] at f ⊢;have U:=fun m=>pE (dK (.slice none 0 0)) (dK (.int .i64 5)) 1 m
  replace U:=aA.mk U;simp only [aW] at f;refine bV Tryz.func91 aD (h:=?_);unfold Tryz.f91;simp only [↓pre,zab,aeS,simprocAttr,aC,aW]
  (first | refine aI (f) (by first | rfl | simp only [aE, *]) ?_ | refine aH (f) (by first | rfl | simp only [aC,aE, *]) (by intro k;first | rfl | simp only [ *,zaa]) ?_);simp only [↓pre,zac,simprocAttr]
  exact ⟨1,U.out _⟩
 ·rw [if_neg o] at f ⊢;obtain ⟨K,Y⟩:∃ K:Nat,k=(K:Int):=⟨k.toNat,by omega⟩
  obtain ⟨C,hC⟩:∃ C:Nat,c=(C:Int):=⟨c.toNat,by omega⟩
  have V:k.toNat=K:=by omega
  have p:c.toNat=C:=by omega
  have a3:K≤(k+r).toNat:=by omega
  rw [V,p];rw [p] at f;have a7:=eQ (k+r).toNat (dJ C (iZ k r c w ps kd ver) 0 (k+r).toNat);have j:=aiy k r c w ps kd ver;have l:=afN k r c w ps kd ver;rw [p] at j l;have g:=fun i (h:i < (k+r).toNat)=>aat (L:=C) (F:=iZ k r c w ps kd ver) (a:=0) h
  have s:k*c=((K*C:Nat):Int):=by rw [Y,hC];simp
  have a0:K*C≤768:=by omega
  have a1:32≤K*C:=by omega
  have S:azy.wrap (k*c)=((K*C:Nat):Int):=by rw [s];exact dO (by omega)
  have Q:∀ m,nK ayU m 52 0 (K*C)=some ⟨.sl m.next 0 0 (K*C) true,m.push ⟨[],5,.flat,true⟩,none⟩:=fun m=>by
   have f:bO ayU 52=some 5:=by kernel_rfl
   have Z:bX ayU 5=some 1:=by kernel_rfl
   have h3:jN ayU 5=some 1:=by kernel_rfl
   have h4:bK ayU 5 = .flat:=by kernel_rfl
   have hz:=acs Z (x := .int .u8 0) (by kernel_rfl) (K*C);simp only [nK,f,Z,h3,h4,hz,bI,aAk,azG];rw [if_pos (by omega)];rfl
  generalize iZ k r c w ps kd ver=W at *
  generalize wG k r c w ps kd ver=D at *
  have T:D 0=[]:=az1 (by rw [l];omega);replace j:=aA.mk j;replace l:=aA.mk l;replace g:=aA.mk g;replace o:=aA.mk o;replace s:=aA.mk s;replace d:=aA.mk d;replace X:=aA.mk X;refine bV Tryz.func91 aD (h:=?_);unfold Tryz.f91;simp only [↓pre,zab,aeS,simprocAttr,aC]
  (first | refine aI (f) (by first | rfl | simp only [aE, *]) ?_ | refine aH (f) (by first | rfl | simp only [aC,aE, *]) (by intro k;first | rfl | simp only [ *,zaa]) ?_);simp only [↓pre,zae,aeS,qS,simprocAttr,S,Q]
  rw [bS];refine bU (fun q e m=>∃ i O,q+i=K∧e 10=bE (k+r).toNat (dJ C W 0 (k+r).toNat)∧e 12=O∧e 32=aB (K:Nat)∧e 33=aB (i:Nat)∧aA (aix m 5 1 O (i*C) (aJ (D i))∧(i=0∨Own m 5 1 O (i*C) (aJ (D i)))) ) K ⟨0,_,by omega,rfl,rfl,by simp [bC.set,aB,Y],rfl,⟨⟨.inr ⟨_,K*C,rfl,by rw [cF,if_pos rfl],by rw [cQ];omega,by omega,by rw [T];rfl,by omega⟩⟩,.inl rfl⟩⟩ ?_;rintro q e m ⟨i,O,H,M,z,t,u,hJ⟩;replace H:=aA.mk H;by_cases a2:i < K
  ·have b:((i:Nat):Int) < ((K:Nat):Int):=by omega
   have wi:=cB (n:=i) (by have:=d.out;omega);have I:i < (k+r).toNat:=by omega
   have B:=g.out i I;rw [azq] at B;have a5:i*C+C≤768:=by
    have:(i+1)*C≤K*C:=Nat.mul_le_mul_right _ (by omega);rw [az0,aB1] at this;omega
   have a4:8≤C:=by have:=d.out;omega
   have G:∀ m:aF,eM ayU 5 1 m (.tree C C (aR C (W i)) true)=some (aR C (W i),C):=fun m=>by
    rw [abQ (by rw [fW];omega),azG,aBa (by rw [fW];omega)]
   simp only [↓pre,zae,aeS,qS,simprocAttr,M,z,t,u,b,I,B];refine aoJ (sz:=1) (y:=1) (zl:=[.int .u8 0]) (by kernel_rfl) hJ.out.1 (by kernel_rfl) (by kernel_rfl) (by kernel_rfl) rfl (G m) (by rw [fW];omega) (by omega) (by omega) (by omega) ?_;intro R m' J a6;simp only [↓pre,zab,simprocAttr,M,t,u,wi];have hb:aJ (D (i+1))=aJ (D i)++aR C (W i):=by rw [j.out];unfold aJ aR;rw [aBs]
   have A:(i+1)*C=i*C+C:=by rw [az0,aB1]
   refine ⟨q - 1,by have:=H.out;omega,i+1,R,by have:=H.out;omega,rfl,rfl,⟨⟨.inl ?_⟩,.inr ?_⟩⟩
   ·rw [hb,A];exact J
   ·rw [hb,A];exact J
  ·have b:¬ ((i:Nat):Int) < ((K:Nat):Int):=by omega
   have hi:i=K:=by have:=H.out;omega
   subst hi;have N:=hJ.out.2.resolve_left (by have:=d.out;omega);simp only [↓pre,zac,simprocAttr,z,t,u,b];exact ⟨0,by rw [kH,eC,yS N,aAk,eC,gU,jI];rfl⟩
end Go.Proofs.YtaekhhlgnbhnpaaGreat
namespace Go.Proofs.YtaekhhlgnbhnpaaGreat
open Go Go.Tw Go.Proofs Go.Gf
theorem aoK {P:Program} {t:TypeId} {x y:Operand} {k d:IntKind} {a:Int} {n:Nat}:eA P .shr t x y (.val (.int k a)) (.val (.int d ((n:Nat):Int)))=some (.val (.int k (a / 2 ^ min n k.bits))):=by
 have c:¬ (((n:Nat):Int) < 0):=by omega
 have b:((n:Nat):Int).toNat=n:=rfl;have e:a.fdiv (2 ^ min n k.bits)=a / 2 ^ min n k.bits:=Int.fdiv_eq_ediv_of_nonneg _ (Int.le_of_lt (Int.pow_pos (by decide)));simp only [eA,sO,eqGuard,binOp,Op.shift,c,b,Bind.bind,Pure.pure,if_false,e];simp [cT,Sem.bind]
def bQ (n:Int):Nat→List UInt8
 | 0=>[]
 | c+1=>azQ (n / 2 ^ (8*c)).toNat::bQ n c
theorem fX (n:Int):∀ c,(bQ n c).length=c
 | 0=>rfl
 | c+1=>by simp [bQ,fX n c]
theorem afO (m0:aF) (j:AV) (cs:List AV) (n:Int) (c:Nat) (C:Own m0 5 1 j cs.length cs) (H:0≤n) (E:n≤1073741824) (M:c≤4) (L:cs.length≤100000):dV ayU 192 [j,aB n,aB (c:Nat)] m0 fun r m'=>r=(gY 5 m0 j cs (aJ (bQ n c))).2∧m'=(gY 5 m0 j cs (aJ (bQ n c))).1:=by
 have w0:azy.wrap ((c:Int) - 1)=(c:Int) - 1:=gB (by omega) (by omega);refine bV Tryz.func192 aD (h:=?_);unfold Tryz.f192;simp only [↓pre,zab,simprocAttr,w0];rw [bS];refine bU (fun q e m=>∃ (o:Nat) (ys:List UInt8),q=o∧o≤c∧aA (ys++bQ n o=bQ n c)∧e 0=(gY 5 m0 j cs (aJ ys)).2∧e 1=aB n∧e 7=aB ((o:Int) - 1)∧m=(gY 5 m0 j cs (aJ ys)).1) c ⟨c,[],rfl,aza _,⟨rfl⟩,rfl,rfl,rfl,rfl⟩ ?_;rintro q e m ⟨o,ys,rfl,f,k,t,G,v,g⟩;replace f:=aA.mk f;cases q with
 | zero =>
  have I:¬ (0:Int)≤((0:Nat):Int) - 1:=by omega
  have z:=k.out;simp only [bQ,aBl] at z;subst z;simp only [↓pre,zac,simprocAttr,t,v];exact g
 | succ d =>
  have A:(0:Int)≤((d+1:Nat):Int) - 1:=by omega
  have J:((d+1:Nat):Int) - 1=(d:Nat):=by omega
  have w1:azy.wrap (8*((d:Nat):Int))=((8*d:Nat):Int):=by rw [show 8*((d:Nat):Int)=((8*d:Nat):Int) by simp];exact dO (by have:=f.out;omega)
  have D:azy.wrap (((d:Nat):Int) - 1)=((d:Nat):Int) - 1:=gB (by omega) (by have:=f.out;omega);have u:min (8*d) azy.bits=8*d:=by have:=f.out;have:azy.bits=64:=rfl;omega
  have i:0≤n / 2 ^ (8*d):=Int.ediv_nonneg H (Int.le_of_lt (Int.pow_pos (by decide)));have F:aBQ.wrap (n / 2 ^ (8*d))=((azQ (n / 2 ^ (8*d)).toNat).toNat:Int):=by
   have:=vM (n / 2 ^ (8*d)).toNat;rw [Int.toNat_of_nonneg i] at this;exact this
  have b:=sY (aJ ys) m0 j cs C;rw [←g,←t] at b;have s:(aJ ys).length≤4:=by
   have B:=congrArg List.length k.out;rw [aA2,fX,fX] at B;simp [aJ];omega
  have p:=ami (P:=ayU) (x := .tree 1 1 [.val (.int .u8 (azQ (n / 2 ^ (8*d)).toNat).toNat)] true) (y := .val (.int .u8 (azQ (n / 2 ^ (8*d)).toNat).toNat)) (yb:=1) (zl:=[.int .u8 0]) (by kernel_rfl) b (by kernel_rfl) (by kernel_rfl) (by kernel_rfl) rfl lV (by omega) (by omega);have a:=ahe (el:=5) (aJ ys) [.val (.int .u8 (azQ (n / 2 ^ (8*d)).toNat).toNat)] m0 j cs;rw [←g,←t] at a;simp only [gY] at a;generalize w:e 0=K at *
  rw [J] at v;replace s:=aA.mk s;replace b:=aA.mk b;replace a:=aA.mk a;replace g:=aA.mk g;replace t:=aA.mk t;replace i:=aA.mk i;have l:(0:Int)≤((d:Nat):Int):=by omega
  simp only [↓pre,zac,asX,cO,aoK,simprocAttr,w,G,v,l,w1,D,u,F,p];refine ⟨d,by omega,d,ys++[azQ (n / 2 ^ (8*d)).toNat],rfl,by have:=f.out;omega,⟨by rw [azW];exact k.out⟩, ?_,rfl, ?_⟩
  ·unfold aJ at a ⊢;rw [aBs,aAr,aAs];exact (congrArg Prod.snd a.out).symm
  ·unfold aJ at a ⊢;rw [aBs,aAr,aAs];exact (congrArg Prod.fst a.out).symm
abbrev cC:=Int×Int
def cU (l:List cC):List AV:=l.flatMap fun x=>[aB x.1,aB x.2]
theorem abd (l:List cC):(cU l).length=l.length*2:=by
 induction l with
 | nil=>rfl
 | cons a l b=>simp only [cU,zak,aBF,aA2] at b ⊢;omega
theorem aoL (a b:List cC):cU (a++b)=cU a++cU b:=by simp [cU]
theorem abe:∀ (l:List cC) (x:List AV) (i:Nat) (a:cC),l[i]? = some a→(cU l++x)[i*2]? = some (aB a.1)∧(cU l++x)[i*2+1]? = some (aB a.2)
 | [],x,i,a,h=>by simp at h
 | b::l,x,0,a,h=>by simp at h;subst h;exact ⟨rfl,rfl⟩
 | b::l,x,i+1,a,h=>by
  have c:=abe l x i a (by simpa using h);have e:cU (b::l)=aB b.1::aB b.2::cU l:=rfl;rw [e,show (i+1)*2=i*2+1+1 by omega];simpa using c
def qG (v:AV) (l:List cC):Prop:=∃ x,aT v l.length (cU l++x)
def dX (l:List cC):List UInt8:=l.flatMap fun x=>bQ x.1 2++bQ x.2 4
theorem yV (l:List cC):(dX l).length=l.length*6:=by
 induction l with
 | nil=>rfl
 | cons a l b=>simp only [dX,aBF,aA2,fX,aAF] at b ⊢;omega
theorem qH (a b:List UInt8):aJ (a++b)=aJ a++aJ b:=by unfold aJ;rw [aBs]
theorem eS (a:List UInt8):(aJ a).length=a.length:=by simp [aJ]
def abf (m:aF):aF:=(m.push ⟨[.val (.int .i64 0),.val (.int .i64 0)],67,.hole,true⟩).put m.next none
theorem aiz {m:aF} {el:TypeId} {sz n:Nat} {v:AV} {cs:List AV} (h:Own m el sz v n cs):Own (abf m) el sz v n cs:=h.pp _ _
def tF:aF→AV→List AV→List cC→aF×AV
 | m,v,_,[]=>(m,v)
 | m,v,cs,x::xs=>tF (gY 5 (gY 5 (abf m) v cs (aJ (bQ x.1 2))).1 (gY 5 (abf m) v cs (aJ (bQ x.1 2))).2 (cs++aJ (bQ x.1 2)) (aJ (bQ x.2 4))).1
  (gY 5 (gY 5 (abf m) v cs (aJ (bQ x.1 2))).1 (gY 5 (abf m) v cs (aJ (bQ x.1 2))).2 (cs++aJ (bQ x.1 2)) (aJ (bQ x.2 4))).2 (cs++aJ (bQ x.1 2)++aJ (bQ x.2 4)) xs
theorem aoM:∀ (l:List cC) (m:aF) (v:AV) (cs:List AV),Own m 5 1 v cs.length cs→Own (tF m v cs l).1 5 1 (tF m v cs l).2 (cs.length+(dX l).length) (cs++aJ (dX l))
 | [],m,v,cs,h=>by simpa [tF,dX,aJ] using h
 | x::xs,m,v,cs,h=>by
  rw [tF];have d:=sY (aJ (bQ x.1 2)) _ _ cs (aiz h);rw [←aA2] at d;have c:=sY (aJ (bQ x.2 4)) _ _ _ d;rw [←aA2] at c;have f:=aoM xs _ _ _ c;have e:dX (x::xs)=bQ x.1 2++(bQ x.2 4++dX xs):=by simp [dX]
  have a:cs.length+(dX (x::xs)).length=(cs++aJ (bQ x.1 2)++aJ (bQ x.2 4)).length+(dX xs).length:=by rw [e];simp [eS];omega
  have b:cs++aJ (dX (x::xs))=cs++aJ (bQ x.1 2)++aJ (bQ x.2 4)++aJ (dX xs):=by rw [e,qH,qH,←azW,←azW]
  rw [a,b];exact f
theorem avW (m0:aF) (B:AV) (cs:List AV) (v:AV) (l:List cC) (H:qG v l) (W:Own m0 5 1 B cs.length cs) (K:∀ x∈l,(0≤x.1∧x.1≤1073741824)∧0≤x.2∧x.2≤1073741824) (hn:l.length≤1000) (hc:cs.length≤1000):dV ayU 194 [B,v] m0 fun r m'=>r=(tF m0 B cs l).2∧m'=(tF m0 B cs l).1:=by
 obtain ⟨x,H⟩:=H;replace K:=aA.mk K;generalize F:tF m0 B cs l=G;replace F:=aA.mk F;have M:tF m0 B (cs++aJ (dX (l.take 0))) (l.drop 0)=G:=by simpa [dX,aJ] using F.out
 have I:Own m0 5 1 B (cs++aJ (dX (l.take 0))).length (cs++aJ (dX (l.take 0))):=by simpa [dX,aJ] using W
 have u:=fun m v cs n c a b d e f=>afO m v cs n c a b d e f
 replace u:=aA.mk u;refine bV Tryz.func194 aD (h:=?_);unfold Tryz.f194;simp only [↓pre,zai,aht,simprocAttr,H.len'];rw [bS];refine bU (fun q e m=>∃ i,q+i=l.length∧e 7=v∧e 8=aB (l.length:Nat)∧e 9=aB (i:Nat)∧aA (tF m (e 0) (cs++aJ (dX (l.take i))) (l.drop i)=G∧Own m 5 1 (e 0) (cs++aJ (dX (l.take i))).length (cs++aJ (dX (l.take i))))) l.length ⟨0,by omega,rfl,rfl,rfl,⟨M,I⟩⟩ ?_;rintro q e m ⟨i,D,Q,O,L,V⟩;replace D:=aA.mk D;obtain ⟨p,s⟩:=V.out;generalize E:e 0=U at *
 by_cases z:i < l.length
 ·have t:((i:Nat):Int) < ((l.length:Nat):Int):=by omega
  have T:=cB (n:=i) (by omega);obtain ⟨y,A⟩:∃ y,l[i]? = some y:=⟨_,azm z⟩
  obtain ⟨S,Y⟩:=abe l x i y A;obtain ⟨Z,J⟩:=qX S Y;have w:=K.out y (az8 A);have o:l.drop i=y::l.drop (i+1):=by
   rw [List.drop_eq_getElem_cons z];congr 1;rw [azm z] at A;exact Option.some.inj A
  have k:dX (l.take (i+1))=dX (l.take i)++(bQ y.1 2++bQ y.2 4):=by
   rw [aA9,A];simp [dX]
  have X:(cs++aJ (dX (l.take i))).length≤7000:=by
   rw [aA2,eS,yV,aBT];omega
  rw [o,tF] at p;have P:=u.out (abf m) U (cs++aJ (dX (l.take i))) y.1 2 (aiz s) w.1.1 w.1.2 (by omega) (by omega);have g:=sY (aJ (bQ y.1 2)) _ _ _ (aiz s);rw [←aA2] at g;have R:=u.out _ _ _ y.2 4 g w.2.1 w.2.2 (by omega) (by rw [aA2,eS,fX];omega);have j:=sY (aJ (bQ y.2 4)) _ _ _ g;rw [←aA2] at j;rw [show cs++aJ (dX (l.take i))++aJ (bQ y.1 2)++aJ (bQ y.2 4)=cs++aJ (dX (l.take (i+1))) by rw [k,qH,qH,azW,azW]] at p j;replace A:=aA.mk A;replace o:=aA.mk o;replace k:=aA.mk k;replace p:=aA.mk p;replace s:=aA.mk s;replace g:=aA.mk g;replace j:=aA.mk j;have C:(m.push ⟨[.val (.int .i64 0),.val (.int .i64 0)],67,.hole,true⟩).put m.next none=abf m:=rfl;simp only [aB] at P R;simp only [↓pre,zae,aht,bD,simprocAttr,aS,E,Q,O,L,t,H.addr',z,Z,J,aB,C];refine jD P ?_;rintro N m2 ⟨rfl,rfl⟩;simp only [↓pre,zab,aht,simprocAttr];refine jD R ?_;rintro N m3 ⟨rfl,rfl⟩;simp only [↓pre,zab,simprocAttr,Q,O,L,T];exact ⟨q - 1,by have:=D.out;omega,i+1,by have:=D.out;omega,rfl,⟨p.out,j.out⟩⟩
 ·have t:¬ ((i:Nat):Int) < ((l.length:Nat):Int):=by omega
  have hi:i=l.length:=by have:=D.out;omega
  rw [List.drop_of_length_le (by omega),tF] at p;have hg:=F.out;subst p;simp only [↓pre,zac,simprocAttr,E,O,L,t]
def tG (w:Int) (x:cC):Bool:=decide ((0≤x.1∧x.1 < w)∧1≤x.2∧x.2≤1073741824)
def wH (w:Int) (l:List cC):Bool:=l.all (tG w)
theorem avX (k r c w:Int) (v:AV) (l:List cC) (s:qG v l) (W:l.length≤9223372036854775807):aQ ayU 251 [aC k r c w,v] ⟨aZ (wH w l),[]⟩:=by
 obtain ⟨x,s⟩:=s;have V:=s.plain;generalize f:wH w l=B;replace f:=aA.mk f;refine aV Tryz.func251 aD (h:=?_);unfold Tryz.f251;simp only [↓pre,zae,ab9,simprocAttr,aC,s.len'];rw [bS];refine bU (fun q e m=>∃ i,q+i=l.length∧e 2 = .tptr 0 [aB k,aB r,aB c,aB w]∧e 7=v∧e 8=aB (l.length:Nat)∧e 9=aB (i:Nat)∧aA (∀ j y,j < i→l[j]? = some y→tG w y=true)) l.length ⟨0,by omega,rfl,rfl,rfl,rfl,⟨fun j y h=>by omega⟩⟩ ?_;rintro q e m ⟨i,H,G,E,C,A,N⟩;replace H:=aA.mk H;by_cases g:i < l.length
 ·have a:((i:Nat):Int) < ((l.length:Nat):Int):=by omega
  have P:=cB (n:=i) (by omega);obtain ⟨y,t⟩:∃ y,l[i]? = some y:=⟨_,azm g⟩
  obtain ⟨O,T⟩:=abe l x i y t;obtain ⟨D,o⟩:=qX O T;have b:tG w y=false→B=false:=fun h=>by
   rw [←f.out];unfold wH;rw [List.all_eq_false];exact ⟨y,az8 t,by rw [h];decide⟩
  have d:tG w y=true→∃ I,I < q∧I+(i+1)=l.length∧∀ j y,j < i+1→l[j]? = some y→tG w y=true:=fun h=>⟨q - 1,by have:=H.out;omega,by have:=H.out;omega,fun j U K u=>by
   by_cases e:j=i
   ·subst e;rw [t] at u;cases u;exact h
   ·exact N.out j U (by omega) u⟩
  have z:tG w y=decide ((0≤y.1∧y.1 < w)∧1≤y.2∧y.2≤1073741824):=rfl;replace t:=aA.mk t;replace b:=aA.mk b;replace d:=aA.mk d;replace z:=aA.mk z;simp only [aB] at D;by_cases F:y.1 < 0
  ·have p:=b.out (by rw [z.out];simp;omega);subst p;simp only [↓pre,zae,ab9,bD,simprocAttr,aS,E,C,A,a,s.addr',g,D,o,F]
  ·by_cases J:w≤y.1
   ·have p:=b.out (by rw [z.out];simp;omega);subst p;simp only [↓pre,zae,ab9,bD,simprocAttr,aS,G,E,C,A,a,s.addr',g,D,o,F,J]
   ·by_cases L:y.2 < 1
    ·have p:=b.out (by rw [z.out];simp;omega);subst p;simp only [↓pre,zae,ab9,bD,simprocAttr,aS,G,E,C,A,a,s.addr',g,D,o,F,J,L]
    ·by_cases M:(1073741824:Int) < y.2
     ·have p:=b.out (by rw [z.out];simp;omega);subst p;simp only [↓pre,zae,ab9,bD,simprocAttr,aS,G,E,C,A,a,s.addr',g,D,o,F,J,L,M]
     ·obtain ⟨I,Q,R,S⟩:=d.out (by rw [z.out];simp;omega);simp only [↓pre,zae,ab9,bD,simprocAttr,aS,G,E,C,A,a,s.addr',g,D,o,F,J,L,M,P];exact ⟨I,Q,i+1,R,rfl,⟨S⟩⟩
 ·have a:¬ ((i:Nat):Int) < ((l.length:Nat):Int):=by omega
  have p:B=true:=by
   rw [←f.out];unfold wH;rw [aAu];intro y t;obtain ⟨j,K⟩:=aBj t;have:=(ay8.1 K).1;exact N.out j y (by omega) K
  subst p;simp only [↓pre,zac,simprocAttr,C,A,a]
def uR (k r c w len dep:Int) (l:List cC):Bool:=decide (oE k r c w len=0) && (decide (min (oF k r c w len) 1=dep) && (decide ((l.length:Int)=(if dep=1 then oF k r c w len else oS k r c w len)) && wH w l))
def iE (k r c w len dep:Int) (l:List cC):Int:=if bG k r c w=true then (if uR k r c w len dep l=true then 0 else 150) else 2
theorem aiA {k r c w n:Int} (d:bG k r c w=true):0≤oF k r c w n:=by
 unfold oF;split
 ·rename_i h;unfold oE at h;rw [d,if_pos rfl] at h;split at h
  ·omega
  ·split at h
   ·omega
   ·unfold fI;split
    ·omega
    ·have e:=kJ d;have f:=ahG (a:=n) (b:=wI k c) (by omega) (by have:=afh k c;omega) (by unfold wI;omega) (by unfold wI;omega);have g:=adt e.1 e.2;have i:0≤sI k c n:=f.1;unfold iC lI;refine Int.ediv_nonneg ?_ ?_ <;> omega
 ·omega
theorem avY (k r c w len dep:Int) (v:AV) (l:List cC) (g:qG v l) (D:l.length≤9223372036854775807):aQ ayU 191 [aC k r c w,.agg [aB len,aB dep,v]] ⟨aB (iE k r c w len dep l),[]⟩:=by
 have b:=aaj k r c w;have d:=atk k r c w len;have p:=atj k r c w len;have q:=ati k r c w len;have j:=avX k r c w v l g D;obtain ⟨x,g⟩:=g;have G:=g.plain;have i:=bW g;have F:=bR g;generalize a:iE k r c w len dep l=E;unfold iE at a;cases u:bG k r c w with
 | false =>
  rw [u] at b a;subst a;simp only [azA,if_false] at b;refine aV Tryz.func191 aD (h:=?_);unfold Tryz.f191;simp only [↓pre,zab,iR,simprocAttr,aC,i]
  (first | refine aI (b) (by first | rfl | simp only [aC,aE, *]) ?_ | refine aH (b) (by first | rfl | simp only [aC,aE, *]) (by intro k;first | rfl | simp only [ *,zaa]) ?_);simp only [↓pre,zac,simprocAttr]
 | true =>
  have A:=aiA (n:=len) u;rw [u] at b a;simp only [if_true] at b a;unfold uR at a;generalize oE k r c w len=C at *
  generalize oF k r c w len=f at *
  generalize oS k r c w len=s at *
  generalize wH w l=B at *
  by_cases y:C=0
  ·subst y;by_cases o:min f 1=dep
   ·rw [decide_eq_true o] at a;by_cases kd:dep=1
    ·subst kd;by_cases e:f=(l.length:Int)
     ·rw [if_pos rfl,e] at a;have t:min (l.length:Int) 1=1:=by omega
      cases B with
      | true =>
       simp only [decide_true,aAx,if_true] at a;subst a;refine aV Tryz.func191 aD (h:=?_);unfold Tryz.f191;simp only [↓pre,zab,iR,simprocAttr,aC,i]
       (first | refine aI (b) (by first | rfl | simp only [aC,aE, *]) ?_ | refine aH (b) (by first | rfl | simp only [aC,aE, *]) (by intro k;first | rfl | simp only [ *,zaa]) ?_);simp only [↓pre,zac,iR,simprocAttr];(first | refine aI (d) (by first | rfl | simp only [aC,aE, *]) ?_ | refine aH (d) (by first | rfl | simp only [aC,aE, *]) (by intro k;first | rfl | simp only [ *,zaa]) ?_);simp only [↓pre,zac,iR,simprocAttr,e,t];(first | refine aI (p) (by first | rfl | simp only [aC,aE, *]) ?_ | refine aH (p) (by first | rfl | simp only [aC,aE, *]) (by intro k;first | rfl | simp only [ *,zaa]) ?_);simp only [↓pre,zae,iR,simprocAttr,e,g.len'];(first | refine aI (j) (by first | rfl | simp only [aE, *]) ?_ | refine aH (j) (by first | rfl | simp only [aC,aE, *]) (by intro k;first | rfl | simp only [ *,zaa]) ?_);simp only [↓pre,zac,simprocAttr]
      | false =>
       simp only [decide_true,aB2,azA,if_false] at a;subst a;refine aV Tryz.func191 aD (h:=?_);unfold Tryz.f191;simp only [↓pre,zab,iR,simprocAttr,aC,i]
       (first | refine aI (b) (by first | rfl | simp only [aC,aE, *]) ?_ | refine aH (b) (by first | rfl | simp only [aC,aE, *]) (by intro k;first | rfl | simp only [ *,zaa]) ?_);simp only [↓pre,zac,iR,simprocAttr];(first | refine aI (d) (by first | rfl | simp only [aC,aE, *]) ?_ | refine aH (d) (by first | rfl | simp only [aC,aE, *]) (by intro k;first | rfl | simp only [ *,zaa]) ?_);simp only [↓pre,zac,iR,simprocAttr,e,t];(first | refine aI (p) (by first | rfl | simp only [aC,aE, *]) ?_ | refine aH (p) (by first | rfl | simp only [aC,aE, *]) (by intro k;first | rfl | simp only [ *,zaa]) ?_);simp only [↓pre,zae,iR,simprocAttr,e,g.len'];(first | refine aI (j) (by first | rfl | simp only [aE, *]) ?_ | refine aH (j) (by first | rfl | simp only [aC,aE, *]) (by intro k;first | rfl | simp only [ *,zaa]) ?_);simp only [↓pre,zac,simprocAttr]
     ·have m:¬ (l.length:Int)=f:=fun h=>e h.symm
      rw [if_pos rfl,decide_eq_false m] at a;simp only [aB3,aB2,azA,if_false] at a;subst a;refine aV Tryz.func191 aD (h:=?_);unfold Tryz.f191;simp only [↓pre,zab,iR,simprocAttr,aC,i]
      (first | refine aI (b) (by first | rfl | simp only [aC,aE, *]) ?_ | refine aH (b) (by first | rfl | simp only [aC,aE, *]) (by intro k;first | rfl | simp only [ *,zaa]) ?_);simp only [↓pre,zac,iR,simprocAttr];(first | refine aI (d) (by first | rfl | simp only [aC,aE, *]) ?_ | refine aH (d) (by first | rfl | simp only [aC,aE, *]) (by intro k;first | rfl | simp only [ *,zaa]) ?_);simp only [↓pre,zac,iR,simprocAttr,o];(first | refine aI (p) (by first | rfl | simp only [aC,aE, *]) ?_ | refine aH (p) (by first | rfl | simp only [aC,aE, *]) (by intro k;first | rfl | simp only [ *,zaa]) ?_);simp only [↓pre,zae,iR,simprocAttr,e,g.len']
    ·have z:dep=0:=by omega
     subst z;rw [if_neg (show ¬ (0:Int)=1 by decide)] at a;by_cases e:s=(l.length:Int)
     ·rw [e] at a;cases B with
      | true =>
       simp only [decide_true,aAx,if_true] at a;subst a;refine aV Tryz.func191 aD (h:=?_);unfold Tryz.f191;simp only [↓pre,zab,iR,simprocAttr,aC,i]
       (first | refine aI (b) (by first | rfl | simp only [aC,aE, *]) ?_ | refine aH (b) (by first | rfl | simp only [aC,aE, *]) (by intro k;first | rfl | simp only [ *,zaa]) ?_);simp only [↓pre,zac,iR,simprocAttr];(first | refine aI (d) (by first | rfl | simp only [aC,aE, *]) ?_ | refine aH (d) (by first | rfl | simp only [aC,aE, *]) (by intro k;first | rfl | simp only [ *,zaa]) ?_);simp only [↓pre,zac,iR,simprocAttr,o];(first | refine aI (q) (by first | rfl | simp only [aC,aE, *]) ?_ | refine aH (q) (by first | rfl | simp only [aC,aE, *]) (by intro k;first | rfl | simp only [ *,zaa]) ?_);simp only [↓pre,zae,iR,simprocAttr,e,g.len'];(first | refine aI (j) (by first | rfl | simp only [aE, *]) ?_ | refine aH (j) (by first | rfl | simp only [aC,aE, *]) (by intro k;first | rfl | simp only [ *,zaa]) ?_);simp only [↓pre,zac,simprocAttr]
      | false =>
       simp only [decide_true,aB2,azA,if_false] at a;subst a;refine aV Tryz.func191 aD (h:=?_);unfold Tryz.f191;simp only [↓pre,zab,iR,simprocAttr,aC,i]
       (first | refine aI (b) (by first | rfl | simp only [aC,aE, *]) ?_ | refine aH (b) (by first | rfl | simp only [aC,aE, *]) (by intro k;first | rfl | simp only [ *,zaa]) ?_);simp only [↓pre,zac,iR,simprocAttr];(first | refine aI (d) (by first | rfl | simp only [aC,aE, *]) ?_ | refine aH (d) (by first | rfl | simp only [aC,aE, *]) (by intro k;first | rfl | simp only [ *,zaa]) ?_);simp only [↓pre,zac,iR,simprocAttr,o];(first | refine aI (q) (by first | rfl | simp only [aC,aE, *]) ?_ | refine aH (q) (by first | rfl | simp only [aC,aE, *]) (by intro k;first | rfl | simp only [ *,zaa]) ?_);simp only [↓pre,zae,iR,simprocAttr,e,g.len'];(first | refine aI (j) (by first | rfl | simp only [aE, *]) ?_ | refine aH (j) (by first | rfl | simp only [aC,aE, *]) (by intro k;first | rfl | simp only [ *,zaa]) ?_);simp only [↓pre,zac,simprocAttr]
     ·have m:¬ (l.length:Int)=s:=fun h=>e h.symm
      rw [decide_eq_false m] at a;simp only [aB3,aB2,azA,if_false] at a;subst a;refine aV Tryz.func191 aD (h:=?_);unfold Tryz.f191;simp only [↓pre,zab,iR,simprocAttr,aC,i]
      (first | refine aI (b) (by first | rfl | simp only [aC,aE, *]) ?_ | refine aH (b) (by first | rfl | simp only [aC,aE, *]) (by intro k;first | rfl | simp only [ *,zaa]) ?_);simp only [↓pre,zac,iR,simprocAttr];(first | refine aI (d) (by first | rfl | simp only [aC,aE, *]) ?_ | refine aH (d) (by first | rfl | simp only [aC,aE, *]) (by intro k;first | rfl | simp only [ *,zaa]) ?_);simp only [↓pre,zac,iR,simprocAttr,o];(first | refine aI (q) (by first | rfl | simp only [aC,aE, *]) ?_ | refine aH (q) (by first | rfl | simp only [aC,aE, *]) (by intro k;first | rfl | simp only [ *,zaa]) ?_);simp only [↓pre,zae,iR,simprocAttr,e,g.len']
   ·rw [decide_eq_false o] at a;simp only [aB3,aB2,azA,if_false] at a;subst a;refine aV Tryz.func191 aD (h:=?_);unfold Tryz.f191;simp only [↓pre,zab,iR,simprocAttr,aC,i]
    (first | refine aI (b) (by first | rfl | simp only [aC,aE, *]) ?_ | refine aH (b) (by first | rfl | simp only [aC,aE, *]) (by intro k;first | rfl | simp only [ *,zaa]) ?_);simp only [↓pre,zac,iR,simprocAttr];(first | refine aI (d) (by first | rfl | simp only [aC,aE, *]) ?_ | refine aH (d) (by first | rfl | simp only [aC,aE, *]) (by intro k;first | rfl | simp only [ *,zaa]) ?_);simp only [↓pre,zac,iR,simprocAttr,o]
  ·rw [decide_eq_false y] at a;simp only [aB3,azA,if_false] at a;subst a;refine aV Tryz.func191 aD (h:=?_);unfold Tryz.f191;simp only [↓pre,zab,iR,simprocAttr,aC,i]
   (first | refine aI (b) (by first | rfl | simp only [aC,aE, *]) ?_ | refine aH (b) (by first | rfl | simp only [aC,aE, *]) (by intro k;first | rfl | simp only [ *,zaa]) ?_);simp only [↓pre,zac,iR,simprocAttr];(first | refine aI (d) (by first | rfl | simp only [aC,aE, *]) ?_ | refine aH (d) (by first | rfl | simp only [aC,aE, *]) (by intro k;first | rfl | simp only [ *,zaa]) ?_);simp only [↓pre,zac,simprocAttr,y]
theorem adN {P:Program} {m:aF} {t a ty:TypeId} {d x:AV}:tT P m #[t,a] ty [d,x] .copy=(bO P t).bind fun el=>sR P el m d x:=rfl
def tH (bs:List UInt8) (W:Nat):List UInt8:=bs++List.replicate (W - bs.length) 0
theorem aiB {bs:List UInt8} {W:Nat} (h:bs.length≤W):(tH bs W).length=W:=by simp [tH];omega
theorem aoN (W:Nat):aR W (fun _=>0)=aJ (List.replicate W 0):=by
 unfold aR tab aJ;congr 1;apply List.ext_getElem
 ·simp
 ·intro i b a;simp
theorem avZ (k r c w:Int) (o:bG k r c w=true) (m0:aF) (i:AV) (bs:List UInt8) (t:Own m0 5 1 i bs.length (aJ bs)) (u:bs.length≤(wI k c).toNat):dV ayU 193 [aC k r c w,i] m0 fun j m'=>j = .tup [.sl m0.next 0 (wI k c).toNat (wI k c).toNat true,aB 0]∧m'=m0.push ⟨aJ (tH bs (wI k c).toNat),5,.flat,true⟩:=by
 have e:=am1 k r c w;have q:=kJ o;simp only [o,if_true] at e;obtain ⟨W,p⟩:∃ W:Nat,wI k c=(W:Int):=⟨(wI k c).toNat,by unfold wI;omega⟩
 have l:(wI k c).toNat=W:=by omega
 have z:W≤768:=by unfold wI at p;omega
 rw [l] at u ⊢;rw [p] at e;have f:=fun m=>vZ m (n:=W) (by omega)
 have b:=t.push (x:=⟨aR W fun _=>0,5,.flat,true⟩);have a:=afF (P:=ayU) (el':=5) (kd := .flat) b (by kernel_rfl);have g:sR ayU 5 (m0.push ⟨aR W fun _=>0,5,.flat,true⟩) (.sl m0.next 0 W W true) i=some ⟨aB (bs.length:Nat),m0.push ⟨aJ (tH bs W),5,.flat,true⟩,none⟩:=by
  have s:bX ayU 5=some 1:=by kernel_rfl
  have y:bK ayU 5 = .flat:=by kernel_rfl
  have v:(m0.push ⟨aR W fun _=>0,5,.flat,true⟩).at_ m0.next=some ⟨aR W fun _=>0,5,.flat,true⟩:=by rw [cF,if_pos rfl]
  simp only [sR,s,a,v,aAk,y];rw [if_pos ⟨trivial,trivial,by rw [fW];omega⟩,afz rfl];have d:min bs.length W=bs.length:=by omega
  rw [d,azG,aBa (by rw [eS];omega),aoN];congr 4;unfold tH cH;rw [qH,eS,List.take_zero,aBt,azq];congr 1;unfold aJ;rw [←List.map_drop,List.drop_replicate]
 refine bV Tryz.func193 aD (h:=?_);unfold Tryz.f193;simp only [↓pre,zab,amE,simprocAttr,aC]
 (first | refine aI (e) (by first | rfl | simp only [aC,aE, *]) ?_ | refine aH (e) (by first | rfl | simp only [aC,aE, *]) (by intro k;first | rfl | simp only [ *,zaa]) ?_);simp only [↓pre,zae,amE,adN,simprocAttr,f,g]
def pJ (len dep:Int) (n:Nat):List UInt8:=bQ len 4++(bQ dep 1++bQ (n:Nat) 2)
def fJ (k c len dep:Int) (l:List cC):List UInt8:=tH (pJ len dep l.length++dX l) (wI k c).toNat
def afP (k r c w len dep:Int) (l:List cC):AV:=if iE k r c w len dep l=0 then .tup [.tree (wI k c).toNat (wI k c).toNat (aJ (fJ k c len dep l)) true,aB 0] else .tup [aW,aB (iE k r c w len dep l)]
theorem aiC {k r c w len dep:Int} {l:List cC} (h:iE k r c w len dep l=0):bG k r c w=true∧uR k r c w len dep l=true:=by
 unfold iE at h;split at h
 ·rename_i b;split at h
  ·rename_i a;exact ⟨b,a⟩
  ·omega
 ·omega
theorem aoO {a b d:Int} (c:0 < b) (h:a≤d*b):iC a b≤d:=by
 unfold iC;have:a+b - 1 < (d+1)*b:=by rw [Int.add_mul,Int.one_mul];omega
 have:=Int.ediv_lt_of_lt_mul c this;omega
theorem afQ {k r c w len dep:Int} {l:List cC} (h:iE k r c w len dep l=0):0≤len∧len≤32768∧(dep=0∨dep=1)∧(l.length:Int)≤dI k c∧(∀ x∈l,(0≤x.1∧x.1 < w)∧1≤x.2∧x.2≤1073741824):=by
 obtain ⟨g,m⟩:=aiC h;unfold uR at m;simp only [aAq,decide_eq_true_eq] at m;obtain ⟨a,o,z,B⟩:=m;have A:=aiA (n:=len) g;have q:=afh k c;have e:=kJ g;have b:0≤len∧len≤mI k c:=by
  unfold oE at a;rw [g,if_pos rfl] at a;split at a
  ·omega
  ·split at a
   ·omega
   ·omega
 have j:∀ x∈l,(0≤x.1∧x.1 < w)∧1≤x.2∧x.2≤1073741824:=fun x y=>by
  have:=aAu.1 B x y;unfold tG at this;exact of_decide_eq_true this
 refine ⟨b.1,by omega,by omega, ?_,j⟩;rw [z];have t:=ads e.1 e.2;have u:=adt e.1 e.2;have C:len≤dI k c*lI k c*(k*c):=by unfold mI at b;omega
 unfold oF oS at *
 rw [a,if_pos rfl] at *
 have hs:sI k c len≤dI k c*lI k c:=aoO (by unfold wI;omega) (by unfold wI;omega);by_cases f:sI k c len≤dI k c
 ·have:fI k c len=0:=by unfold fI;rw [if_pos f]
  rw [this] at o ⊢;have D:dep=0:=by omega
  rw [if_neg (by omega)];exact f
 ·have d:fI k c len=iC (sI k c len) (lI k c):=by unfold fI;rw [if_neg f]
  have i:iC (sI k c len) (lI k c)≤dI k c:=aoO (by unfold lI;omega) hs;split
  ·rw [d];exact i
  ·rename_i v;exfalso;have p:1≤iC (sI k c len) (lI k c):=by
    unfold iC;have s:1*lI k c≤sI k c len+lI k c - 1:=by unfold dI at f;omega
    exact (Int.le_ediv_iff_mul_le (by unfold lI;omega)).2 s
   rw [d] at o;omega
def iG (m:aF) (v:AV) (r:fA):Prop:=jB ayU m v=some r
theorem abg {f:FuncId} {args:List AV} {r:fA} (h:dV ayU f args aF.empty fun v m=>iG m v r):aQ ayU f args r:=aeF h
def xL (bs:List UInt8) (e:Int):fA:=if bs.length=0 then ⟨.tup [.val (.slice none 0 0),.val (.int .i64 e)],[]⟩ else ⟨.tup [.sl 0 0 bs.length bs.length true,.val (.int .i64 e)],[(5,aJ bs)]⟩
theorem aoP (m:aF) (e:Int):iG m (.tup [.val (.slice none 0 0),.val (.int .i64 e)]) (xL [] e):=by
 simp [iG,jB,canon,fN,xL]
theorem aoQ {m:aF} {bs:List UInt8} {b n:Nat} {e:Int} (f:bs.length=n) (c:n≠0) (d:m.at_ b=some ⟨aJ bs,5,.flat,true⟩):iG m (.tup [.sl b 0 n n true,.val (.int .i64 e)]) (xL bs e):=by
 have a:bK ayU 5 = .flat:=by kernel_rfl
 subst f;unfold xL;rw [if_neg c];simp [iG,jB,canon,fN,d,a]
structure aiD (m m1:aF) (a:AV) (bs:List UInt8):Prop where
 form:(a = .val (.slice none 0 0)∧bs=[]∧m1=m)∨(a = .sl m.next 0 bs.length bs.length true∧bs.length≠0∧m1=m.push ⟨aJ bs,5,.flat,true⟩)
theorem aiD.canon {m b:aF} {a:AV} {bs:List UInt8} (h:aiD m b a bs) (e:Int):iG b (.tup [a,.val (.int .i64 e)]) (xL bs e):=by
 rcases h.form with ⟨rfl,rfl,rfl⟩ | ⟨rfl,c,rfl⟩
 ·exact aoP _ _
 ·exact aoQ rfl c (by rw [cF,if_pos rfl])
theorem av0 {d:Bool} {f:FuncId} {args b:List AV} {m:aF} {K:bL→Prop} {bs:List UInt8} {e:Int} (h:aQ ayU f b (xL bs e)) (j:dN 3 m args=some b) (i:∀ a g,aiD m g a bs→K ⟨.tup [a,.val (.int .i64 e)],g,none⟩):mU ayU d f args m K:=by
 refine wU h j ?_ ?_
 ·unfold xL;split <;> simp [fA.apart,hY,iA,show iA (aJ bs)=true from adH _]
 ·have k:bK ayU 5 = .flat:=by kernel_rfl
  unfold xL;by_cases c:bs.length=0
  ·rw [if_pos c];have:=az1 c;subst this;exact i _ _ ⟨.inl ⟨rfl,rfl,rfl⟩⟩
  ·rw [if_neg c];have:=i _ _ ⟨.inr ⟨rfl,c,rfl⟩⟩;simpa [shift,gT,eB,gN,k] using this
def tI (F:AV→AV) (l:List cC):fA:=if l.length=0 then ⟨F (.val (.slice none 0 0)),[]⟩ else ⟨F (.sl 0 0 l.length l.length false),[(67,cU l)]⟩
theorem aoR:∀ l:List cC,iA (cU l)=true
 | []=>rfl
 | a::l=>by
  have:=aoR l;simpa [cU,iA,hY,aB] using this
structure adO (m m1:aF) (a:AV) (l:List cC):Prop where
 form:(a = .val (.slice none 0 0)∧l=[]∧m1=m)∨(a = .sl m.next 0 l.length l.length false∧l.length≠0∧m1=m.push ⟨cU l,67,.flat,true⟩)
theorem adO.own {m b:aF} {a:AV} {l:List cC} (h:adO m b a l):Own b 67 2 a l.length (cU l):=by
 rcases h.form with ⟨rfl,rfl,rfl⟩ | ⟨rfl,c,rfl⟩
 ·exact gK
 ·exact ⟨.inr ⟨_,rfl,by rw [cF,if_pos rfl],by rw [cQ];omega,by omega⟩,abd _⟩
theorem aiE {d:Bool} {f:FuncId} {args b:List AV} {m:aF} {K:bL→Prop} {l:List cC} (F:AV→AV) (h:aQ ayU f b (tI F l)) (o:dN 3 m args=some b) (e:∀ k a,shift k (F a)=F (shift k a)) (g:∀ k n,hY (F (.val (.slice none 0 0)))=true∧hY (F (.sl k 0 n n false))=true) (j:∀ a i,adO m i a l→K ⟨F a,i,none⟩):mU ayU d f args m K:=by
 refine wU h o ?_ ?_
 ·unfold tI;split
  ·simp [fA.apart,(g 0 0).1]
  ·simp [fA.apart,(g 0 l.length).2,aoR]
 ·have p:bK ayU 67 = .flat:=by kernel_rfl
  unfold tI;by_cases c:l.length=0
  ·rw [if_pos c];have:=az1 c;subst this;have:=j _ _ ⟨.inl ⟨rfl,rfl,rfl⟩⟩;simpa [e,shift,eB,gN] using this
  ·rw [if_neg c];have:=j _ _ ⟨.inr ⟨rfl,c,rfl⟩⟩;simpa [e,shift,eB,gN,p] using this
theorem alT {m:aF} {a:AV} {l:List cC} (h:Own m 67 2 a l.length (cU l)):lend 3 m a=some (bE l.length (cU l)):=by
 rcases h.form with ⟨rfl,f,d⟩ | ⟨b,rfl,e,_,c⟩
 ·rw [d,f];simp [lend,aW,bE]
 ·unfold lend bE;simp [e,aA0 c]
theorem yW {m:aF} {a:AV} {l:List cC} (h:Own m 67 2 a l.length (cU l)):∀ j,cG a=some j→j < m.next:=by
 rcases h.form with ⟨rfl,_⟩ | ⟨b,rfl,_,c,_⟩
 ·intro j h;cases h
 ·intro j h;cases h;exact c
structure av1 (m m1:aF) (a:AV) (l:List cC):Prop where
 own:Own m1 67 2 a l.length (cU l)
 blk:∀ j,cG a=some j→j=m.next
 keep:∀ j k,m.at_ j=some k→j < m.next→m1.at_ j=some k
 next:m.next≤m1.next
 cells:a.cells=[a]
 ok:gD a=true
 one:dL a=true
theorem adO.abs {m b:aF} {a:AV} {l:List cC} (h:adO m b a l):av1 m b a l:=by
 have c:=h.own;rcases h.form with ⟨rfl,rfl,rfl⟩ | ⟨rfl,d,rfl⟩
 ·exact ⟨c,fun j h=>(by cases h),fun _ _ h _=>h,aza _,rfl,rfl,rfl⟩
 ·exact ⟨c,fun j h=>(by cases h;rfl),fun j k h e=>by rw [cF,if_neg (by omega)];exact h,by rw [cQ];omega,rfl,rfl,rfl⟩
theorem aiF {m:aF} {a:AV} {l:List cC} (F:AV→AV) (h:Own m 67 2 a l.length (cU l)) (d:iG m (F (.val (.slice none 0 0))) ⟨F (.val (.slice none 0 0)),[]⟩) (e:∀ (b n:Nat) (cs:List AV),bK ayU 67 = .flat→m.at_ b=some ⟨cs,67,.flat,true⟩→iG m (F (.sl b 0 n n false)) ⟨F (.sl 0 0 n n false),[(67,cs)]⟩):iG m (F a) (tI F l):=by
 rcases h.form with ⟨rfl,c,g⟩ | ⟨b,rfl,f,_,i⟩
 ·unfold tI;rw [if_pos c];exact d
 ·unfold tI;rw [if_neg (by omega)];exact e b _ _ (by kernel_rfl) f
theorem av3 {m:aF} {a:AV} {l:List cC} {x y e:Value} (h:Own m 67 2 a l.length (cU l)):iG m (.tup [.agg [.val x,.val y,a],.val e]) (tI (fun a => .tup [.agg [.val x,.val y,a],.val e]) l) :=
 aiF (fun a => .tup [.agg [.val x,.val y,a],.val e]) h (by simp [iG,jB,canon,fN]) fun b n cs c d=>by simp [iG,jB,canon,fN,d,c]
theorem av5 {m:aF} {a:AV} {l:List cC} {x y v e:Value} (h:Own m 67 2 a l.length (cU l)):iG m (.tup [.agg [.val x,.val y,a],.val v,.val e]) (tI (fun a => .tup [.agg [.val x,.val y,a],.val v,.val e]) l) :=
 aiF (fun a => .tup [.agg [.val x,.val y,a],.val v,.val e]) h (by simp [iG,jB,canon,fN]) fun b n cs c d=>by simp [iG,jB,canon,fN,d,c]
theorem av6 {m:aF} {a:AV} {l:List cC} (h:Own m 67 2 a l.length (cU l)):iG m a (tI (fun a=>a) l) :=
 aiF (fun a=>a) h (by simp [iG,jB,canon]) fun b n cs c d=>by simp [iG,jB,canon,d,c]
def aax:Nat→Bool:=fun d=>d != 30 && d != 31
def afR (k r c w len dep:Int) (l:List cC):List UInt8:=if iE k r c w len dep l=0 then fJ k c len dep l else []
theorem aoS (k r c w len dep:Int) (v:AV) (l:List cC) (d:qG v l) (W:l.length≤9223372036854775807):dV ayU 109 [aC k r c w,.agg [aB len,aB dep,v]] aF.empty fun a m=>(∃ q,fzT q m a=some (afP k r c w len dep l))∧iG m a (xL (afR k r c w len dep l) (iE k r c w len dep l)):=by
 have n:=avY k r c w len dep v l d W;unfold afP afR;by_cases e:iE k r c w len dep l=0
 ·rw [if_pos e,if_pos e];rw [e] at n ⊢;obtain ⟨j,D,M,t,g⟩:=afQ e;obtain ⟨B,_⟩:=aiC e;have I:=kJ B;have S:=ads I.1 I.2;have A:l.length≤126:=by unfold dI at t;omega
  have s:Own aF.empty 5 1 aW ([]:List AV).length []:=gK;have F:=afO aF.empty aW [] len 4 s j (by omega) (by omega) (by simp);have o:=sY (aJ (bQ len 4)) _ _ _ s;rw [←aA2] at o;have C:=afO _ _ _ dep 1 o (by omega) (by omega) (by omega) (by rw [aA2,eS,fX];simp);have y:=sY (aJ (bQ dep 1)) _ _ _ o;rw [←aA2] at y;have E:=afO _ _ _ (l.length:Nat) 2 y (by omega) (by omega) (by omega) (by rw [aA2,aA2,eS,fX,eS,fX];simp);have u:=sY (aJ (bQ (l.length:Nat) 2)) _ _ _ y;rw [←aA2] at u;have L:=avW _ _ _ v l d u (fun x T=>by have:=g x T;have:=kW.1 B;omega) (by omega) (by rw [aA2,aA2,aA2,eS,fX,eS,fX,eS,fX];simp);have z:=aoM l _ _ _ u;have f:(([]:List AV)++aJ (bQ len 4)++aJ (bQ dep 1)++aJ (bQ (l.length:Nat) 2))++aJ (dX l)=aJ (pJ len dep l.length++dX l):=by
   unfold pJ;simp only [qH,aBt,azW]
  have i:(([]:List AV)++aJ (bQ len 4)++aJ (bQ dep 1)++aJ (bQ (l.length:Nat) 2)).length+(dX l).length=(pJ len dep l.length++dX l).length:=by
   unfold pJ;simp [eS,fX];omega
  rw [f,i] at z;have b:(pJ len dep l.length++dX l).length≤(wI k c).toNat:=by
   unfold pJ;simp only [aA2,fX,yV];unfold dI at t;unfold wI;omega
  have O:=avZ k r c w B _ _ _ z b;have p:=aA.mk (show (fJ k c len dep l).length=(wI k c).toNat∧(wI k c).toNat≠0 from ⟨aiB b,by unfold wI;omega⟩);obtain ⟨x,d⟩:=d;have G:=bW d;have R:=bR d;have U:=d.plain;replace g:=aA.mk g;replace b:=aA.mk b;replace z:=aA.mk z;replace f:=aA.mk f;replace i:=aA.mk i;replace o:=aA.mk o;replace y:=aA.mk y;replace u:=aA.mk u;generalize gY 5 aF.empty aW [] (aJ (bQ len 4))=J at *
  generalize gY 5 J.1 J.2 ([]++aJ (bQ len 4)) (aJ (bQ dep 1))=K at *
  generalize gY 5 K.1 K.2 ([]++aJ (bQ len 4)++aJ (bQ dep 1)) (aJ (bQ (l.length:Nat) 2))=N at *
  generalize tF N.1 N.2 ([]++aJ (bQ len 4)++aJ (bQ dep 1)++aJ (bQ (l.length:Nat) 2)) l=X at *
  have Q:(((4:Nat):Nat):Int)=4:=rfl;have V:(((1:Nat):Nat):Int)=1:=rfl;have P:(((2:Nat):Nat):Int)=2:=rfl;rw [Q] at F;rw [V] at C;rw [P] at E;simp only [aB,aW] at F C E L O;refine bV Tryz.func109 aax (h:=?_);unfold Tryz.f109;simp only [↓pre,zad,ab5,aax,simprocAttr,aC,bne,G]
  (first | refine aI (n) (by first | rfl | simp only [aE, *]) ?_ | refine aH (n) (by first | rfl | simp only [aC,aE, *]) (by intro k;first | rfl | simp only [ *,zaa]) ?_);simp only [↓pre,zad,ab5,aax,simprocAttr,bne]
  refine nR F ?_;simp only [↓pre,zad,ab5,aax,simprocAttr,bne];refine nR C ?_;simp only [↓pre,za,ab5,aax,simprocAttr,bne,d.len'];refine nR E ?_;simp only [↓pre,zad,ab5,aax,simprocAttr,bne];refine nR L ?_;refine cX (by kernel_rfl) ?_;simp only [↓pre,zad,aax,simprocAttr,bne];refine nR O ?_;refine cX (by kernel_rfl) ?_;simp only [↓pre,zad,aax,simprocAttr,bne];refine ⟨⟨0, ?_⟩,aoQ p.out.1 p.out.2 (by rw [cF,if_pos rfl];rfl)⟩;rw [kH,eC,wW (by rw [cF,if_pos rfl]),aAk,eC,gU,jI,List.drop_zero];rfl
 ·rw [if_neg e,if_neg e];obtain ⟨x,d⟩:=d;have G:=bW d;have R:=bR d;have U:=d.plain;have H:=fun m=>pE (dK (.slice none 0 0)) (dK (.int .i64 (iE k r c w len dep l))) 1 m
  replace H:=aA.mk H;refine bV Tryz.func109 aD (h:=?_);unfold Tryz.f109;simp only [↓pre,zab,ab5,simprocAttr,aC,G]
  (first | refine aI (n) (by first | rfl | simp only [aE, *]) ?_ | refine aH (n) (by first | rfl | simp only [aC,aE, *]) (by intro k;first | rfl | simp only [ *,zaa]) ?_);simp only [↓pre,zab,simprocAttr,e,aW]
  exact ⟨⟨1,H.out _⟩,aoP _ _⟩
theorem av7 (k r c w len dep:Int) (v:AV) (l:List cC) (a:qG v l) (b:l.length≤9223372036854775807):aQ ayU 109 [aC k r c w,.agg [aB len,aB dep,v]] ⟨afP k r c w len dep l,[]⟩:=gA (mW (aoS k r c w len dep v l a b) fun _ _ h=>h.1)
theorem av8 (k r c w len dep:Int) (v:AV) (l:List cC) (a:qG v l) (b:l.length≤9223372036854775807):aQ ayU 109 [aC k r c w,.agg [aB len,aB dep,v]] (xL (afR k r c w len dep l) (iE k r c w len dep l)):=abg (mW (aoS k r c w len dep v l a b) fun _ _ h=>h.2)
end Go.Proofs.YtaekhhlgnbhnpaaGreat