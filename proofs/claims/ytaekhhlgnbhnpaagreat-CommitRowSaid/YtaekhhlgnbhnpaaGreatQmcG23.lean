import Derived.Test.YtaekhhlgnbhnpaaGreatQmcG22
import Derived.Test.YtaekhhlgnbhnpaaGreatQmcG20
import Derived.Test.YtaekhhlgnbhnpaaGreatQmcG21
import Derived.Test.YtaekhhlgnbhnpaaGreatQmcG18
import Derived.Test.YtaekhhlgnbhnpaaGreatQmcG12
set_option linter.unusedVariables false
set_option linter.unusedSimpArgs false
set_option maxRecDepth 10000
open Go.Proofs.Tryz
open Bool renaming true_and→aBk,false_and→aB3,and_eq_true→aAq
open Go.IntKind renaming i64→azy
open Go.Proofs.Tryz renaming prog→ayU
open Int renaming tdiv_eq_ediv_of_nonneg→aCh,toNat_of_nonneg→aB4,cast_ofNat_Int→aB0
open List renaming getElem?_eq_getElem→azm,getD_eq_getElem?_getD→azs,append_nil→aBl,replicate→aBr,eq_nil_of_length_eq_zero→az1,getElem?_eq_none→ay6,length_append→aA2,drop_zero→aBx,take_of_length_le→aBa,mem_of_getElem?→az8,length_drop→aBc,drop_succ_cons→aAK,length_replicate→aB6,append_assoc→azW,take_add_one→aA9,ext_getElem?→aAi,getElem?_map→azo,getElem?_range→aBS,mem_cons→az7,not_mem_nil→aBY
open Nat renaming le_refl→aza,mul_one→azG,one_ne_zero→aBm,zero_ne_one→aBg
open Option renaming getD_some→aAE,bind_some→aAk,map_none→aBd,map_some→az6,getD_none→aAD
open UInt8 renaming ofNat→azQ
namespace Go.Proofs.YtaekhhlgnbhnpaaGreat
open Go Go.Tw Go.Proofs Go.Gf
theorem axG (k r c w:Int) (bs:List UInt8) (ix kd ver:Int):iT k r c w bs ix kd ver=(eF k r c w bs ix && (decide ((bN k r bs).kd=kd) && decide ((bN k r bs).st=ver))):=by
 unfold iT eF;cases h:dP k r c w bs with
 | false=>rfl
 | true =>
  unfold dW;rw [if_pos h,aBk,aBk];show (decide ((bN k r bs).kd=kd) && (decide ((bN k r bs).ix=ix) && decide ((bN k r bs).st=ver)))=_;cases decide ((bN k r bs).kd=kd) <;> cases decide ((bN k r bs).ix=ix) <;> rfl
def sel (p:aO) (i:Nat):List UInt8:=if i=0 then p.1 else p.2
theorem ap7 {k r c w:Int} {v:AV} {ps:List aO} {cells:List AV} (m:dG v ps cells) (h:bG k r c w=true) {i:Nat} {p:aO} (q:ps[i]? = some p) (ix:Int) (d:Nat) (t:d < 2):∃ g,cells[i*2+d]? = some g∧plain g=true∧∃ kd j ce st vv dv,aQ ayU 227 [aC k r c w,g,aB ix] ⟨.tup [.agg [.val (.int .u8 kd),.val (.int .i64 j),.val (.int .i64 ce),.val (.int .i64 st),vv,dv],aZ (eF k r c w (sel p d) ix)],[]⟩∧OfR k r c w ix (sel p d) kd j ce st vv dv:=by
 obtain ⟨a,b,l,s,o,n,e,f⟩:=m.at_ i p q;obtain rfl | rfl:d=0∨d=1:=by omega
 ·exact ⟨a,o,e.plain,acH k r c w ix a p.1 l e h⟩
 ·exact ⟨b,n,f.plain,acH k r c w ix b p.2 s f h⟩
def oH:Nat→Bool:=fun d=>d != 11
theorem ai5 (k r c w kd ver:Int) (v:AV) (ps:List aO) (cells:List AV) (W:dG v ps cells) (hm:bG k r c w=true) (hn:ps.length≤1000):aQ ayU 208 [aC k r c w,v,.val (.int .u8 kd),aB ver] ⟨jZ (dZ k r c w ps kd ver),[]⟩:=by
 refine gA ?_;have hp:=W.rd.plain;generalize x:dZ k r c w ps kd ver=T;replace x:=aA.mk x;replace hn:=aA.mk hn;have O:=fun {i p} h ix b V=>ap7 (k:=k) (r:=r) (c:=c) (w:=w) W hm (i:=i) (p:=p) h ix b V
 replace O:=aA.mk @O;refine bV Tryz.func208 oH (h:=?_);unfold Tryz.f208;simp only [↓pre,zad,qU,oH,simprocAttr,aC,bne];rw [bS];refine bU (fun q e m=>∃ i,q+i=ps.length∧e 1=v∧e 2 = .val (.int .u8 kd)∧e 3=aB ver∧e 4 = .tptr 0 [aB k,aB r,aB c,aB w]∧e 9=aB (i:Nat)∧aA (nZ k r c w ps kd ver i=none)) ps.length ⟨0,by omega,rfl,rfl,rfl,rfl,rfl,⟨rfl⟩⟩ ?_;rintro q e m ⟨i,Y,F,K,J,M,E,hJ⟩;replace Y:=aA.mk Y;by_cases X:i < ps.length
 ·have z:((i:Nat):Int) < ((ps.length:Nat):Int):=by omega
  have wi:=cB (n:=i) (by have:=hn.out;omega);obtain ⟨p,G⟩:∃ p,ps[i]? = some p:=⟨_,azm X⟩
  have S:ps.getD i ([],[])=p:=by rw [azs,G];rfl
  have g:nZ k r c w ps kd ver (i+1)=rZ k r c w p (i:Nat) kd ver:=by
   show (nZ k r c w ps kd ver i).or _=_;rw [hJ.out,S];rfl
  have A:∀ l,rZ k r c w p (i:Nat) kd ver=some l→T=some l:=fun l h=>by
   rw [←x.out];exact afJ (g.trans h) _ (by omega)
  have y:∀ b:Nat,b < 2→(∀ j,j < b→iT k r c w (sel p j) (i:Nat) kd ver=false)→iT k r c w (sel p b) (i:Nat) kd ver=true→T=some (bN k r (sel p b)).vec:=fun b V o s=>A _ (by
   unfold rZ;obtain rfl | rfl:b=0∨b=1:=by omega
   ·have s:iT k r c w p.1 (i:Nat) kd ver=true:=s;rw [if_pos s];rfl
   ·have o:iT k r c w p.1 (i:Nat) kd ver=false:=o 0 (by omega);have s:iT k r c w p.2 (i:Nat) kd ver=true:=s;rw [if_neg (by rw [o];decide),if_pos s];rfl)
  have t:(∀ j,j < 2→iT k r c w (sel p j) (i:Nat) kd ver=false)→nZ k r c w ps kd ver (i+1)=none:=fun o=>by
   rw [g];unfold rZ;have s:iT k r c w p.1 (i:Nat) kd ver=false:=o 0 (by omega);have h3:iT k r c w p.2 (i:Nat) kd ver=false:=o 1 (by omega);rw [if_neg (by rw [s];decide),if_neg (by rw [h3];decide)]
  have U:=fun b V=>O.out G (i:Nat) b V
  clear g A;replace U:=aA.mk U;replace G:=aA.mk G;replace S:=aA.mk S;replace y:=aA.mk y;replace t:=aA.mk t;simp only [↓pre,za,qU,oH,simprocAttr,bne,F,E,z,W.rd.len'];rw [bS];refine bU (fun q2 e m=>∃ b,q2+b=2∧e 1=v∧e 2 = .val (.int .u8 kd)∧e 3=aB ver∧e 4 = .tptr 0 [aB k,aB r,aB c,aB w]∧e 9=aB (i:Nat)∧e 10=aB (b:Nat)∧aA (∀ j,j < b→iT k r c w (sel p j) (i:Nat) kd ver=false)) 2 ⟨0,by omega,F,K,J,M,E,rfl,⟨fun j hj=>by omega⟩⟩ ?_;clear F K J M E;rintro u e m ⟨b,f,F,K,J,M,E,C,Q⟩;replace f:=aA.mk f;by_cases R:b < 2
  ·have L:((b:Nat):Int) < 2:=by omega
   have wk:=cB (n:=b) (by omega);obtain ⟨vi,a0,a2,a1,i0,ce,st,vv,dv,I,D⟩:=U.out b R;obtain ⟨n1,y1,g1⟩:=D.r1;obtain ⟨n2,y2,g2⟩:=D.r2;have Z:=bW g1;have f2:=bW g2;have q1:=bR g1;have q2:=bR g2;have t1:=dB g1;have t2:=dB g2;have a:=axG k r c w (sel p b) (i:Nat) kd ver;have P:=D.is;have hR:=fun o s=>y.out b R o s
   have d:iT k r c w (sel p b) (i:Nat) kd ver=false→∀ j,j < b+1→iT k r c w (sel p j) (i:Nat) kd ver=false:=fun h j hj=>by
    by_cases e:j=b
    ·subst e;exact h
    ·exact Q.out j (by omega)
   simp only [aB] at I;generalize eF k r c w (sel p b) (i:Nat)=B at *
   generalize iT k r c w (sel p b) (i:Nat) kd ver=H at *
   replace P:=aA.mk P;replace hR:=aA.mk hR;replace d:=aA.mk d;replace D:=aA.mk D;simp only [↓pre,zaj,qU,oH,simprocAttr,bne,F,M,E,C,L,W.rd.addr',X,R,a0];cases B with
   | false =>
    rw [aB3] at a;replace a:=aA.mk a
    (first | refine aI (I) (by first | rfl | simp only [aC,aE, *]) ?_ | refine aH (I) (by first | rfl | simp only [aE, *]) (by intro k;first | rfl | simp only [ *,zaa]) ?_);simp only [↓pre,zad,qU,oH,bD,simprocAttr,bne]
    refine oO (by kernel_rfl) ?_;simp only [↓pre,za,qU,oH,simprocAttr,bne,aS,Z,f2];refine cX (by kernel_rfl) ?_;simp only [↓pre,zad,oH,simprocAttr,bne,F,K,J,M,E,C,wk];exact ⟨u - 1,by have:=f.out;omega,b+1,by have:=f.out;omega,rfl,⟨d.out a.out⟩⟩
   | true =>
    obtain ⟨u1,u2,u3,u4,_⟩:=P.out rfl;rw [aBk,←u1,←u3] at a;replace u1:=aA.mk u1;replace u2:=aA.mk u2;replace u3:=aA.mk u3;replace u4:=aA.mk u4;by_cases o:a1=kd
    ·by_cases s:st=ver
     ·rw [decide_eq_true o,decide_eq_true s] at a;replace a:=aA.mk a
      (first | refine aI (I) (by first | rfl | simp only [aC,aE, *]) ?_ | refine aH (I) (by first | rfl | simp only [aE, *]) (by intro k;first | rfl | simp only [ *,zaa]) ?_);simp only [↓pre,zad,qU,oH,bD,simprocAttr,bne,o,s]
      refine oO (by kernel_rfl) ?_;simp only [↓pre,za,qU,oH,simprocAttr,bne,aS,Z,f2];refine cX (by kernel_rfl) ?_;simp only [↓pre,za,qU,oH,simprocAttr,bne,K,J];exact ⟨0,by rw [hR.out Q.out a.out,←u4.out];exact ada g1⟩
     ·rw [decide_eq_true o,decide_eq_false s] at a;replace a:=aA.mk a
      (first | refine aI (I) (by first | rfl | simp only [aC,aE, *]) ?_ | refine aH (I) (by first | rfl | simp only [aE, *]) (by intro k;first | rfl | simp only [ *,zaa]) ?_);simp only [↓pre,zad,qU,oH,bD,simprocAttr,bne,o]
      refine oO (by kernel_rfl) ?_;simp only [↓pre,za,qU,oH,simprocAttr,bne,aS,Z,f2];refine cX (by kernel_rfl) ?_;simp only [↓pre,za,qU,oH,simprocAttr,bne,F,K,J,M,E,C,s,wk];exact ⟨u - 1,by have:=f.out;omega,b+1,by have:=f.out;omega,rfl,⟨d.out a.out⟩⟩
    ·rw [decide_eq_false o,aB3] at a;replace a:=aA.mk a
     (first | refine aI (I) (by first | rfl | simp only [aC,aE, *]) ?_ | refine aH (I) (by first | rfl | simp only [aE, *]) (by intro k;first | rfl | simp only [ *,zaa]) ?_);simp only [↓pre,zad,qU,oH,bD,simprocAttr,bne]
     refine oO (by kernel_rfl) ?_;simp only [↓pre,za,qU,oH,simprocAttr,bne,aS,Z,f2];refine cX (by kernel_rfl) ?_;simp only [↓pre,za,qU,oH,simprocAttr,bne,F,K,J,M,E,C,o,wk];exact ⟨u - 1,by have:=f.out;omega,b+1,by have:=f.out;omega,rfl,⟨d.out a.out⟩⟩
  ·have L:¬ ((b:Nat):Int) < 2:=by omega
   have V:b=2:=by have:=f.out;omega
   subst V;have N:=t.out Q.out;replace N:=aA.mk N;simp only [↓pre,zad,oH,simprocAttr,bne,F,K,J,M,E,C,wi];exact ⟨q - 1,by have:=Y.out;omega,i+1,by have:=Y.out;omega,rfl,N⟩
 ·have z:¬ ((i:Nat):Int) < ((ps.length:Nat):Int):=by omega
  have hi:i=ps.length:=by have:=Y.out;omega
  have hT:T=none:=by rw [←x.out];unfold dZ;rw [←hi];exact hJ.out
  subst hT;simp only [↓pre,za,qU,oH,simprocAttr,bne,F,E,z,W.rd.len'];exact ⟨0,by unfold jZ aW;rw [gU]⟩
theorem axH (k r c w:Int) (p:aO) (ix kd ver:Int):(xP k r c w p ix kd ver = -1∧kA k r c w p ix kd ver=[])∨∃ d:Nat,d < 2∧xP k r c w p ix kd ver=(d:Nat)∧eF k r c w (sel p d) ix=true∧kA k r c w p ix kd ver=(bN k r (sel p d)).data∧((kA k r c w p ix kd ver).length:Int)=c:=by
 have hs:∀ bs,eX k r c w bs ix kd ver=true→eF k r c w bs ix=true:=fun bs h=>by
  rw [ai4,aAq] at h;exact h.1
 have e:∀ s,nE k r c w p ix kd ver=some s→((kA k r c w p ix kd ver).length:Int)=c:=fun s h=>(afL h).1
 unfold xP;by_cases a:eX k r c w p.1 ix kd ver=true
 ·refine .inr ⟨0,by omega,by rw [if_pos a];rfl,hs _ a, ?_,e (dW k r c w p.1) (by unfold nE;rw [if_pos a])⟩;unfold kA;rw [if_pos a];rfl
 ·by_cases b:eX k r c w p.2 ix kd ver=true
  ·refine .inr ⟨1,by omega,by rw [if_neg a,if_pos b];rfl,hs _ b, ?_,e (dW k r c w p.2) (by unfold nE;rw [if_neg a,if_pos b])⟩;unfold kA;rw [if_neg a,if_pos b];rfl
  ·refine .inl ⟨by rw [if_neg a,if_neg b], ?_⟩;unfold kA;rw [if_neg a,if_neg b]
theorem axI (T:Option (List Int)):aT (jZ T) (T.getD []).length (bJ (T.getD [])++[]):=by
 cases T with
 | none=>exact ⟨.inl ⟨rfl,rfl⟩⟩
 | some l=>rw [aBl];exact kP _ _ _
def xQ:Nat→Bool:=fun d=>d != 15
set_option maxHeartbeats 1000000 in
theorem ap8 (k r c w kd ver:Int) (v:AV) (ps:List aO) (cells:List AV) (V:dG v ps cells) (hm:bG k r c w=true) (hr:dE k r c ps=true):aQ ayU 146 [aC k r c w,v,.val (.int .u8 kd),aB ver] ⟨.tup [.tree ps.length ps.length (fB (eR k r c w ps kd ver) ps.length) true,aB (jF k r c w ps kd ver:Nat)],[]⟩:=by
 refine gA ?_;have hp:=V.rd.plain;have a0:=fG hm;obtain ⟨hl,b1⟩:=qR hr;have y:=adJ k r c w ps kd ver;have h0:=ai5 k r c w kd ver v ps cells V hm (by omega);have hN:ps.length≤16:=by omega
 have c2:1≤ps.length:=by omega
 have P:(dZ k r c w ps kd ver).getD []=[]∨((dZ k r c w ps kd ver).getD []).length=ps.length:=by
  cases W:dZ k r c w ps kd ver with
  | none=>exact .inl rfl
  | some l=>exact .inr (by have:=(aaw W).1;simp only [aAE];omega)
 have G:∀ (i:Nat) (p:aO) (n:Int),ps[i]? = some p→((dZ k r c w ps kd ver).getD [])[i]? = some n→(eR k r c w ps kd ver).getD i []=kA k r c w p (i:Nat) kd n:=fun i p n hi hn=>by
  cases W:dZ k r c w ps kd ver with
  | none=>rw [W] at hn;cases hn
  | some l =>
   rw [W] at hn;simp only [aAE] at hn;rw [acv W hi,azs,hn];rfl
 have U:(dZ k r c w ps kd ver).getD []=[]→eR k r c w ps kd ver=aBr ps.length []∨(dZ k r c w ps kd ver=none):=fun h=>by
  cases W:dZ k r c w ps kd ver with
  | none=>exact .inr rfl
  | some l =>
   rw [W] at h;simp only [aAE] at h;have:=(aaw W).1;rw [h] at this;simp at this;omega
 have H:(dZ k r c w ps kd ver).getD []=[]→(∀ n,bP (eR k r c w ps kd ver) n=[]):=fun h n=>by
  rcases U h with h | h
  ·unfold bP;rw [List.filter_eq_nil_iff];intro a _;rw [h,azs,List.getElem?_replicate];split <;> simp
  ·exact aiw h n
 have A:=axI (dZ k r c w ps kd ver);generalize c6:(dZ k r c w ps kd ver).getD []=M at *
 generalize jZ (dZ k r c w ps kd ver)=LV at *
 have c0:=fun m=>ail m (n:=ps.length) (by omega)
 have b3:(k+r).toNat=ps.length:=by omega
 unfold jF;rw [b3];have c1:∀ i p,ps[i]? = some p→∀ (n:Int) (a:AV),cells[i*2]? = some a→True:=fun _ _ _ _ _ _=>trivial
 clear c1 U;generalize c4:eR k r c w ps kd ver=T at *
 have s0:=dB A;have X:=fun {i p} h ix kk hk=>ap7 (k:=k) (r:=r) (c:=c) (w:=w) V hm (i:=i) (p:=p) h ix kk hk
 have K:∀ i,i≤ps.length→(∀ j,i≤j→j < ps.length→T.getD j []=[])→fB T i=fB T ps.length∧bP T i=bP T ps.length:=fun i hi h=>by
  constructor
  ·refine aiv fun j hj => ?_
   by_cases s:j < i
   ·rw [if_pos s,if_pos (by omega)]
   ·rw [if_neg s,if_pos (by omega),h j (by omega) (by omega)];rfl
  ·obtain ⟨d,hd⟩:∃ d,ps.length=i+d:=⟨ps.length - i,by omega⟩
   rw [hd];have:∀ e,e≤d→bP T (i+e)=bP T i:=fun e=>by
    induction e with
    | zero=>exact fun _=>rfl
    | succ e ih =>
     intro he;rw [←Nat.add_assoc,yT,ih (by omega),h (i+e) (by omega) (by omega)];simp
   exact (this d (aza _)).symm
 have C:M=[]→∀ j,T.getD j []=[]:=fun h j=>by
  by_cases hj:j < ps.length
  ·have:=H h (j+1);rw [yT] at this;by_cases t:(T.getD j []).length≠0
   ·rw [if_pos t] at this;simp at this
   ·exact az1 (by omega)
  ·rw [azs,ay6 (by omega)];rfl
 have b9:fB T 0=(List.range ps.length).map fun _=>aW:=by unfold fB;rw [y];apply List.map_congr_left;intro j _;rw [if_neg (by omega)]
 replace X:=aA.mk @X;replace y:=aA.mk y;replace a0:=aA.mk a0;replace b1:=aA.mk b1;replace P:=aA.mk P;replace G:=aA.mk G;replace H:=aA.mk H;replace K:=aA.mk K;replace C:=aA.mk C;replace hl:=aA.mk hl;have a8:¬ (0:Int) ≤ -1:=by decide
 refine bV Tryz.func146 xQ (h:=?_);unfold Tryz.f146;simp only [↓pre,za,aag,xQ,simprocAttr,aC,bne,c0,V.rd.len']
 (first | refine aI (h0) (by first | rfl | simp only [aE, *]) ?_ | refine aH (h0) (by first | rfl | simp only [aC,aE, *]) (by intro k;first | rfl | simp only [ *,zaa]) ?_);simp only [↓pre,simprocAttr,sx,aG,s0]
 rw [bS];refine bU (fun q e m=>∃ i,q+i=M.length∧e 1=v∧e 2 = .val (.int .u8 kd)∧e 4 = .tptr 0 [aB k,aB r,aB c,aB w]∧e 10 = .sl 0 0 ps.length ps.length true∧e 11=LV∧e 12=aB ((bP T i).length:Nat)∧e 13=aB (i:Nat)∧aA (m.at_ 0=some ⟨fB T i,52,.var,true⟩∧0 < m.next)) M.length ⟨0,by omega,rfl,rfl,rfl,rfl,rfl,rfl,rfl,⟨by rw [cF,if_pos aX.symm,b9],by rw [cQ];omega⟩⟩ ?_;rintro q e m ⟨i,Z,e1,e2,e4,Y,I,N,u,hJ⟩;replace Z:=aA.mk Z;have b6:¬ 0=m.next:=by have:=hJ.out.2;omega
 have a5:=hJ.out.1;by_cases E:i < M.length
 ·have o:((i:Nat):Int) < ((M.length:Nat):Int):=by omega
  have b0:M.length=ps.length:=by
   rcases P.out with h | h
   ·rw [h] at E;exact absurd E (by simp)
   ·exact h
  have wi:=cB (n:=i) (by omega);have L:i < ps.length:=by omega
  obtain ⟨p,B⟩:∃ p,ps[i]? = some p:=⟨_,azm L⟩
  obtain ⟨z,hz⟩:∃ z,M[i]? = some z:=⟨_,azm E⟩
  obtain ⟨a,b,xa,xb,ha,hb,R,O⟩:=V.at_ i p B;obtain ⟨ht,b2⟩:=qX ha hb;have F:=G.out i p z B hz;have a4:=nU (x:=[]) hz;rw [aBl] at a4;have hH:=ap6 k r c w kd (i:Nat) z a b p xa xb R O hm;have g:=yT T i;have a9:=afB T i;have w2:=cB (n:=(bP T i).length) (by omega);have a2:=fun kk hk=>X.out B (i:Nat) kk hk
  have b4:i < T.length:=by have:=y.out;omega
  have f:=aoG b4;have b7:i+1≤(fB T i).length:=by rw [adL];omega
  have a1:T.getD i []=[]→fB T i=fB T (i+1):=fun hD=>aiv fun j hj=>by
   by_cases e:j=i
   ·subst e;rw [if_neg (by omega),if_pos (by omega),hD];rfl
   ·by_cases e2:j < i
    ·rw [if_pos e2,if_pos (by omega)]
    ·rw [if_neg e2,if_neg (by omega)]
  have pa:=R.plain;have pb:=O.plain;have fa:=bW R;have fb:=bW O;have oa:=bR R;have ob:=bR O;simp only [aB] at hH;replace a1:=aA.mk a1;replace a2:=aA.mk a2;replace B:=aA.mk B;replace hz:=aA.mk hz;replace b0:=aA.mk b0;replace a9:=aA.mk a9;replace y:=aA.mk y;replace F:=aA.mk F;rcases axH k r c w p (i:Nat) kd z with ⟨s,t⟩ | ⟨kk,a7,s,t,h3,h4⟩
  ·rw [s] at hH;have hD:=F.out.trans t;have a6:=a1.out hD;rw [hD,if_neg (by simp),aBl] at g;replace g:=aA.mk g;replace hD:=aA.mk hD;replace s:=aA.mk s;replace t:=aA.mk t;replace f:=aA.mk f;replace a6:=aA.mk a6;simp only [↓pre,za,aag,xQ,simprocAttr,bne,e1,e2,e4,I,u,V.rd.addr',L,ht,b2,o,A.len',A.addr',E,a4]
   (first | refine aI (hH) (by first | rfl | simp only [aC,aE, *]) ?_ | refine aH (hH) (by first | rfl | simp only [aE, *]) (by intro k;first | rfl | simp only [ *,zaa]) ?_);simp only [↓pre,zad,xQ,simprocAttr,bne,e1,e2,e4,Y,I,N,u,a8,wi]
   exact ⟨q - 1,by have:=Z.out;omega,i+1,by have:=Z.out;omega,by rw [g.out],rfl,⟨by rw [a5,a6.out],hJ.out.2⟩⟩
  ·rw [s] at hH;have Q:(T.getD i []).length≠0:=by rw [F.out];have:=a0.out;omega
   rw [if_pos Q] at g;have J:(bP T (i+1)).length=(bP T i).length+1:=by rw [g,aA2];rfl
   obtain ⟨vi,b5,c5,c3,i0,ce,st,vv,dv,hO,S⟩:=a2.out kk a7;obtain ⟨n1,y1,g1⟩:=S.r1;obtain ⟨u1,u2,u3,u4,u5⟩:=S.is t;replace u1:=aA.mk u1;replace u2:=aA.mk u2;replace u3:=aA.mk u3;replace u4:=aA.mk u4;rw [t] at hO;rw [←h3,←F.out] at u5;subst u5;have a3:jA (T.getD i []) = .tree (T.getD i []).length (T.getD i []).length (aJ (T.getD i [])) false:=by unfold jA;rw [if_neg Q]
   rw [a3] at f;unfold cH at f;simp only [zak,Nat.zero_add] at f;generalize T.getD i []=D at *
   have f1:=bW g1;have q1:=bR g1;have t1:=dB g1;have b8:(0:Int)≤((kk:Nat):Int):=by omega
   simp only [aB] at hO;replace g:=aA.mk g;replace J:=aA.mk J;replace S:=aA.mk S;replace s:=aA.mk s;replace t:=aA.mk t;replace h3:=aA.mk h3;replace h4:=aA.mk h4;replace a3:=aA.mk a3;replace Q:=aA.mk Q;replace hJ:=aA.mk hJ;simp only [↓pre,za,aag,xQ,simprocAttr,bne,e1,e2,e4,I,u,V.rd.addr',L,ht,b2,o,A.len',A.addr',E,a4]
   (first | refine aI (hH) (by first | rfl | simp only [aC,aE, *]) ?_ | refine aH (hH) (by first | rfl | simp only [aE, *]) (by intro k;first | rfl | simp only [ *,zaa]) ?_);simp only [↓pre,zaj,aag,xQ,simprocAttr,bne,e1,e4,u,V.rd.addr',L,b8,a7,b5]
   (first | refine aI (hO) (by first | rfl | simp only [aC,aE, *]) ?_ | refine aH (hO) (by first | rfl | simp only [aE, *]) (by intro k;first | rfl | simp only [ *,zaa]) ?_);simp only [↓pre,zad,aag,xQ,bD,simprocAttr,bne]
   refine oO (by kernel_rfl) ?_;simp only [↓pre,za,aag,xQ,simprocAttr,bne,aS,f1];refine cX (by kernel_rfl) ?_;simp only [↓pre,zaj,aag,xQ,simprocAttr,bne,aS,e1,e2,e4,Y,I,N,u,L,b6,a5,b7,f,w2,wi];exact ⟨q - 1,by have:=Z.out;omega,i+1,by have:=Z.out;omega,by rw [J.out],rfl,⟨by simp [cI],by simp [fC]⟩⟩
 ·have o:¬ ((i:Nat):Int) < ((M.length:Nat):Int):=by omega
  have hi:i=M.length:=by have:=Z.out;omega
  obtain ⟨s,t⟩:fB T i=fB T ps.length∧bP T i=bP T ps.length:=by
   rcases P.out with h | h
   ·refine K.out i (by rw [hi,h];simp) fun j _ _=>C.out h j
   ·rw [hi,h];exact ⟨rfl,rfl⟩
  rw [t] at N;replace s:=aA.mk s;replace t:=aA.mk t;simp only [↓pre,za,aag,xQ,simprocAttr,bne,Y,I,N,u,o,A.len'];exact ⟨1,by rw [kH,eC,aey a5 (adF _ (by rw [aBx];intro x hx;unfold fB at hx;obtain ⟨j,_,rfl⟩:=List.mem_map.1 hx;split;exact xI (afM _);exact dK _)),aAk,eC,gU,jI,aBx,s.out];rfl⟩
theorem axJ (T:List (List UInt8)):aT (.tree T.length T.length (fB T T.length) true) T.length (fB T T.length):=kP _ _ _
theorem ap9 (k r c w kd ver:Int) (v:AV) (ps:List aO) (cells:List AV) (A:dG v ps cells) (z:bG k r c w=true) (D:dE k r c ps=true):aQ ayU 204 [aC k r c w,v,.val (.int .u8 kd),aB ver] ⟨wF k r c w ps kd ver,[]⟩:=by
 refine gA ?_;have L:=A.rd.plain;have e:=kW.1 z;have j:=ap8 k r c w kd ver v ps cells A z D;obtain ⟨J,_⟩:=qR D;obtain ⟨K,u⟩:∃ K:Nat,k=(K:Int):=⟨k.toNat,by omega⟩
 obtain ⟨R,s⟩:∃ R:Nat,r=(R:Int):=⟨r.toNat,by omega⟩
 obtain ⟨C,q⟩:∃ C:Nat,c=(C:Int):=⟨c.toNat,by omega⟩
 have f:(k+r).toNat=K+R:=by omega
 have y:k.toNat=K:=by omega
 have o:c.toNat=C:=by omega
 have p:=adJ k r c w ps kd ver;have d:=aoF k r c w C q ps kd ver;unfold wF;by_cases a:jF k r c w ps kd ver < k.toNat
 ·have b:((jF k r c w ps kd ver:Nat):Int) < k:=by omega
  rw [if_pos a];have n:=kP ps.length (fB (eR k r c w ps kd ver) ps.length) true;have x:=dB n;have g:=fun m=>pE (dK (.slice none 0 0)) (dK (.int .i64 5)) 1 m
  generalize AV.tree ps.length ps.length (fB (eR k r c w ps kd ver) ps.length) true=F at *
  generalize jF k r c w ps kd ver=E at *
  replace g:=aA.mk g;replace e:=aA.mk e;replace d:=aA.mk d;simp only [aB] at j;refine bV Tryz.func204 aD (h:=?_);unfold Tryz.f204;simp only [↓pre,zab,ae2,simprocAttr,aC,aW]
  (first | refine aI (j) (by first | rfl | simp only [aE, *]) ?_ | refine aH (j) (by first | rfl | simp only [aC,aE, *]) (by intro k;first | rfl | simp only [ *,zaa]) ?_);simp only [↓pre,zac,ae2,simprocAttr,x,b]
  exact ⟨1,g.out _⟩
 ·have b:¬ ((jF k r c w ps kd ver:Nat):Int) < k:=by omega
  rw [if_neg a];have l:=axF (.tree ps.length ps.length (fB (eR k r c w ps kd ver) ps.length) true) K R C (eR k r c w ps kd ver) _ (aoH _ _ (by have:=axJ (eR k r c w ps kd ver);rw [p] at this ⊢;exact this)) (by omega) d (by omega) (by omega) (by omega) (by omega) (by omega) (by unfold jF at a;rw [f] at a;omega);have t:aco K ((bP (eR k r c w ps kd ver) (K+R)).take K) (gI (eR k r c w ps kd ver))=iZ k r c w ps kd ver:=by unfold iZ;rw [f,y]
  rw [t,←u,←s] at l;rw [f,o];have i:bE (K+R) (dJ C (iZ k r c w ps kd ver) 0 (K+R)) = .tree (K+R) (K+R) (dJ C (iZ k r c w ps kd ver) 0 (K+R)) false:=by unfold bE;rw [if_neg (by omega)]
  rw [i];have n:=kP ps.length (fB (eR k r c w ps kd ver) ps.length) true;have x:=dB n;have I:=n.plain;have B:=kP (K+R) (dJ C (iZ k r c w ps kd ver) 0 (K+R)) false;have G:=dB B;have g:=fun m=>pE (xI B) (dK (.int .i64 0)) 1 m
  generalize AV.tree ps.length ps.length (fB (eR k r c w ps kd ver) ps.length) true=F at *
  generalize AV.tree (K+R) (K+R) (dJ C (iZ k r c w ps kd ver) 0 (K+R)) false=H at *
  generalize jF k r c w ps kd ver=E at *
  replace g:=aA.mk g;replace e:=aA.mk e;replace d:=aA.mk d;replace t:=aA.mk t;replace i:=aA.mk i;replace u:=aA.mk u;replace s:=aA.mk s;replace q:=aA.mk q;replace a:=aA.mk a;simp only [aB] at j l;refine bV Tryz.func204 aD (h:=?_);unfold Tryz.f204;simp only [↓pre,zab,ae2,simprocAttr,aC]
  (first | refine aI (j) (by first | rfl | simp only [aE, *]) ?_ | refine aH (j) (by first | rfl | simp only [aC,aE, *]) (by intro k;first | rfl | simp only [ *,zaa]) ?_);simp only [↓pre,zac,ae2,simprocAttr,x,b]
  (first | refine aI (l) (by first | rfl | simp only [aE, *]) ?_ | refine aH (l) (by first | rfl | simp only [aC,aE, *]) (by intro k;first | rfl | simp only [ *,zaa]) ?_);simp only [↓pre,zab,simprocAttr,G]
  exact ⟨1,g.out _⟩
theorem axK (k r c w kd ver:Int) (v:AV) (ps:List aO) (cells:List AV) (V:dG v ps cells) (O:bG k r c w=true) (hr:dE k r c ps=true):aQ ayU 116 [aC k r c w,v,.val (.int .u8 kd),aB ver] ⟨acx k r c w ps kd ver,[]⟩:=by
 refine gA ?_;have hp:=V.rd.plain;have g:=ap9 k r c w kd ver v ps cells V O hr;have o:=kW.1 O;have hw:=kJ O;unfold acx;unfold wF at g;by_cases j:jF k r c w ps kd ver < k.toNat
 ·rw [if_pos j] at g ⊢;have P:=fun m=>pE (dK (.slice none 0 0)) (dK (.int .i64 5)) 1 m
  replace P:=aA.mk P;simp only [aW] at g;refine bV Tryz.func116 aD (h:=?_);unfold Tryz.f116;simp only [↓pre,zab,aeU,simprocAttr,aC,aW]
  (first | refine aI (g) (by first | rfl | simp only [aE, *]) ?_ | refine aH (g) (by first | rfl | simp only [aC,aE, *]) (by intro k;first | rfl | simp only [ *,zaa]) ?_);simp only [↓pre,zac,simprocAttr]
  exact ⟨1,P.out _⟩
 ·rw [if_neg j] at g ⊢;obtain ⟨K,hK⟩:∃ K:Nat,k=(K:Int):=⟨k.toNat,by omega⟩
  obtain ⟨C,hC⟩:∃ C:Nat,c=(C:Int):=⟨c.toNat,by omega⟩
  have u:k.toNat=K:=by omega
  have t:c.toNat=C:=by omega
  have a4:K≤(k+r).toNat:=by omega
  rw [u,t];rw [t] at g;have x:=eQ (k+r).toNat (dJ C (iZ k r c w ps kd ver) 0 (k+r).toNat);have p:=aiy k r c w ps kd ver;have l:=afN k r c w ps kd ver;rw [t] at p l;have f:=fun i (h:i < (k+r).toNat)=>aat (L:=C) (F:=iZ k r c w ps kd ver) (a:=0) h
  have E:k*c=((K*C:Nat):Int):=by rw [hK,hC];simp
  have a0:K*C≤768:=by omega
  have X:32≤K*C:=by omega
  have a2:=x.plain;have s1:=dB x;generalize bE (k+r).toNat (dJ C (iZ k r c w ps kd ver) 0 (k+r).toNat)=WV at *
  generalize iZ k r c w ps kd ver=W at *
  generalize wG k r c w ps kd ver=D at *
  have T:D 0=[]:=az1 (by rw [l];omega);subst hK;simp only [aB] at g;replace p:=aA.mk p;replace l:=aA.mk l;replace f:=aA.mk f;replace j:=aA.mk j;replace E:=aA.mk E;replace o:=aA.mk o;replace hw:=aA.mk hw;replace u:=aA.mk u;refine bV Tryz.func116 aD (h:=?_);unfold Tryz.f116;simp only [↓pre,zab,aeU,simprocAttr,aC]
  (first | refine aI (g) (by first | rfl | simp only [aE, *]) ?_ | refine aH (g) (by first | rfl | simp only [aC,aE, *]) (by intro k;first | rfl | simp only [ *,zaa]) ?_);simp only [↓pre,zac,simprocAttr,s1]
  rw [bS];refine bU (fun q e m=>∃ i Q,q+i=K∧e 4 = .tptr 0 [aB ((K:Nat):Int),aB r,aB c,aB w]∧e 10=WV∧e 12=Q∧e 13=aB (i:Nat)∧aA (Own m 5 1 Q (i*C) (aJ (D i)))) K ⟨0,aW,by omega,rfl,rfl,rfl,rfl,⟨by rw [T,Nat.zero_mul];exact gK⟩⟩ ?_;rintro q e m ⟨i,Q,M,S,J,N,s,Y⟩;replace M:=aA.mk M;by_cases Z:i < K
  ·have d:((i:Nat):Int) < ((K:Nat):Int):=by omega
   have wi:=cB (n:=i) (by have:=o.out;omega);have G:i < (((K:Nat):Int)+r).toNat:=by omega
   have B:=f.out i G;rw [Nat.zero_add] at B;have a1:i*C+C≤768:=by
    have:(i+1)*C≤K*C:=Nat.mul_le_mul_right _ (by omega);rw [Nat.add_mul,Nat.one_mul] at this;omega
   have a3:8≤C:=by have:=o.out;omega
   have H:∀ m:aF,eM ayU 5 1 m (.tree C C (aR C (W i)) true)=some (aR C (W i),C):=fun m=>by
    rw [abQ (by rw [fW];omega),azG,aBa (by rw [fW];omega)]
   have R:=p.out i;simp only [↓pre,zae,aeU,simprocAttr,S,J,N,s,d,x.addr',G,B];refine nP (kd := .flat) (sz:=1) (y:=1) (zl:=[.int .u8 0]) (by kernel_rfl) Y.out (by kernel_rfl) (by kernel_rfl) (by kernel_rfl) rfl (H m) (by rw [fW,azG]) (by omega) (by omega) ?_;intro I m' A a5;have z:Own m' 5 1 I ((i+1)*C) (aJ (D (i+1))):=by
    rw [R,qH,Nat.add_mul,Nat.one_mul];exact A
   replace z:=aA.mk z;clear A;simp only [↓pre,zab,simprocAttr,S,J,s,wi];exact ⟨q - 1,by have:=M.out;omega,i+1,I,by have:=M.out;omega,rfl,rfl,z⟩
  ·have d:¬ ((i:Nat):Int) < ((K:Nat):Int):=by omega
   have hi:i=K:=by have:=M.out;omega
   subst hi;obtain ⟨b,rfl,hb,_⟩:=Y.out.sl (by omega);have U:bE (i*C) (aJ (D i)) = .tree (i*C) (i*C) (aJ (D i)) false:=by unfold bE;rw [if_neg (by omega)]
   rw [U];simp only [↓pre,zac,aeU,simprocAttr,S,N,s,d];exact ⟨1,by rw [kH,eC,wW hb,aAk,eC,gU,jI,aBx];rfl⟩
theorem ai6 (k r c w n:Int):aQ ayU 312 [aC k r c w,aB n] ⟨aB (oE k r c w n),[]⟩:=by
 have a:=adr k r c w;unfold oE;cases f:bG k r c w with
 | false =>
  rw [f] at a;simp only [Bool.false_eq_true,if_false];refine aV Tryz.func312 aD (h:=?_);unfold Tryz.f312;simp only [↓pre,zab,acb,simprocAttr,aC]
  (first | refine aI (a) (by first | rfl | simp only [aC,aE, *]) ?_ | refine aH (a) (by first | rfl | simp only [aC,aE, *]) (by intro k;first | rfl | simp only [ *,zaa]) ?_);simp only [↓pre,zac,simprocAttr]
 | true =>
  have e:=amY k r c w f;rw [f] at a;simp only [if_true];by_cases b:n < 0
  ·simp only [b,if_true];refine aV Tryz.func312 aD (h:=?_);unfold Tryz.f312;simp only [↓pre,zab,acb,simprocAttr,aC]
   (first | refine aI (a) (by first | rfl | simp only [aC,aE, *]) ?_ | refine aH (a) (by first | rfl | simp only [aC,aE, *]) (by intro k;first | rfl | simp only [ *,zaa]) ?_);simp only [↓pre,zac,simprocAttr,b]
  ·by_cases d:mI k c < n
   ·simp only [b,d,if_true,if_false];refine aV Tryz.func312 aD (h:=?_);unfold Tryz.f312;simp only [↓pre,zab,acb,simprocAttr,aC]
    (first | refine aI (a) (by first | rfl | simp only [aC,aE, *]) ?_ | refine aH (a) (by first | rfl | simp only [aC,aE, *]) (by intro k;first | rfl | simp only [ *,zaa]) ?_);simp only [↓pre,zac,acb,simprocAttr,b];(first | refine aI (e) (by first | rfl | simp only [aC,aE, *]) ?_ | refine aH (e) (by first | rfl | simp only [aC,aE, *]) (by intro k;first | rfl | simp only [ *,zaa]) ?_);simp only [↓pre,zac,simprocAttr,d]
   ·simp only [b,d,if_false];refine aV Tryz.func312 aD (h:=?_);unfold Tryz.f312;simp only [↓pre,zab,acb,simprocAttr,aC]
    (first | refine aI (a) (by first | rfl | simp only [aC,aE, *]) ?_ | refine aH (a) (by first | rfl | simp only [aC,aE, *]) (by intro k;first | rfl | simp only [ *,zaa]) ?_);simp only [↓pre,zac,acb,simprocAttr,b];(first | refine aI (e) (by first | rfl | simp only [aC,aE, *]) ?_ | refine aH (e) (by first | rfl | simp only [aC,aE, *]) (by intro k;first | rfl | simp only [ *,zaa]) ?_);simp only [↓pre,zac,simprocAttr,d]
theorem ai7 {k r c w n:Int} (h:oE k r c w n=0):bG k r c w=true∧0≤n∧n≤mI k c:=by
 unfold oE at h;split at h
 ·rename_i a;split at h
  ·omega
  ·split at h
   ·omega
   ·exact ⟨a,by omega,by omega⟩
 ·omega
theorem axL (k r c w n:Int):aQ ayU 262 [aC k r c w,aB n] ⟨.tup [aB (oS k r c w n),aB (oE k r c w n)],[]⟩:=by
 have a:=ai6 k r c w n;unfold oS;by_cases h:oE k r c w n=0
 ·obtain ⟨e,f,b⟩:=ai7 h;have d:=ahH k r c w n e f b;rw [h] at a ⊢;rw [if_pos rfl];clear h;refine aV Tryz.func262 aD (h:=?_);unfold Tryz.f262;simp only [↓pre,zab,ahz,simprocAttr,aC,eq_self]
  (first | refine aI (a) (by first | rfl | simp only [aC,aE, *]) ?_ | refine aH (a) (by first | rfl | simp only [aC,aE, *]) (by intro k;first | rfl | simp only [ *,zaa]) ?_);simp only [↓pre,zab,ahz,gH,simprocAttr,eq_self];(first | refine aI (d) (by first | rfl | simp only [aC,aE, *]) ?_ | refine aH (d) (by first | rfl | simp only [aC,aE, *]) (by intro k;first | rfl | simp only [ *,zaa]) ?_);simp only [↓pre,zab,simprocAttr,eq_self]
 ·rw [if_neg h];refine aV Tryz.func262 aD (h:=?_);unfold Tryz.f262;simp only [↓pre,zab,ahz,simprocAttr,aC,eq_self]
  (first | refine aI (a) (by first | rfl | simp only [aC,aE, *]) ?_ | refine aH (a) (by first | rfl | simp only [aC,aE, *]) (by intro k;first | rfl | simp only [ *,zaa]) ?_);simp only [↓pre,zab,jP,simprocAttr,eq_self,h]
theorem axM (k r c w n:Int):aQ ayU 263 [aC k r c w,aB n] ⟨.tup [aB (min (oF k r c w n) 1),aB (oE k r c w n)],[]⟩:=by
 have a:=ai6 k r c w n;unfold oF;by_cases h:oE k r c w n=0
 ·obtain ⟨e,f,b⟩:=ai7 h;have d:=ahH k r c w n e f b;rw [h] at a ⊢;rw [if_pos rfl];clear h;refine aV Tryz.func263 aD (h:=?_);unfold Tryz.f263;simp only [↓pre,zab,ahA,simprocAttr,aC,eq_self]
  (first | refine aI (a) (by first | rfl | simp only [aC,aE, *]) ?_ | refine aH (a) (by first | rfl | simp only [aC,aE, *]) (by intro k;first | rfl | simp only [ *,zaa]) ?_);simp only [↓pre,zab,ahA,gH,simprocAttr,eq_self];(first | refine aI (d) (by first | rfl | simp only [aC,aE, *]) ?_ | refine aH (d) (by first | rfl | simp only [aC,aE, *]) (by intro k;first | rfl | simp only [ *,zaa]) ?_);simp only [↓pre,zab,simprocAttr,eq_self]
 ·rw [if_neg h,show min (0:Int) 1=0 from rfl];refine aV Tryz.func263 aD (h:=?_);unfold Tryz.f263;simp only [↓pre,zab,ahA,simprocAttr,aC,eq_self]
  (first | refine aI (a) (by first | rfl | simp only [aC,aE, *]) ?_ | refine aH (a) (by first | rfl | simp only [aC,aE, *]) (by intro k;first | rfl | simp only [ *,zaa]) ?_);simp only [↓pre,zab,jP,simprocAttr,eq_self,h]
theorem axN (k r c w n:Int):aQ ayU 264 [aC k r c w,aB n] ⟨.tup [aB (oF k r c w n),aB (oE k r c w n)],[]⟩:=by
 have a:=ai6 k r c w n;unfold oF;by_cases h:oE k r c w n=0
 ·obtain ⟨e,f,b⟩:=ai7 h;have d:=ahH k r c w n e f b;rw [h] at a ⊢;rw [if_pos rfl];clear h;refine aV Tryz.func264 aD (h:=?_);unfold Tryz.f264;simp only [↓pre,zab,ahB,simprocAttr,aC,eq_self]
  (first | refine aI (a) (by first | rfl | simp only [aC,aE, *]) ?_ | refine aH (a) (by first | rfl | simp only [aC,aE, *]) (by intro k;first | rfl | simp only [ *,zaa]) ?_);simp only [↓pre,zab,ahB,gH,simprocAttr,eq_self];(first | refine aI (d) (by first | rfl | simp only [aC,aE, *]) ?_ | refine aH (d) (by first | rfl | simp only [aC,aE, *]) (by intro k;first | rfl | simp only [ *,zaa]) ?_);simp only [↓pre,zab,simprocAttr,eq_self]
 ·rw [if_neg h];refine aV Tryz.func264 aD (h:=?_);unfold Tryz.f264;simp only [↓pre,zab,ahB,simprocAttr,aC,eq_self]
  (first | refine aI (a) (by first | rfl | simp only [aC,aE, *]) ?_ | refine aH (a) (by first | rfl | simp only [aC,aE, *]) (by intro k;first | rfl | simp only [ *,zaa]) ?_);simp only [↓pre,zab,jP,simprocAttr,eq_self,h]
theorem axO (k r c w:Int) (x:cC):aQ ayU 303 [aC k r c w,.agg [aB x.1,aB x.2]] ⟨aZ (tG w x),[]⟩:=by
 have b:tG w x=decide ((0≤x.1∧x.1 < w)∧1≤x.2∧x.2≤1073741824):=rfl;generalize tG w x=B at *
 replace b:=aA.mk b;by_cases d:0≤x.1
 ·by_cases e:x.1 < w
  ·by_cases f:1≤x.2
   ·by_cases g:x.2≤1073741824
    ·have a:B=true:=by rw [b.out];simp;omega
     subst a;refine aV Tryz.func303 aD (h:=?_);unfold Tryz.f303;simp only [↓pre,zac,adn,simprocAttr,aC,d,e,f,g]
    ·have a:B=false:=by rw [b.out];simp;omega
     subst a;refine aV Tryz.func303 aD (h:=?_);unfold Tryz.f303;simp only [↓pre,zac,adn,simprocAttr,aC,d,e,f,g]
   ·have a:B=false:=by rw [b.out];simp;omega
    subst a;refine aV Tryz.func303 aD (h:=?_);unfold Tryz.f303;simp only [↓pre,zac,adn,simprocAttr,aC,d,e,f]
  ·have a:B=false:=by rw [b.out];simp;omega
   subst a;refine aV Tryz.func303 aD (h:=?_);unfold Tryz.f303;simp only [↓pre,zac,adn,simprocAttr,aC,d,e]
 ·have a:B=false:=by rw [b.out];simp;omega
  subst a;refine aV Tryz.func303 aD (h:=?_);unfold Tryz.f303;simp only [↓pre,zac,adn,simprocAttr,aC,d]
theorem axP (k r c w:Int) (v:AV) (l:List cC) (p:qG v l) (N:l.length≤9223372036854775807):aQ ayU 247 [aC k r c w,v] ⟨aZ (wH w l),[]⟩:=by
 obtain ⟨x,p⟩:=p;have O:=p.plain;generalize d:wH w l=B;have u:=fun y=>axO k r c w y
 replace d:=aA.mk d;replace u:=aA.mk u;refine aV Tryz.func247 aD (h:=?_);unfold Tryz.f247;simp only [↓pre,zac,ae3,simprocAttr,aC];rw [bS];refine bU (fun q e m=>∃ i,q+i=l.length∧e 1=v∧e 2 = .tptr 0 [aB k,aB r,aB c,aB w]∧e 5=aB (i:Nat)∧aA (∀ j y,j < i→l[j]? = some y→tG w y=true)) l.length ⟨0,by omega,rfl,rfl,rfl,⟨fun j y h=>by omega⟩⟩ ?_;rintro q e m ⟨i,C,D,G,A,I⟩;replace C:=aA.mk C;by_cases t:i < l.length
 ·have f:((i:Nat):Int) < ((l.length:Nat):Int):=by omega
  have J:=cB (n:=i) (by omega);obtain ⟨y,o⟩:∃ y,l[i]? = some y:=⟨_,azm t⟩
  obtain ⟨M,K⟩:=abe l x i y o;obtain ⟨F,z⟩:=qX M K;have a:=u.out y;simp only [aB] at F a;cases g:tG w y with
  | false =>
   have H:B=false:=by
    rw [←d.out];unfold wH;rw [List.all_eq_false];exact ⟨y,az8 o,by rw [g];decide⟩
   subst H;rw [g] at a;replace g:=aA.mk g;replace o:=aA.mk o;simp only [↓pre,zae,ae3,simprocAttr,D,G,A,f,p.len',p.addr',t,F,z]
   (first | refine aI (a) (by first | rfl | simp only [aC,aE, *]) ?_ | refine aH (a) (by first | rfl | simp only [aC,aE, *]) (by intro k;first | rfl | simp only [ *,zaa]) ?_);simp only [↓pre,zac,simprocAttr]
  | true =>
   have b:∀ j y,j < i+1→l[j]? = some y→tG w y=true:=fun j L E s=>by
    by_cases e:j=i
    ·subst e;rw [o] at s;cases s;exact g
    ·exact I.out j L (by omega) s
   rw [g] at a;replace g:=aA.mk g;replace o:=aA.mk o;replace b:=aA.mk b;simp only [↓pre,zae,ae3,simprocAttr,D,G,A,f,p.len',p.addr',t,F,z]
   (first | refine aI (a) (by first | rfl | simp only [aC,aE, *]) ?_ | refine aH (a) (by first | rfl | simp only [aC,aE, *]) (by intro k;first | rfl | simp only [ *,zaa]) ?_);simp only [↓pre,zac,simprocAttr,D,G,A,J]
   exact ⟨q - 1,by have:=C.out;omega,i+1,by have:=C.out;omega,rfl,b⟩
 ·have f:¬ ((i:Nat):Int) < ((l.length:Nat):Int):=by omega
  have g:B=true:=by
   rw [←d.out];unfold wH;rw [List.all_eq_true];intro y o;obtain ⟨j,E⟩:=List.getElem?_of_mem o;have:=(List.getElem?_eq_some_iff.1 E).1;exact I.out j y (by omega) E
  subst g;simp only [↓pre,zae,ae3,simprocAttr,D,A,f,p.len']
theorem aqa (k r c w len dep:Int) (D:bG k r c w=true) (v:AV) (l:List cC) (p:qG v l) (F:l.length≤9223372036854775807):aQ ayU 207 [aC k r c w,.agg [aB len,aB dep,v]] ⟨aZ (uR k r c w len dep l),[]⟩:=by
 have g:=amY k r c w D;have j:=axL k r c w len;have e:=axM k r c w len;have i:=axN k r c w len;have A:=axP k r c w v l p F;have b:=aiA (n:=len) D;obtain ⟨x,p⟩:=p;have H:=p.plain;have z:=bW p;have G:=bR p;generalize a:uR k r c w len dep l=B;unfold uR at a;have y:oE k r c w len=if len < 0 then 2 else if mI k c < len then 3 else 0:=by unfold oE;rw [if_pos D]
 by_cases o:len < 0
 ·rw [if_pos o] at y;rw [y] at a;simp only [show ¬ (2:Int)=0 by decide,decide_false,aB3] at a;subst a;clear y;refine aV Tryz.func207 aD (h:=?_);unfold Tryz.f207;simp only [↓pre,zac,fE,simprocAttr,aC,z,o]
 ·by_cases t:mI k c < len
  ·rw [if_neg o,if_pos t] at y;rw [y] at a;simp only [show ¬ (3:Int)=0 by decide,decide_false,aB3] at a;subst a;clear y;refine aV Tryz.func207 aD (h:=?_);unfold Tryz.f207;simp only [↓pre,zac,fE,simprocAttr,aC,z,o]
   (first | refine aI (g) (by first | rfl | simp only [aC,aE, *]) ?_ | refine aH (g) (by first | rfl | simp only [aC,aE, *]) (by intro k;first | rfl | simp only [ *,zaa]) ?_);simp only [↓pre,zac,simprocAttr,t]
  ·rw [if_neg o,if_neg t] at y;rw [y] at a;simp only [decide_true,aBk] at a;rw [y] at j e i;clear y;generalize oF k r c w len=f at *
   generalize oS k r c w len=s at *
   generalize wH w l=E at *
   obtain ⟨d,q⟩:∃ d,min f 1=d:=⟨_,rfl⟩
   rw [q] at e a;by_cases C:dep=d
   ·rw [decide_eq_true C.symm,aBk] at a;subst C;by_cases m:dep=1
    ·rw [if_pos m] at a;by_cases u:(l.length:Int)=f
     ·rw [decide_eq_true u,aBk] at a;subst a;replace b:=aA.mk b;replace q:=aA.mk q;cases E with
      | true =>
       refine aV Tryz.func207 aD (h:=?_);unfold Tryz.f207;simp only [↓pre,zac,fE,simprocAttr,aC,z,o]
       (first | refine aI (g) (by first | rfl | simp only [aC,aE, *]) ?_ | refine aH (g) (by first | rfl | simp only [aC,aE, *]) (by intro k;first | rfl | simp only [ *,zaa]) ?_);simp only [↓pre,zac,fE,simprocAttr,t,m];(first | refine aI (j) (by first | rfl | simp only [aC,aE, *]) ?_ | refine aH (j) (by first | rfl | simp only [aC,aE, *]) (by intro k;first | rfl | simp only [ *,zaa]) ?_);simp only [↓pre,zab,fE,simprocAttr];(first | refine aI (e) (by first | rfl | simp only [aC,aE, *]) ?_ | refine aH (e) (by first | rfl | simp only [aC,aE, *]) (by intro k;first | rfl | simp only [ *,zaa]) ?_);simp only [↓pre,zab,fE,simprocAttr,m];(first | refine aI (i) (by first | rfl | simp only [aC,aE, *]) ?_ | refine aH (i) (by first | rfl | simp only [aC,aE, *]) (by intro k;first | rfl | simp only [ *,zaa]) ?_);simp only [↓pre,zae,fE,simprocAttr,u,p.len'];(first | refine aI (A) (by first | rfl | simp only [aE, *]) ?_ | refine aH (A) (by first | rfl | simp only [aC,aE, *]) (by intro k;first | rfl | simp only [ *,zaa]) ?_);simp only [↓pre,zac,simprocAttr]
      | false =>
       refine aV Tryz.func207 aD (h:=?_);unfold Tryz.f207;simp only [↓pre,zac,fE,simprocAttr,aC,z,o]
       (first | refine aI (g) (by first | rfl | simp only [aC,aE, *]) ?_ | refine aH (g) (by first | rfl | simp only [aC,aE, *]) (by intro k;first | rfl | simp only [ *,zaa]) ?_);simp only [↓pre,zac,fE,simprocAttr,t,m];(first | refine aI (j) (by first | rfl | simp only [aC,aE, *]) ?_ | refine aH (j) (by first | rfl | simp only [aC,aE, *]) (by intro k;first | rfl | simp only [ *,zaa]) ?_);simp only [↓pre,zab,fE,simprocAttr];(first | refine aI (e) (by first | rfl | simp only [aC,aE, *]) ?_ | refine aH (e) (by first | rfl | simp only [aC,aE, *]) (by intro k;first | rfl | simp only [ *,zaa]) ?_);simp only [↓pre,zab,fE,simprocAttr,m];(first | refine aI (i) (by first | rfl | simp only [aC,aE, *]) ?_ | refine aH (i) (by first | rfl | simp only [aC,aE, *]) (by intro k;first | rfl | simp only [ *,zaa]) ?_);simp only [↓pre,zae,fE,simprocAttr,u,p.len'];(first | refine aI (A) (by first | rfl | simp only [aE, *]) ?_ | refine aH (A) (by first | rfl | simp only [aC,aE, *]) (by intro k;first | rfl | simp only [ *,zaa]) ?_);simp only [↓pre,zac,simprocAttr]
     ·rw [decide_eq_false u,aB3] at a;subst a;replace b:=aA.mk b;replace q:=aA.mk q;refine aV Tryz.func207 aD (h:=?_);unfold Tryz.f207;simp only [↓pre,zac,fE,simprocAttr,aC,z,o]
      (first | refine aI (g) (by first | rfl | simp only [aC,aE, *]) ?_ | refine aH (g) (by first | rfl | simp only [aC,aE, *]) (by intro k;first | rfl | simp only [ *,zaa]) ?_);simp only [↓pre,zac,fE,simprocAttr,t,m];(first | refine aI (j) (by first | rfl | simp only [aC,aE, *]) ?_ | refine aH (j) (by first | rfl | simp only [aC,aE, *]) (by intro k;first | rfl | simp only [ *,zaa]) ?_);simp only [↓pre,zab,fE,simprocAttr];(first | refine aI (e) (by first | rfl | simp only [aC,aE, *]) ?_ | refine aH (e) (by first | rfl | simp only [aC,aE, *]) (by intro k;first | rfl | simp only [ *,zaa]) ?_);simp only [↓pre,zab,fE,simprocAttr,m];(first | refine aI (i) (by first | rfl | simp only [aC,aE, *]) ?_ | refine aH (i) (by first | rfl | simp only [aC,aE, *]) (by intro k;first | rfl | simp only [ *,zaa]) ?_);simp only [↓pre,zae,fE,simprocAttr,u,p.len']
    ·rw [if_neg m] at a;by_cases u:(l.length:Int)=s
     ·rw [decide_eq_true u,aBk] at a;subst a;replace b:=aA.mk b;replace q:=aA.mk q;cases E with
      | true =>
       refine aV Tryz.func207 aD (h:=?_);unfold Tryz.f207;simp only [↓pre,zac,fE,simprocAttr,aC,z,o]
       (first | refine aI (g) (by first | rfl | simp only [aC,aE, *]) ?_ | refine aH (g) (by first | rfl | simp only [aC,aE, *]) (by intro k;first | rfl | simp only [ *,zaa]) ?_);simp only [↓pre,zac,fE,simprocAttr,t];(first | refine aI (j) (by first | rfl | simp only [aC,aE, *]) ?_ | refine aH (j) (by first | rfl | simp only [aC,aE, *]) (by intro k;first | rfl | simp only [ *,zaa]) ?_);simp only [↓pre,zab,fE,simprocAttr];(first | refine aI (e) (by first | rfl | simp only [aC,aE, *]) ?_ | refine aH (e) (by first | rfl | simp only [aC,aE, *]) (by intro k;first | rfl | simp only [ *,zaa]) ?_);simp only [↓pre,zab,fE,simprocAttr];(first | refine aI (i) (by first | rfl | simp only [aC,aE, *]) ?_ | refine aH (i) (by first | rfl | simp only [aC,aE, *]) (by intro k;first | rfl | simp only [ *,zaa]) ?_);simp only [↓pre,zae,fE,simprocAttr,m,u,p.len'];(first | refine aI (A) (by first | rfl | simp only [aE, *]) ?_ | refine aH (A) (by first | rfl | simp only [aC,aE, *]) (by intro k;first | rfl | simp only [ *,zaa]) ?_);simp only [↓pre,zac,simprocAttr]
      | false =>
       refine aV Tryz.func207 aD (h:=?_);unfold Tryz.f207;simp only [↓pre,zac,fE,simprocAttr,aC,z,o]
       (first | refine aI (g) (by first | rfl | simp only [aC,aE, *]) ?_ | refine aH (g) (by first | rfl | simp only [aC,aE, *]) (by intro k;first | rfl | simp only [ *,zaa]) ?_);simp only [↓pre,zac,fE,simprocAttr,t];(first | refine aI (j) (by first | rfl | simp only [aC,aE, *]) ?_ | refine aH (j) (by first | rfl | simp only [aC,aE, *]) (by intro k;first | rfl | simp only [ *,zaa]) ?_);simp only [↓pre,zab,fE,simprocAttr];(first | refine aI (e) (by first | rfl | simp only [aC,aE, *]) ?_ | refine aH (e) (by first | rfl | simp only [aC,aE, *]) (by intro k;first | rfl | simp only [ *,zaa]) ?_);simp only [↓pre,zab,fE,simprocAttr];(first | refine aI (i) (by first | rfl | simp only [aC,aE, *]) ?_ | refine aH (i) (by first | rfl | simp only [aC,aE, *]) (by intro k;first | rfl | simp only [ *,zaa]) ?_);simp only [↓pre,zae,fE,simprocAttr,m,u,p.len'];(first | refine aI (A) (by first | rfl | simp only [aE, *]) ?_ | refine aH (A) (by first | rfl | simp only [aC,aE, *]) (by intro k;first | rfl | simp only [ *,zaa]) ?_);simp only [↓pre,zac,simprocAttr]
     ·rw [decide_eq_false u,aB3] at a;subst a;replace b:=aA.mk b;replace q:=aA.mk q;refine aV Tryz.func207 aD (h:=?_);unfold Tryz.f207;simp only [↓pre,zac,fE,simprocAttr,aC,z,o]
      (first | refine aI (g) (by first | rfl | simp only [aC,aE, *]) ?_ | refine aH (g) (by first | rfl | simp only [aC,aE, *]) (by intro k;first | rfl | simp only [ *,zaa]) ?_);simp only [↓pre,zac,fE,simprocAttr,t];(first | refine aI (j) (by first | rfl | simp only [aC,aE, *]) ?_ | refine aH (j) (by first | rfl | simp only [aC,aE, *]) (by intro k;first | rfl | simp only [ *,zaa]) ?_);simp only [↓pre,zab,fE,simprocAttr];(first | refine aI (e) (by first | rfl | simp only [aC,aE, *]) ?_ | refine aH (e) (by first | rfl | simp only [aC,aE, *]) (by intro k;first | rfl | simp only [ *,zaa]) ?_);simp only [↓pre,zab,fE,simprocAttr];(first | refine aI (i) (by first | rfl | simp only [aC,aE, *]) ?_ | refine aH (i) (by first | rfl | simp only [aC,aE, *]) (by intro k;first | rfl | simp only [ *,zaa]) ?_);simp only [↓pre,zae,fE,simprocAttr,m,u,p.len']
   ·rw [decide_eq_false (fun h=>C h.symm),aB3] at a;subst a;replace b:=aA.mk b;replace q:=aA.mk q;by_cases m:d=1
    ·have C:¬ dep=1:=by rw [←m];exact C
     refine aV Tryz.func207 aD (h:=?_);unfold Tryz.f207;simp only [↓pre,zac,fE,simprocAttr,aC,z,o]
     (first | refine aI (g) (by first | rfl | simp only [aC,aE, *]) ?_ | refine aH (g) (by first | rfl | simp only [aC,aE, *]) (by intro k;first | rfl | simp only [ *,zaa]) ?_);simp only [↓pre,zac,fE,simprocAttr,t];(first | refine aI (j) (by first | rfl | simp only [aC,aE, *]) ?_ | refine aH (j) (by first | rfl | simp only [aC,aE, *]) (by intro k;first | rfl | simp only [ *,zaa]) ?_);simp only [↓pre,zab,fE,simprocAttr];(first | refine aI (e) (by first | rfl | simp only [aC,aE, *]) ?_ | refine aH (e) (by first | rfl | simp only [aC,aE, *]) (by intro k;first | rfl | simp only [ *,zaa]) ?_);simp only [↓pre,zab,fE,simprocAttr,m];(first | refine aI (i) (by first | rfl | simp only [aC,aE, *]) ?_ | refine aH (i) (by first | rfl | simp only [aC,aE, *]) (by intro k;first | rfl | simp only [ *,zaa]) ?_);simp only [↓pre,zac,fE,simprocAttr,C]
    ·refine aV Tryz.func207 aD (h:=?_);unfold Tryz.f207;simp only [↓pre,zac,fE,simprocAttr,aC,z,o]
     (first | refine aI (g) (by first | rfl | simp only [aC,aE, *]) ?_ | refine aH (g) (by first | rfl | simp only [aC,aE, *]) (by intro k;first | rfl | simp only [ *,zaa]) ?_);simp only [↓pre,zac,fE,simprocAttr,t];(first | refine aI (j) (by first | rfl | simp only [aC,aE, *]) ?_ | refine aH (j) (by first | rfl | simp only [aC,aE, *]) (by intro k;first | rfl | simp only [ *,zaa]) ?_);simp only [↓pre,zab,fE,simprocAttr];(first | refine aI (e) (by first | rfl | simp only [aC,aE, *]) ?_ | refine aH (e) (by first | rfl | simp only [aC,aE, *]) (by intro k;first | rfl | simp only [ *,zaa]) ?_);simp only [↓pre,zab,fE,simprocAttr];(first | refine aI (i) (by first | rfl | simp only [aC,aE, *]) ?_ | refine aH (i) (by first | rfl | simp only [aC,aE, *]) (by intro k;first | rfl | simp only [ *,zaa]) ?_);simp only [↓pre,zac,fE,simprocAttr,C,m]
theorem af8 (v:AV) (n:Nat) (bs:List UInt8) (x:List AV) (g:aT v n (aJ bs++x)) (A:n≤bs.length) (w:n≤4):aQ ayU 205 [v] ⟨aB (dF (bs.take n):Nat),[]⟩:=by
 have B:=g.plain;refine aV Tryz.func205 aD (h:=?_);unfold Tryz.f205;simp only [↓pre,simprocAttr,sx];rw [bS];refine bU (fun q e m=>∃ i,q+i=n∧e 0=v∧e 4=aB (i:Nat)∧e 3=aB (dF (bs.take i):Nat)) n ⟨0,by omega,rfl,rfl,by simp [bC.set,aB,dF]⟩ ?_;rintro q e m ⟨i,hi,p,s,o⟩;replace hi:=aA.mk hi;by_cases k:i < n
 ·have b:((i:Nat):Int) < ((n:Nat):Int):=by omega
  obtain ⟨a,r⟩:∃ a,bs[i]? = some a:=⟨_,azm (by omega)⟩
  have z:=mM (x:=x) r;have l:=afi r;have f:=aaW i bs;have c:=a.toNat_lt;have w1:=cB (n:=i) (by omega);have d:256 ^ i≤256 ^ 3:=Nat.pow_le_pow_right (by decide) (by omega);have C:256 ^ 3=16777216:=by decide
  have y:azy.wrap (a.toNat:Int)=(a.toNat:Int):=dO (by omega);have u:azy.wrap (256*((dF (bs.take i):Nat):Int))=((dF (bs.take i)*256:Nat):Int):=by
   rw [show (256*((dF (bs.take i):Nat):Int))=((dF (bs.take i)*256:Nat):Int) by omega];exact dO (by omega)
  have t:azy.wrap (((dF (bs.take i)*256:Nat):Int)+(a.toNat:Int))=((dF (bs.take i)*256+a.toNat:Nat):Int):=by
   rw [←Int.natCast_add];exact dO (by omega)
  replace f:=aA.mk f;replace d:=aA.mk d;replace c:=aA.mk c;replace l:=aA.mk l;simp only [↓pre,zai,amG,cO,azG,jP,simprocAttr,p,s,o,b,g.len',g.addr',k,z,w1,y,u,t];exact ⟨q - 1,by have:=hi.out;omega,i+1,by have:=hi.out;omega,rfl,by rw [l.out]⟩
 ·have b:¬ ((i:Nat):Int) < ((n:Nat):Int):=by omega
  have j:i=n:=by have:=hi.out;omega
  subst j;simp only [↓pre,zai,amG,gH,simprocAttr,p,s,o,b,g.len']
theorem axQ (v:AV) (bs:List UInt8) (x:List AV) (n:Nat) (f:aT v bs.length (aJ bs++x)) (Q:6*n≤bs.length) (O:bs.length≤100000):aQ ayU 206 [v,aB (n:Nat)] ⟨bE n (cU (tJ bs n)),[]⟩:=by
 refine gA ?_;refine bV Tryz.func206 aD (h:=?_);unfold Tryz.f206;simp only [↓pre,simprocAttr,sx];rw [bS];refine bU (fun q e m=>∃ i o,q+i=n∧e 0=v∧e 1=aB (n:Nat)∧e 5=o∧e 6=aB (i:Nat)∧aA (Own m 67 2 o i (cU (tJ bs i)))) n ⟨0,aW,by omega,rfl,rfl,rfl,rfl,⟨gK⟩⟩ ?_;rintro q e m ⟨i,o,d,p,s,C,g,z⟩;replace d:=aA.mk d;by_cases H:i < n
 ·have a:((i:Nat):Int) < ((n:Nat):Int):=by omega
  have E:=cB (n:=i) (by omega);have w1:azy.wrap (6*((i:Nat):Int))=((6*i:Nat):Int):=by rw [show 6*((i:Nat):Int)=((6*i:Nat):Int) by omega];exact dO (by omega)
  have u:azy.wrap (((6*i:Nat):Int)+2)=((6*i+2:Nat):Int):=by rw [show ((6*i:Nat):Int)+2=((6*i+2:Nat):Int) by omega];exact dO (by omega)
  have K:azy.wrap (((6*i:Nat):Int)+6)=((6*i+6:Nat):Int):=by rw [show ((6*i:Nat):Int)+6=((6*i+6:Nat):Int) by omega];exact dO (by omega)
  obtain ⟨J,L,r1⟩:=f.slice (P:=ayU) (t:=52) (sz:=1) (lo:=some (6*i)) (hi:=some (6*i+2)) (by kernel_rfl) (by simp) (by simp only [aAE];omega);obtain ⟨I,M,r2⟩:=f.slice (P:=ayU) (t:=52) (sz:=1) (lo:=some (6*i+2)) (hi:=some (6*i+6)) (by kernel_rfl) (by simp) (by simp only [aAE];omega);simp only [aAE,azG] at r1 r2;rw [show 6*i+2 - 6*i=2 by omega,uI _ x _ (by omega)] at r1;rw [show 6*i+6 - (6*i+2)=4 by omega,uI _ x _ (by omega)] at r2;have A:=af8 J 2 (bs.drop (6*i)) x r1 (by rw [aBc];omega) (by omega);have B:=af8 I 4 (bs.drop (6*i+2)) x r2 (by rw [aBc];omega) (by omega);have F:=r1.plain;have G:=r2.plain;have c:=aoT bs i;have b:afS bs i=(((dF ((bs.drop (6*i)).take 2):Nat):Int),((dF ((bs.drop (6*i+2)).take 4):Nat):Int)):=rfl;generalize dF ((bs.drop (6*i)).take 2)=w at *
  generalize dF ((bs.drop (6*i+2)).take 4)=D at *
  replace c:=aA.mk c;replace b:=aA.mk b;replace r1:=aA.mk r1;replace r2:=aA.mk r2;have l:∀ m,fY ayU m 31 1 [(0,.agg [.val (.int .i64 (w:Nat)),.val (.int .i64 (D:Nat))])]=some ⟨.tree 1 1 [.val (.int .i64 (w:Nat)),.val (.int .i64 (D:Nat))] true,m,none⟩:=fun m=>alU rfl rfl (by kernel_rfl) (by kernel_rfl)
  simp only [↓pre,zae,aBd,simprocAttr,dD,p,s,C,g,f.sliceX,w1,u,L,a]
  (first | refine aI (A) (by first | rfl | simp only [aE, *]) ?_ | refine aH (A) (by first | rfl | simp only [aE, *]) (by intro k;first | rfl | simp only [ *,zaa]) ?_);simp only [↓pre,zai,aBd,simprocAttr,dD,p,g,f.sliceX,w1,u,K,M];(first | refine aI (B) (by first | rfl | simp only [aE, *]) ?_ | refine aH (B) (by first | rfl | simp only [aE, *]) (by intro k;first | rfl | simp only [ *,zaa]) ?_);simp only [↓pre,zab,asZ,cO,simprocAttr,l]
  refine nP (sz:=2) (y:=16) (zl:=[.int .i64 0,.int .i64 0]) (by kernel_rfl) z.out (by kernel_rfl) (by kernel_rfl) (by kernel_rfl) rfl aet rfl (by omega) (by omega) ?_;intro r m' j N;refine cX (by kernel_rfl) ?_;simp only [↓pre,zab,simprocAttr,p,s,g,E];refine ⟨q - 1,by have:=d.out;omega,i+1,r,by have:=d.out;omega,rfl,rfl,⟨?_⟩⟩;rw [c.out,aoL,b.out];exact j
 ·have a:¬ ((i:Nat):Int) < ((n:Nat):Int):=by omega
  have hi:i=n:=by have:=d.out;omega
  subst hi;simp only [↓pre,zac,simprocAttr,s,C,g,a];exact ⟨0,yS z.out 0⟩
theorem abl (N c:Nat):bQ ((N:Nat):Int) (c+1)=azQ (N / 256 ^ c)::bQ ((N:Nat):Int) c:=by
 have h:(((N:Nat):Int) / 2 ^ (8*c)).toNat=N / 256 ^ c:=by
  have:((2:Int) ^ (8*c))=((256 ^ c:Nat):Int):=by
   rw [Int.pow_mul,Int.natCast_pow];rfl
  rw [this,←Int.natCast_ediv,Int.toNat_natCast]
 show azQ (((N:Nat):Int) / 2 ^ (8*c)).toNat::_=_;rw [h]
theorem aqb (N:Nat):∀ (c j:Nat),j < c→(bQ ((N:Nat):Int) c).drop j=azQ (N / 256 ^ (c - 1 - j))::(bQ ((N:Nat):Int) c).drop (j+1)
 | 0,j,h=>by omega
 | c+1,0,h=>by rw [abl];rfl
 | c+1,j+1,h=>by
  rw [abl,aAK,aAK,aqb N c j (by omega),show c+1 - 1 - (j+1)=c - 1 - j by omega]
theorem af9 (N c:Nat) (H:N≤1073741824) (J:c≤4):aQ ayU 257 [aB (N:Nat),aB (c:Nat)] ⟨.tree c c (aJ (bQ (N:Nat) c)) true,[]⟩:=by
 refine gA ?_;have t:=fun m=>vZ m (n:=c) (by omega)
 have f:=fX ((N:Nat):Int) c;have g:=aqb N c;have F:=aoN c;generalize bQ ((N:Nat):Int) c=B at *
 replace g:=aA.mk g;replace f:=aA.mk f;have w0:azy.wrap (((c:Nat):Int) - 1)=((c:Nat):Int) - 1:=gB (by omega) (by omega);refine bV Tryz.func257 aD (h:=?_);unfold Tryz.f257;simp only [↓pre,zai,simprocAttr,t,w0];rw [bS];refine bU (fun q e m=>q≤c∧e 0=aB ((N / 256 ^ (c - q):Nat):Int)∧e 5 = .sl 0 0 c c true∧e 6=aB (((q:Nat):Int) - 1)∧aA (m.at_ 0=some ⟨aJ (aBr q 0++B.drop q),5,.flat,true⟩)) c ⟨aza _,by rw [Nat.sub_self,Nat.pow_zero,Nat.div_one];rfl,rfl,rfl,⟨by rw [cF,if_pos aX.symm,F,List.drop_of_length_le (by have:=f.out;omega),aBl]⟩⟩ ?_;rintro q e m ⟨i,z,A,w,r⟩;replace i:=aA.mk i;cases q with
 | zero =>
  have D:¬ (0:Int)≤((0:Nat):Int) - 1:=by omega
  have s:=r.out;rw [aBx] at s;simp only [↓pre,zac,simprocAttr,A,w];exact ⟨0,by rw [wW s,aBx];rfl⟩
 | succ d =>
  have l:(0:Int)≤((d:Nat):Int):=by omega
  rw [show ((d+1:Nat):Int) - 1=((d:Nat):Int) by omega] at w;have C:azy.wrap (((d:Nat):Int) - 1)=((d:Nat):Int) - 1:=gB (by omega) (by have:=i.out;omega);obtain ⟨Z,k⟩:∃ Z,N / 256 ^ (c - (d+1))=Z:=⟨_,rfl⟩
  have o:Z≤N:=by rw [←k];exact Nat.div_le_self _ _
  have x:N / 256 ^ (c - d)=Z / 256:=by rw [←k,Nat.div_div_eq_div_mul,←Nat.pow_succ,show (c - (d+1)).succ=c - d by have:=i.out;omega]
  have b:=g.out d (by have:=i.out;omega);rw [show c - 1 - d=c - (d+1) by omega,k] at b;rw [k] at z;have v:d < c:=by have:=i.out;omega
  have wr:IntKind.u8.wrap (((Z:Nat):Int).tmod 256)=((azQ Z).toNat:Int):=by
   have j:((Z:Nat):Int).tmod 256=((Z % 256:Nat):Int):=by rw [Int.tmod_eq_emod_of_nonneg (by omega)];omega
   rw [j,vM];congr 2;exact UInt8.ofNat_mod_size
  have E:azy.wrap (((Z:Nat):Int).tdiv 256)=((Z / 256:Nat):Int):=by
   have j:((Z:Nat):Int).tdiv 256=((Z / 256:Nat):Int):=by rw [aCh (by omega)];omega
   rw [j];exact dO (by omega)
  have s:=r.out;have a:(aJ (aBr (d+1) 0++B.drop (d+1))).length=c:=by rw [eS,aA2,aB6,aBc];have:=f.out;omega
  have u:d+1≤(aJ (aBr (d+1) 0++B.drop (d+1))).length:=by rw [a];omega
  have p:List.take d (aJ (aBr (d+1) 0++B.drop (d+1)))++[AV.val (.int .u8 ((azQ Z).toNat:Int))]++List.drop (d+1) (aJ (aBr (d+1) 0++B.drop (d+1)))=aJ (aBr d 0++B.drop d):=by
   rw [b,List.replicate_succ',qH,qH,qH];have j:(aJ (aBr d 0)).length=d:=by rw [eS,aB6]
   have G:(aJ (aBr d 0)++aJ [0]).length=d+1:=by rw [aA2,j];rfl
   rw [azW (aJ (aBr d 0)),List.take_left' j,←azW,List.drop_left' G];unfold aJ;rw [List.map_cons,azW];rfl
  generalize y:aJ (aBr (d+1) 0++B.drop (d+1))=I at *
  replace k:=aA.mk k;replace b:=aA.mk b;replace y:=aA.mk y;replace a:=aA.mk a;replace r:=aA.mk r;replace o:=aA.mk o;simp only [↓pre,zae,as6,bH,cO,simprocAttr,aS,z,A,w,l,C,v,wr,E,s,u,p];exact ⟨d,by omega,by have:=i.out;omega,by rw [x],rfl,⟨by simp [cI]⟩⟩
theorem aga {n:Int} (h:0≤n):∃ N:Nat,n=(N:Int):=⟨n.toNat,by omega⟩
theorem axR (l:List cC) (y:cC):dX (l++[y])=dX l++(bQ y.1 2++bQ y.2 4):=by simp [dX]
theorem ai8 {m:aF} (bs:List UInt8) (n:Nat) (f:Bool) (h:bs.length=n):eM ayU 5 1 m (.tree n n (aJ bs) f)=some (aJ bs,n):=by
 rw [abQ (by rw [eS];omega),azG,aBa (by rw [eS];omega)]
theorem axS (v:AV) (l:List cC) (f:qG v l) (o:l.length≤1000) (H:∀ x∈l,(0≤x.1∧x.1≤1073741824)∧0≤x.2∧x.2≤1073741824):aQ ayU 249 [v] ⟨bE (l.length*6) (aJ (dX l)),[]⟩:=by
 refine gA ?_;obtain ⟨x,f⟩:=f;have Z:=f.plain;replace H:=aA.mk H;replace o:=aA.mk o;refine bV Tryz.func249 aD (h:=?_);unfold Tryz.f249;simp only [↓pre,simprocAttr];rw [bS];refine bU (fun q e m=>∃ i G,q+i=l.length∧e 0=v∧e 3=G∧e 4=aB (i:Nat)∧aA (Own m 5 1 G (i*6) (aJ (dX (l.take i))))) l.length ⟨0,aW,by omega,rfl,rfl,rfl,⟨gK⟩⟩ ?_;rintro q e m ⟨i,G,w,D,O,E,N⟩;replace w:=aA.mk w;by_cases g:i < l.length
 ·have b:((i:Nat):Int) < ((l.length:Nat):Int):=by omega
  have P:=cB (n:=i) (by have:=o.out;omega);obtain ⟨y,t⟩:∃ y,l[i]? = some y:=⟨_,azm g⟩
  obtain ⟨L,F⟩:=abe l x i y t;have c:=H.out y (az8 t);have r:l.take (i+1)=l.take i++[y]:=by rw [aA9,t];rfl
  obtain ⟨A,C⟩:=aga c.1.1;obtain ⟨B,z⟩:=aga c.2.1;have J:=af9 A 2 (by omega) (by omega);have K:=af9 B 4 (by omega) (by omega);have d:=axR (l.take i) y;rw [←r,C,z] at d;rw [C] at L;rw [z] at F;have U:=fun m:aF=>ai8 (m:=m) (bQ (A:Nat) 2) 2 true (fX _ _)
  have S:=fun m:aF=>ai8 (m:=m) (bQ (B:Nat) 4) 4 true (fX _ _)
  have I:=fX ((A:Nat):Int) 2;have M:=fX ((B:Nat):Int) 4;generalize bQ ((A:Nat):Int) 2=X at *
  generalize bQ ((B:Nat):Int) 4=Y at *
  simp only [aB] at L F J K;replace t:=aA.mk t;replace C:=aA.mk C;replace z:=aA.mk z;replace c:=aA.mk c;replace r:=aA.mk r;replace d:=aA.mk d;replace I:=aA.mk I;replace M:=aA.mk M;simp only [↓pre,zae,adm,simprocAttr,D,O,E,b,f.len',f.addr',g,L]
  (first | refine aI (J) (by first | rfl | simp only [aC,aE, *]) ?_ | refine aH (J) (by first | rfl | simp only [aC,aE, *]) (by intro k;first | rfl | simp only [ *,zaa]) ?_);simp only [↓pre,zab,adm,cO,simprocAttr]
  refine nP (kd := .flat) (sz:=1) (y:=1) (zl:=[.int .u8 0]) (by kernel_rfl) N.out (by kernel_rfl) (by kernel_rfl) (by kernel_rfl) rfl (U _) (by rw [eS,azG];exact I.out) (by have:=o.out;omega) (by have:=o.out;omega) ?_;intro V W j T;replace j:=aA.mk j;simp only [↓pre,zai,adm,simprocAttr,D,E,g,f.addr',F]
  (first | refine aI (K) (by first | rfl | simp only [aC,aE, *]) ?_ | refine aH (K) (by first | rfl | simp only [aC,aE, *]) (by intro k;first | rfl | simp only [ *,zaa]) ?_);simp only [↓pre,zab,adm,cO,simprocAttr]
  refine nP (kd := .flat) (sz:=1) (y:=1) (zl:=[.int .u8 0]) (by kernel_rfl) j.out (by kernel_rfl) (by kernel_rfl) (by kernel_rfl) rfl (S _) (by rw [eS,azG];exact M.out) (by have:=o.out;omega) (by have:=o.out;omega) ?_;intro u Q s R;have p:Own Q 5 1 u ((i+1)*6) (aJ (dX (l.take (i+1)))):=by
   rw [d.out,qH,qH,←azW,show (i+1)*6=i*6+2+4 by omega];exact s
  replace p:=aA.mk p;clear s;simp only [↓pre,zab,simprocAttr,D,E,P];exact ⟨q - 1,by have:=w.out;omega,i+1,u,by have:=w.out;omega,rfl,rfl,p⟩
 ·have b:¬ ((i:Nat):Int) < ((l.length:Nat):Int):=by omega
  have hi:i=l.length:=by have:=w.out;omega
  have a:=N.out;rw [hi,List.take_length] at a;replace a:=aA.mk a;simp only [↓pre,zae,adm,simprocAttr,D,O,E,b,f.len'];exact ⟨0,yS a.out 0⟩
theorem axT (bs:List UInt8):aR bs.length (fun j=>bs.getD j 0)=aJ bs:=by
 unfold aR tab aJ;congr 1;refine aAi fun i => ?_
 rw [azo];by_cases h:i < bs.length
 ·rw [aBS h,azm h,az6,azs,azm h];rfl
 ·rw [ay6 (by simpa using h),ay6 (by omega)];rfl
theorem axU {bs:List UInt8} {W:Nat} (h:bs.length≤W):aR W (fun j=>if j < bs.length then bs.getD j 0 else 0)=aJ (tH bs W):=by
 unfold aR tab aJ tH;congr 1;refine aAi fun i => ?_
 rw [azo];by_cases b:i < W
 ·rw [aBS b,az6];by_cases a:i < bs.length
  ·rw [if_pos a,List.getElem?_append_left a,azs,azm a];rfl
  ·rw [if_neg a,List.getElem?_append_right (by omega),List.getElem?_replicate,if_pos (by omega)]
 ·rw [ay6 (by simpa using b),ay6 (by simp;omega)];rfl
theorem axV (k r c w:Int) (o:bG k r c w=true) (v:AV) (bs:List UInt8) (x:List AV) (p:aT v bs.length (aJ bs++x)) (i:bs.length≤(wI k c).toNat):aQ ayU 248 [aC k r c w,v] ⟨.tree (wI k c).toNat (wI k c).toNat (aJ (tH bs (wI k c).toNat)) true,[]⟩:=by
 refine gA ?_;have g:=xD k r c w o;have u:=kJ o;obtain ⟨W,q⟩:∃ W:Nat,wI k c=(W:Int):=⟨(wI k c).toNat,by unfold wI;omega⟩
 have l:(wI k c).toNat=W:=by omega
 have s:W≤768:=by unfold wI at q;omega
 rw [l] at i ⊢;rw [q] at g;have t:=p.plain;have e:=fun m=>vZ m (n:=W) (by omega)
 have a:=fun (m:aF) (b:Nat) (f:Bool) hb=>ap1 (m:=m) (b:=b) (f:=f) (w:=W) hb (F:=fun j=>bs.getD j 0) (x:=x) (v:=v) (n:=bs.length) (by rw [axT];exact p) i
 rw [axU i] at a;have d:=a (aF.empty.push ⟨aR W fun _=>0,5,.flat,true⟩) aF.empty.next true (by rw [cF,if_pos rfl]);replace a:=aA.mk a;refine bV Tryz.func248 aD (h:=?_);unfold Tryz.f248;simp only [↓pre,zab,amK,simprocAttr,aC]
 (first | refine aI (g) (by first | rfl | simp only [aC,aE, *]) ?_ | refine aH (g) (by first | rfl | simp only [aC,aE, *]) (by intro k;first | rfl | simp only [ *,zaa]) ?_);simp only [↓pre,zai,amK,adN,simprocAttr,e,d]
 exact ⟨0,by rw [wW (by rw [cI,if_pos rfl]),aBx]⟩
theorem aqc (k r c w len dep:Int) (v:AV) (l:List cC) (f:qG v l) (G:iE k r c w len dep l=0):aQ ayU 200 [aC k r c w,.agg [aB len,aB dep,v]] ⟨.tree (wI k c).toNat (wI k c).toNat (aJ (fJ k c len dep l)) true,[]⟩:=by
 refine gA ?_;obtain ⟨t,J,i,z,o⟩:=afQ G;obtain ⟨I,_⟩:=aiC G;have Z:=kJ I;have a2:=ads Z.1 Z.2;have S:l.length≤126:=by unfold dI at z;omega
 obtain ⟨A,rfl⟩:=aga t;obtain ⟨D,rfl⟩:=aga (n:=dep) (by omega);have R:=af9 A 4 (by omega) (by omega);have T:=af9 l.length 2 (by omega) (by omega);have Y:=axS v l f (by omega) (fun x hx=>by have:=o x hx;have:=kW.1 I;omega);have d:(pJ (A:Nat) (D:Nat) l.length++dX l).length≤(wI k c).toNat:=by
  unfold pJ;simp only [aA2,fX,yV];unfold dI at z;unfold wI;omega
 have K:=fun v f=>axV k r c w I v (pJ (A:Nat) (D:Nat) l.length++dX l) [] f d
 obtain ⟨x,f⟩:=f;have f1:=bW f;have q1:=bR f;have hp:=f.plain;have a:pJ ((A:Nat):Int) ((D:Nat):Int) l.length=bQ (A:Nat) 4++([azQ D]++bQ ((l.length:Nat):Int) 2):=by
  unfold pJ;rw [abl D 0];simp [bQ]
 have b:fJ k c ((A:Nat):Int) ((D:Nat):Int) l=tH (pJ (A:Nat) (D:Nat) l.length++dX l) (wI k c).toNat:=rfl;rw [b];have B:=fX ((A:Nat):Int) 4;have E:=fX ((l.length:Nat):Int) 2;have s2:=fun m:aF=>ai8 (m:=m) (bQ ((l.length:Nat):Int) 2) 2 true E
 have X:=eQ (l.length*6) (aJ (dX l));have s3:=fun m:aF=>aT.src (P:=ayU) (el:=5) (sz:=1) (m:=m) X (by rw [eS,yV];omega)
 rw [azG,aBa (by rw [eS,yV];exact aza _)] at s3;have t3:=dB X;have p:(aJ (dX l)).length=l.length*6:=by rw [eS,yV]
 generalize bE (l.length*6) (aJ (dX l))=TV at *
 have F:∀ m:aF,fR ayU 5 m (.tree 4 4 (aJ (bQ (A:Nat) 4)) true) (.tree 1 1 [.val (.int .u8 ((azQ D).toNat:Int))] true)=some ⟨.sl m.next 0 5 5 false,m.push ⟨aJ (bQ (A:Nat) 4)++[.val (.int .u8 ((azQ D).toNat:Int))],5,.flat,true⟩,none⟩:=fun m=>by
  have g1:bX ayU 5=some 1:=by kernel_rfl
  have g2:jN ayU 5=some 1:=by kernel_rfl
  have g3:gF ayU 5=some [.int .u8 0]:=by kernel_rfl
  have g4:bK ayU 5 = .flat:=by kernel_rfl
  have N:(aJ (bQ ((A:Nat):Int) 4)).length=4:=by rw [eS,B]
  simp only [fR,g1,g2,g3,g4,lV,dR,aAk];simp [bI,N,aBa]
 generalize C:bQ ((A:Nat):Int) 4=Q at *
 generalize u:bQ ((l.length:Nat):Int) 2=NL at *
 generalize pJ ((A:Nat):Int) ((D:Nat):Int) l.length=H at *
 have e:∀ m:aF,Own (m.push ⟨aJ Q++[.val (.int .u8 ((azQ D).toNat:Int))],5,.flat,true⟩) 5 1 (.sl m.next 0 5 5 false) 5 (aJ Q++[.val (.int .u8 ((azQ D).toNat:Int))]):=fun m=>⟨.inr ⟨m.next,rfl,by rw [cF,if_pos rfl],by rw [cQ];omega,by omega⟩,by rw [aA2,eS,B];rfl⟩
 simp only [aB] at R T;replace o:=aA.mk o;replace d:=aA.mk d;replace e:=aA.mk e;replace B:=aA.mk B;replace E:=aA.mk E;replace a:=aA.mk a;replace p:=aA.mk p;replace G:=aA.mk G;replace C:=aA.mk C;replace u:=aA.mk u;replace i:=aA.mk i;replace b:=aA.mk b;replace K:=aA.mk K;refine bV Tryz.func200 aD (h:=?_);unfold Tryz.f200;simp only [↓pre,zab,ab7,simprocAttr,aC,f1]
 (first | refine aI (R) (by first | rfl | simp only [aC,aE, *]) ?_ | refine aH (R) (by first | rfl | simp only [aC,aE, *]) (by intro k;first | rfl | simp only [ *,zaa]) ?_);simp only [↓pre,zai,ab7,cO,simprocAttr,F,f.len'];(first | refine aI (T) (by first | rfl | simp only [aC,aE, *]) ?_ | refine aH (T) (by first | rfl | simp only [aC,aE, *]) (by intro k;first | rfl | simp only [ *,zaa]) ?_);simp only [↓pre,zai,ab7,cO,simprocAttr]
 refine nP (kd := .flat) (sz:=1) (y:=1) (zl:=[.int .u8 0]) (by kernel_rfl) (e.out _) (by kernel_rfl) (by kernel_rfl) (by kernel_rfl) rfl (s2 _) (by rw [eS,azG];exact E.out) (by omega) (by omega) ?_;intro a3 m1 q a1;replace q:=aA.mk q;simp only [↓pre,zab,ab7,simprocAttr]
 (first | refine aI (Y) (by first | rfl | simp only [aE, *]) ?_ | refine aH (Y) (by first | rfl | simp only [aC,aE, *]) (by intro k;first | rfl | simp only [ *,zaa]) ?_);simp only [↓pre,zab,ab7,cO,simprocAttr,t3]
 refine nP (kd := .flat) (sz:=1) (y:=1) (zl:=[.int .u8 0]) (by kernel_rfl) q.out (by kernel_rfl) (by kernel_rfl) (by kernel_rfl) rfl (s3 _) (by rw [azG];exact p.out) (by omega) (by omega) ?_;intro U m2 g a0;have j:aJ Q++[.val (.int .u8 ((azQ D).toNat:Int))]++aJ NL++aJ (dX l)=aJ (H++dX l):=by
  rw [a.out];simp [aJ,bA]
 have s:5+2+l.length*6=(H++dX l).length:=by
  rw [a.out];rw [aA2,aA2,aA2,yV,B.out,E.out,List.length_cons,List.length_nil]
 rw [j,s] at g;obtain ⟨V,m3,L,O,_⟩:=(yH g (.inl rfl)).fz;have c5:=K.out V (by rw [aBl];exact O);have M:fzs m2 [.agg [.val (.int .i64 k),.val (.int .i64 r),.val (.int .i64 c),.val (.int .i64 w)],U]=some ([.agg [.val (.int .i64 k),.val (.int .i64 r),.val (.int .i64 c),.val (.int .i64 w)],V],m3):=by simp [fzs,fz,L]
 have W:=kP (wI k c).toNat (aJ (tH (H++dX l) (wI k c).toNat)) true;have s5:=dB W;generalize AV.tree (wI k c).toNat (wI k c).toNat (aJ (tH (H++dX l) (wI k c).toNat)) true=WV at *
 simp only [aC,aB] at c5;replace g:=aA.mk g;replace j:=aA.mk j;replace s:=aA.mk s;simp only [↓pre,zab,ab7,simprocAttr];refine abP c5 M ?_;simp only [↓pre,simprocAttr,sx,s5];exact ⟨0,ada W⟩
theorem axW {bs:List UInt8} {i:Nat} {a:UInt8} (h:bs[i]? = some a):dF ((bs.drop i).take 1)=a.toNat:=by
 have:(bs.drop i).take 1=[a]:=by
  have b:(bs.drop i)[0]? = some a:=by rw [List.getElem?_drop];simpa using h
  cases c:bs.drop i with
  | nil=>rw [c] at b;cases b
  | cons y ys=>rw [c] at b;cases b;rfl
 rw [this];simp [dF]
theorem aqd {k r c w len dep:Int} {l:List cC} (a:bG k r c w=true):decide (iE k r c w len dep l=0)=uR k r c w len dep l:=by
 unfold iE;rw [if_pos a];cases uR k r c w len dep l <;> rfl
def eY:Nat→Bool:=fun d=>d != 4 && d != 6 && d != 40 && d != 45 && d != 53
set_option maxHeartbeats 1000000 in
theorem axX (k r c w:Int) (T:bG k r c w=true) (v:AV) (bs:List UInt8) (x:List AV) (u:aT v bs.length (aJ bs++x)) (G:(bs.length:Int)=wI k c):aQ ayU 117 [aC k r c w,v] ⟨.tup [acy k r c w bs,aB (nF k r c w bs)],[]⟩:=by
 refine gA ?_;have hp:=u.plain;have L:=adr k r c w;have Q:=xD k r c w T;have W:=adu k r c w T;rw [T] at L;have hw:=kJ T;have D:bs.length≤768∧32≤bs.length:=by unfold wI at G;omega
 have j:nF k r c w bs=if tK k r c w bs=true then 0 else 150:=by unfold nF;rw [if_pos T,if_pos G]
 have g:∀ E,nF k r c w bs=E→E≠0→∀ m,fzT 0 m (.tup [.agg [.val (.int .i64 0),.val (.int .i64 0),.val (.slice none 0 0)],.val (.int .i64 E)])=some (.tup [acy k r c w bs,aB E]):=fun E j h0 m=>by
  unfold acy;rw [j,if_neg h0];exact awd E 0 m
 obtain ⟨v1,s1,r1⟩:=u.slice (P:=ayU) (t:=52) (sz:=1) (lo:=none) (hi:=some 4) (by kernel_rfl) (by simp) (by simp only [aAE];omega);obtain ⟨v3,s3,r3⟩:=u.slice (P:=ayU) (t:=52) (sz:=1) (lo:=some 5) (hi:=some 7) (by kernel_rfl) (by simp) (by simp only [aAE];omega);obtain ⟨v4,s4,r4⟩:=u.slice (P:=ayU) (t:=52) (sz:=1) (lo:=some 7) (hi:=none) (by kernel_rfl) (by simp only [aAE,aAD];omega) (by simp);simp only [aAE,aAD,azG,Nat.sub_zero,aBx] at r1 r3 r4;rw [uI _ x 5 (by omega)] at r3;rw [uI _ x 7 (by omega),←aBc] at r4;have R:=af8 v1 4 bs x r1 (by omega) (by omega);have O:=af8 v3 2 (bs.drop 5) x r3 (by rw [aBc];omega) (by omega);have a5:=r1.plain;have a3:=r3.plain;have a6:=r4.plain;obtain ⟨a,V⟩:∃ a,bs[4]? = some a:=⟨_,azm (by omega)⟩
 have M:=mM (x:=x) V;have q:((a.toNat:Nat):Int)=fK bs:=by unfold fK;rw [axW V]
 have N:4 < bs.length:=by omega
 have F:pN bs < 65536:=aaW 2 (bs.drop 5);rw [show dF ((bs.drop 5).take 2)=pN bs from rfl] at O;rw [show ((dF (bs.take 4):Nat):Int)=fQ bs from rfl] at R;have U:kS (.val (.int .i64 4))=some 4:=rfl;have n5:kS (.val (.int .i64 5))=some 5:=rfl;have X:kS (.val (.int .i64 7))=some 7:=rfl;have wa:azy.wrap ((a.toNat:Nat):Int)=((a.toNat:Nat):Int):=dO (by have:=a.toNat_lt;omega);rw [q] at wa;have a4:=fun m=>u.slOk (P:=ayU) (m:=m) (t:=52)
 have i:=fun d c m lo hi mx=>u.sliceX (P:=ayU) (m:=m) (t:=52) (d:=d) (c:=c) (lo:=lo) (hi:=hi) (mx:=mx)
 have p:¬ ((bs.length:Nat):Int)=wI k c→False:=fun h=>h G
 rw [←G] at Q;by_cases e:7+6*pN bs≤bs.length
 ·have f:¬ dI k c < ((pN bs:Nat):Int):=by unfold dI;unfold wI at G;omega
  have K:=axQ v4 (bs.drop 7) x (pN bs) r4 (by rw [aBc];omega) (by rw [aBc];omega);rw [show tJ (bs.drop 7) (pN bs)=dT bs from rfl] at K;have C:(dT bs).length=pN bs:=afT _ _;have B:qG (bE (pN bs) (cU (dT bs))) (dT bs):=⟨[],by rw [aBl,C];exact eQ _ _⟩
  have J:=aqa k r c w (fQ bs) (fK bs) T _ _ B (by omega);have pt:=(eQ (pN bs) (cU (dT bs))).plain;have I:bE (pN bs) (cU (dT bs)) = .val (.slice none 0 0)∨bE (pN bs) (cU (dT bs)) = .tree (pN bs) (pN bs) (cU (dT bs)) false:=by unfold bE;split;exact .inl rfl;exact .inr rfl
  have b:tK k r c w bs=(uR k r c w (fQ bs) (fK bs) (dT bs) && decide (fJ k c (fQ bs) (fK bs) (dT bs)=bs)):=by unfold tK;rw [decide_eq_true e,aqd T];rfl
  by_cases n:uR k r c w (fQ bs) (fK bs) (dT bs)=true
  ·have z:iE k r c w (fQ bs) (fK bs) (dT bs)=0:=by have:=aqd (len:=fQ bs) (dep:=fK bs) (l:=dT bs) T;rw [n] at this;exact of_decide_eq_true this
   have c6:=aqc k r c w (fQ bs) (fK bs) _ _ B z;rw [n,aBk] at b;rw [n] at J;have Y:(fJ k c (fQ bs) (fK bs) (dT bs)).length=(wI k c).toNat:=by
    unfold fJ;refine aiB ?_;obtain ⟨_,_,_,a2,_⟩:=afQ z;unfold pJ;simp only [aA2,fX,yV];unfold dI at a2;unfold wI;omega
   have S:aT (.tree (wI k c).toNat (wI k c).toNat (aJ (fJ k c (fQ bs) (fK bs) (dT bs))) true) (fJ k c (fQ bs) (fK bs) (dT bs)).length (aJ (fJ k c (fQ bs) (fK bs) (dT bs))++[]):=by rw [Y,aBl];exact kP _ _ _
   have o:tK k r c w bs=true→∀ m,fzT 0 m (.tup [.agg [.val (.int .i64 (fQ bs)),.val (.int .i64 (fK bs)),bE (pN bs) (cU (dT bs))],.val (.int .i64 0)])=some (.tup [acy k r c w bs,aB 0]):=fun h m=>by
    have:=pE (aoV (fQ bs) (fK bs) (dT bs)) (dK (.int .i64 0)) 0 m;unfold acy;rw [j,h,if_pos rfl,if_pos rfl];unfold xM at this ⊢;rw [C] at this ⊢;exact this
   have tM:=dB S;generalize AV.tree (wI k c).toNat (wI k c).toNat (aJ (fJ k c (fQ bs) (fK bs) (dT bs))) true=MV at *
   generalize fJ k c (fQ bs) (fK bs) (dT bs)=MB at *
   have a0:=fun (d c:Bool) (m:aF)=>vW (d:=d) (c:=c) (m:=m) S
   have a1:=fun (d c:Bool) (m:aF)=>vW (d:=d) (c:=c) (m:=m) u
   replace B:=aA.mk B;replace n:=aA.mk n;replace z:=aA.mk z;replace e:=aA.mk e;replace C:=aA.mk C;replace Y:=aA.mk Y;replace S:=aA.mk S;replace hw:=aA.mk hw;replace D:=aA.mk D;replace F:=aA.mk F;replace V:=aA.mk V;replace G:=aA.mk G;replace p:=aA.mk p;by_cases s:MB=bs
   ·rw [decide_eq_true s] at b;have Z:∀ x y,eA ayU .neq 9 x y (uK MB) (uK bs)=some (.val (.bool false)):=fun x y=>by rw [apN,decide_eq_true s];rfl
    rw [b,if_pos rfl] at j;rw [j];replace o:=aA.mk (o b);replace b:=aA.mk b;replace j:=aA.mk j;replace g:=aA.mk g;replace s:=aA.mk s;rcases I with A | A
    all_goals rw [A] at K J c6 o
    all_goals clear pt
    all_goals replace A:=aA.mk A
    all_goals (
     refine bV Tryz.func117 eY (h:=?_);unfold Tryz.f117;simp only [↓pre,zad,iW,eY,bD,aX,simprocAttr,aC,bne]
     (first | refine aI (L) (by first | rfl | simp only [aC,aE, *]) ?_ | refine aH (L) (by first | rfl | simp only [aC,aE, *]) (by intro k;first | rfl | simp only [ *,zaa]) ?_);simp only [↓pre,zaf,iW,eY,simprocAttr,bne,u.len'];(first | refine aI (Q) (by first | rfl | simp only [aC,aE, *]) ?_ | refine aH (Q) (by first | rfl | simp only [aC,aE, *]) (by intro k;first | rfl | simp only [ *,zaa]) ?_);simp only [↓pre,zaf,eY,aBd,simprocAttr,bne,dD,U,i,s1];(first | refine aI (R) (by first | rfl | simp only [aE, *]) ?_ | refine aH (R) (by first | rfl | simp only [aE, *]) (by intro k;first | rfl | simp only [ *,zaa]) ?_);simp only [↓pre,zaf,iW,eY,cO,bD,simprocAttr,bne,U,u.addr',N,M,q,wa]
     refine oO (by kernel_rfl) ?_;simp only [↓pre,zaf,iW,eY,simprocAttr,bne,aS];refine cX (by kernel_rfl) ?_;simp only [↓pre,zad,eY,aBd,simprocAttr,bne,dD,n5,X,i,s3]
     (first | refine aI (O) (by first | rfl | simp only [aE, *]) ?_ | refine aH (O) (by first | rfl | simp only [aC,aE, *]) (by intro k;first | rfl | simp only [ *,zaa]) ?_);simp only [↓pre,zaf,iW,eY,simprocAttr,bne];(first | refine aI (W) (by first | rfl | simp only [aC,aE, *]) ?_ | refine aH (W) (by first | rfl | simp only [aC,aE, *]) (by intro k;first | rfl | simp only [ *,zaa]) ?_);simp only [↓pre,zaf,eY,aBd,simprocAttr,bne,dD,X,i,s4,f];(first | refine aI (K) (by first | rfl | simp only [aE, *]) ?_ | refine aH (K) (by first | rfl | simp only [aC,aE, *]) (by intro k;first | rfl | simp only [ *,zaa]) ?_);simp only [↓pre,zaf,iW,eY,aBm,simprocAttr,bne,aS];(first | refine aI (J) (by first | rfl | simp only [aC,aE, *]) ?_ | refine aH (J) (by first | rfl | simp only [aC,aE, *]) (by intro k;first | rfl | simp only [ *,zaa]) ?_);simp only [↓pre,za,iW,eY,simprocAttr,bne];(first | refine aI (c6) (by first | rfl | simp only [aC,aE, *]) ?_ | refine aH (c6) (by first | rfl | simp only [aC,aE, *]) (by intro k;first | rfl | simp only [*]) ?_);simp only [↓pre,zaf,iW,eY,aBg,simprocAttr,bne,aS,a0,a1,Z]
     exact ⟨0,o.out _⟩
     )
   ·rw [decide_eq_false s] at b;have Z:∀ x y,eA ayU .neq 9 x y (uK MB) (uK bs)=some (.val (.bool true)):=fun x y=>by rw [apN,decide_eq_false s];rfl
    rw [b,if_neg (by decide)] at j;have H:=g 150 j (by decide);rw [j];replace H:=aA.mk H;replace b:=aA.mk b;replace j:=aA.mk j;replace g:=aA.mk g;replace s:=aA.mk s;replace o:=aA.mk o;rcases I with A | A
    all_goals rw [A] at K J c6
    all_goals clear pt
    all_goals replace A:=aA.mk A
    all_goals (
     refine bV Tryz.func117 eY (h:=?_);unfold Tryz.f117;simp only [↓pre,zad,iW,eY,bD,aX,simprocAttr,aC,bne]
     (first | refine aI (L) (by first | rfl | simp only [aC,aE, *]) ?_ | refine aH (L) (by first | rfl | simp only [aC,aE, *]) (by intro k;first | rfl | simp only [ *,zaa]) ?_);simp only [↓pre,zaf,iW,eY,simprocAttr,bne,u.len'];(first | refine aI (Q) (by first | rfl | simp only [aC,aE, *]) ?_ | refine aH (Q) (by first | rfl | simp only [aC,aE, *]) (by intro k;first | rfl | simp only [ *,zaa]) ?_);simp only [↓pre,zaf,eY,aBd,simprocAttr,bne,dD,U,i,s1];(first | refine aI (R) (by first | rfl | simp only [aE, *]) ?_ | refine aH (R) (by first | rfl | simp only [aE, *]) (by intro k;first | rfl | simp only [ *,zaa]) ?_);simp only [↓pre,zaf,iW,eY,cO,bD,simprocAttr,bne,U,u.addr',N,M,q,wa]
     refine oO (by kernel_rfl) ?_;simp only [↓pre,zaf,iW,eY,simprocAttr,bne,aS];refine cX (by kernel_rfl) ?_;simp only [↓pre,zad,eY,aBd,simprocAttr,bne,dD,n5,X,i,s3]
     (first | refine aI (O) (by first | rfl | simp only [aE, *]) ?_ | refine aH (O) (by first | rfl | simp only [aC,aE, *]) (by intro k;first | rfl | simp only [ *,zaa]) ?_);simp only [↓pre,zaf,iW,eY,simprocAttr,bne];(first | refine aI (W) (by first | rfl | simp only [aC,aE, *]) ?_ | refine aH (W) (by first | rfl | simp only [aC,aE, *]) (by intro k;first | rfl | simp only [ *,zaa]) ?_);simp only [↓pre,zaf,eY,aBd,simprocAttr,bne,dD,X,i,s4,f];(first | refine aI (K) (by first | rfl | simp only [aE, *]) ?_ | refine aH (K) (by first | rfl | simp only [aC,aE, *]) (by intro k;first | rfl | simp only [ *,zaa]) ?_);simp only [↓pre,zaf,iW,eY,aBm,simprocAttr,bne,aS];(first | refine aI (J) (by first | rfl | simp only [aC,aE, *]) ?_ | refine aH (J) (by first | rfl | simp only [aC,aE, *]) (by intro k;first | rfl | simp only [ *,zaa]) ?_);simp only [↓pre,za,iW,eY,simprocAttr,bne];(first | refine aI (c6) (by first | rfl | simp only [aC,aE, *]) ?_ | refine aH (c6) (by first | rfl | simp only [aC,aE, *]) (by intro k;first | rfl | simp only [*]) ?_);simp only [↓pre,zaf,iW,eY,aBg,simprocAttr,bne,aS,a0,a1,Z]
     exact ⟨0,H.out _⟩
     )
  ·rw [Bool.not_eq_true] at n;rw [n,aB3] at b;rw [n] at J;rw [b,if_neg (by decide)] at j;have H:=g 150 j (by decide);rw [j];replace H:=aA.mk H;replace b:=aA.mk b;replace j:=aA.mk j;replace g:=aA.mk g;replace B:=aA.mk B;replace n:=aA.mk n;replace e:=aA.mk e;replace C:=aA.mk C;replace hw:=aA.mk hw;replace D:=aA.mk D;replace F:=aA.mk F;replace V:=aA.mk V;replace G:=aA.mk G;replace p:=aA.mk p;rcases I with A | A
   all_goals rw [A] at K J
   all_goals clear pt
   all_goals replace A:=aA.mk A
   all_goals (
    refine bV Tryz.func117 eY (h:=?_);unfold Tryz.f117;simp only [↓pre,zad,iW,eY,bD,aX,simprocAttr,aC,bne]
    (first | refine aI (L) (by first | rfl | simp only [aC,aE, *]) ?_ | refine aH (L) (by first | rfl | simp only [aC,aE, *]) (by intro k;first | rfl | simp only [ *,zaa]) ?_);simp only [↓pre,zaf,iW,eY,simprocAttr,bne,u.len'];(first | refine aI (Q) (by first | rfl | simp only [aC,aE, *]) ?_ | refine aH (Q) (by first | rfl | simp only [aC,aE, *]) (by intro k;first | rfl | simp only [ *,zaa]) ?_);simp only [↓pre,zaf,eY,aBd,simprocAttr,bne,dD,U,i,s1];(first | refine aI (R) (by first | rfl | simp only [aE, *]) ?_ | refine aH (R) (by first | rfl | simp only [aE, *]) (by intro k;first | rfl | simp only [ *,zaa]) ?_);simp only [↓pre,zaf,iW,eY,cO,bD,simprocAttr,bne,U,u.addr',N,M,q,wa]
    refine oO (by kernel_rfl) ?_;simp only [↓pre,zaf,iW,eY,simprocAttr,bne,aS];refine cX (by kernel_rfl) ?_;simp only [↓pre,zad,eY,aBd,simprocAttr,bne,dD,n5,X,i,s3]
    (first | refine aI (O) (by first | rfl | simp only [aE, *]) ?_ | refine aH (O) (by first | rfl | simp only [aC,aE, *]) (by intro k;first | rfl | simp only [ *,zaa]) ?_);simp only [↓pre,zaf,iW,eY,simprocAttr,bne];(first | refine aI (W) (by first | rfl | simp only [aC,aE, *]) ?_ | refine aH (W) (by first | rfl | simp only [aC,aE, *]) (by intro k;first | rfl | simp only [ *,zaa]) ?_);simp only [↓pre,zaf,eY,aBd,simprocAttr,bne,dD,X,i,s4,f];(first | refine aI (K) (by first | rfl | simp only [aE, *]) ?_ | refine aH (K) (by first | rfl | simp only [aC,aE, *]) (by intro k;first | rfl | simp only [ *,zaa]) ?_);simp only [↓pre,zaf,iW,eY,aBm,simprocAttr,bne,aS];(first | refine aI (J) (by first | rfl | simp only [aC,aE, *]) ?_ | refine aH (J) (by first | rfl | simp only [aC,aE, *]) (by intro k;first | rfl | simp only [ *,zaa]) ?_);simp only [↓pre,zaf,iW,eY,aBg,simprocAttr,bne,aS]
    exact ⟨0,H.out _⟩
    )
 ·have f:dI k c < ((pN bs:Nat):Int):=by unfold dI;unfold wI at G;omega
  have b:tK k r c w bs=false:=by unfold tK;rw [decide_eq_false e];rfl
  rw [b,if_neg (by decide)] at j;have H:=g 150 j (by decide);rw [j];replace H:=aA.mk H;replace b:=aA.mk b;replace j:=aA.mk j;replace g:=aA.mk g;replace e:=aA.mk e;replace hw:=aA.mk hw;replace D:=aA.mk D;replace F:=aA.mk F;replace V:=aA.mk V;replace G:=aA.mk G;replace p:=aA.mk p;refine bV Tryz.func117 eY (h:=?_);unfold Tryz.f117;simp only [↓pre,zad,iW,eY,bD,aX,simprocAttr,aC,bne]
  (first | refine aI (L) (by first | rfl | simp only [aC,aE, *]) ?_ | refine aH (L) (by first | rfl | simp only [aC,aE, *]) (by intro k;first | rfl | simp only [ *,zaa]) ?_);simp only [↓pre,zaf,iW,eY,simprocAttr,bne,u.len'];(first | refine aI (Q) (by first | rfl | simp only [aC,aE, *]) ?_ | refine aH (Q) (by first | rfl | simp only [aC,aE, *]) (by intro k;first | rfl | simp only [ *,zaa]) ?_);simp only [↓pre,zaf,eY,aBd,simprocAttr,bne,dD,U,i,s1];(first | refine aI (R) (by first | rfl | simp only [aE, *]) ?_ | refine aH (R) (by first | rfl | simp only [aE, *]) (by intro k;first | rfl | simp only [ *,zaa]) ?_);simp only [↓pre,zaf,iW,eY,cO,bD,simprocAttr,bne,U,u.addr',N,M,q,wa]
  refine oO (by kernel_rfl) ?_;simp only [↓pre,zaf,iW,eY,simprocAttr,bne,aS];refine cX (by kernel_rfl) ?_;simp only [↓pre,zad,eY,aBd,simprocAttr,bne,dD,n5,X,i,s3]
  (first | refine aI (O) (by first | rfl | simp only [aE, *]) ?_ | refine aH (O) (by first | rfl | simp only [aC,aE, *]) (by intro k;first | rfl | simp only [ *,zaa]) ?_);simp only [↓pre,zaf,iW,eY,simprocAttr,bne];(first | refine aI (W) (by first | rfl | simp only [aC,aE, *]) ?_ | refine aH (W) (by first | rfl | simp only [aC,aE, *]) (by intro k;first | rfl | simp only [ *,zaa]) ?_);simp only [↓pre,zaf,iW,eY,aBg,simprocAttr,bne,aS,f]
  exact ⟨0,H.out _⟩
def kQ:Nat→Bool:=fun d=>d != 4
theorem axY (k r c w:Int) (v:AV) (ps:List aO) (cells:List AV) (o:dG v ps cells):aQ ayU 39 [aC k r c w,v] ⟨yX k r c w ps,[]⟩:=by
 refine gA ?_;have g:=ahM k r c w v ps cells o;have G:=uS o.rd;have E:=uT o.rd;have M:=bW o.rd;have J:=bR o.rd;have N:=o.rd.plain;have b:jG k r c w ps≠0→∀ m,fzT 0 m (.tup [.agg [.val (.int .i64 0),.val (.int .i64 0),.val (.slice none 0 0)],.val (.int .i64 0),.val (.int .i64 (jG k r c w ps))])=some (yX k r c w ps):=fun h m=>by
  unfold yX;rw [if_neg h];exact afH (fun x s=>by
   simp only [az7,aBY,or_false] at s;rcases s with rfl | rfl | rfl
   ·exact abb fun c i=>by
     simp only [az7,aBY,or_false] at i;rcases i with rfl | rfl | rfl <;> exact dK _
   ·exact dK _
   ·exact dK _) 0 m
 by_cases i:cS k r c w ps=0
 ·obtain ⟨B,F⟩:=uU i;have f:jG k r c w ps=if cY k r c w ps=0 then 5 else if jF k r c w ps 2 (cY k r c w ps) < k.toNat then 5 else nF k r c w (iU k r c w ps):=by unfold jG;rw [if_pos i]
  have j:=ah0 k r c w v ps cells o i;rw [i] at g;rw [show (fU k r c w ps).getD 0 0=cY k r c w ps from rfl,show (fU k r c w ps).getD 1 0=mQ k r c w ps from rfl] at j;generalize mQ k r c w ps=O at *
  have n:=afU i;have a:=axK k r c w 2 (cY k r c w ps) v ps cells o B F;have e:jG k r c w ps=0→yX k r c w ps = .tup [xM (fQ (iU k r c w ps)) (fK (iU k r c w ps)) (dT (iU k r c w ps)),aB (cY k r c w ps),aB 0]:=fun h=>by unfold yX;rw [if_pos h]
  have u:=aiI (ps:=ps) B;have A:iU k r c w ps=wG k r c w ps 2 (cY k r c w ps) k.toNat:=rfl;unfold acx at a;rw [←A] at a;clear A;generalize cY k r c w ps=W at *
  generalize iU k r c w ps=D at *
  by_cases y:W=0
  ·subst y;rw [if_pos rfl] at f;have b:=b (by rw [f];decide);rw [f] at b;replace b:=aA.mk b;replace f:=aA.mk f;clear a n e;refine bV Tryz.func39 kQ (h:=?_);unfold Tryz.f39;simp only [↓pre,zad,mX,kQ,bD,aX,simprocAttr,aC,bne]
   (first | refine aI (g) (by first | rfl | simp only [aE, *]) ?_ | refine aH (g) (by first | rfl | simp only [aC,aE, *]) (by intro k;first | rfl | simp only [ *,zaa]) ?_);simp only [↓pre,zaf,mX,kQ,simprocAttr,bne];(first | refine aI (j) (by first | rfl | simp only [aE, *]) ?_ | refine aH (j) (by first | rfl | simp only [aC,aE, *]) (by intro k;first | rfl | simp only [ *,zaa]) ?_);simp only [↓pre,zaf,mX,kQ,simprocAttr,bne,aS]
   exact ⟨0,b.out _⟩
  ·rw [if_neg y] at f;clear n;by_cases l:jF k r c w ps 2 W < k.toNat
   ·rw [if_pos l] at f a;have b:=b (by rw [f];decide);rw [f] at b;replace b:=aA.mk b;replace f:=aA.mk f;clear e;simp only [aW] at a;refine bV Tryz.func39 kQ (h:=?_);unfold Tryz.f39;simp only [↓pre,zad,mX,kQ,bD,aX,simprocAttr,aC,bne]
    (first | refine aI (g) (by first | rfl | simp only [aE, *]) ?_ | refine aH (g) (by first | rfl | simp only [aC,aE, *]) (by intro k;first | rfl | simp only [ *,zaa]) ?_);simp only [↓pre,zaf,mX,kQ,simprocAttr,bne];(first | refine aI (j) (by first | rfl | simp only [aE, *]) ?_ | refine aH (j) (by first | rfl | simp only [aC,aE, *]) (by intro k;first | rfl | simp only [ *,zaa]) ?_);simp only [↓pre,zaf,mX,kQ,simprocAttr,bne,y];(first | refine aI (a) (by first | rfl | simp only [aE, *]) ?_ | refine aH (a) (by first | rfl | simp only [aC,aE, *]) (by intro k;first | rfl | simp only [ *,zaa]) ?_);simp only [↓pre,zaf,mX,kQ,simprocAttr,bne,aS]
    exact ⟨0,b.out _⟩
   ·rw [if_neg l] at f a;have d:=axX k r c w B (bE (k.toNat*c.toNat) (aJ D)) D [] (aoX D _ u) (by rw [u];unfold wI;have:=kW.1 B;rw [Int.natCast_mul,aB4 (by omega),aB4 (by omega)]);unfold acy at d;have K:=(eQ (k.toNat*c.toNat) (aJ D)).plain;rw [←f] at d;replace l:=aA.mk l;by_cases z:jG k r c w ps=0
    ·rw [z,if_pos rfl] at d;have e:=e z;have q:=fun m=>afH (fun x (s:x∈[xM (fQ D) (fK D) (dT D),aB W,aB 0])=>by
      simp only [az7,aBY,or_false] at s;rcases s with rfl | rfl | rfl
      ·exact aoV _ _ _
      ·exact dK _
      ·exact dK _) 0 m
     rw [←e] at q;unfold xM at d;rw [e] at q;unfold xM at q;rw [e];unfold xM;replace e:=aA.mk e;replace f:=aA.mk f;replace b:=aA.mk b;generalize fQ D=L at *
     generalize fK D=I at *
     generalize dT D=p at *
     have t:bE p.length (cU p) = .val (.slice none 0 0)∨bE p.length (cU p) = .tree p.length p.length (cU p) false:=by unfold bE;split;exact .inl rfl;exact .inr rfl
     rcases t with C | C
     all_goals rw [C] at d q ⊢
     all_goals replace C:=aA.mk C
     all_goals replace q:=aA.mk q
     all_goals (
      refine bV Tryz.func39 kQ (h:=?_);unfold Tryz.f39;simp only [↓pre,zad,mX,kQ,bD,aX,simprocAttr,aC,bne]
      (first | refine aI (g) (by first | rfl | simp only [aE, *]) ?_ | refine aH (g) (by first | rfl | simp only [aC,aE, *]) (by intro k;first | rfl | simp only [ *,zaa]) ?_);simp only [↓pre,zaf,mX,kQ,simprocAttr,bne];(first | refine aI (j) (by first | rfl | simp only [aE, *]) ?_ | refine aH (j) (by first | rfl | simp only [aC,aE, *]) (by intro k;first | rfl | simp only [ *,zaa]) ?_);simp only [↓pre,zaf,mX,kQ,simprocAttr,bne,y];(first | refine aI (a) (by first | rfl | simp only [aE, *]) ?_ | refine aH (a) (by first | rfl | simp only [aC,aE, *]) (by intro k;first | rfl | simp only [ *,zaa]) ?_);simp only [↓pre,zaf,mX,kQ,qS,simprocAttr,bne];(first | refine aI (d) (by first | rfl | simp only [aE, *]) ?_ | refine aH (d) (by first | rfl | simp only [aC,aE, *]) (by intro k;first | rfl | simp only [ *,zaa]) ?_);simp only [↓pre,zaf,mX,kQ,bD,aBg,simprocAttr,bne,aS]
      exact ⟨0,q.out _⟩
     )
    ·rw [if_neg z] at d;have b:=b z;replace b:=aA.mk b;replace f:=aA.mk f;replace e:=aA.mk e;generalize jG k r c w ps=H at *
     unfold wJ aW at d;refine bV Tryz.func39 kQ (h:=?_);unfold Tryz.f39;simp only [↓pre,zad,mX,kQ,bD,aX,simprocAttr,aC,bne]
     (first | refine aI (g) (by first | rfl | simp only [aE, *]) ?_ | refine aH (g) (by first | rfl | simp only [aC,aE, *]) (by intro k;first | rfl | simp only [ *,zaa]) ?_);simp only [↓pre,zaf,mX,kQ,simprocAttr,bne];(first | refine aI (j) (by first | rfl | simp only [aE, *]) ?_ | refine aH (j) (by first | rfl | simp only [aC,aE, *]) (by intro k;first | rfl | simp only [ *,zaa]) ?_);simp only [↓pre,zaf,mX,kQ,simprocAttr,bne,y];(first | refine aI (a) (by first | rfl | simp only [aE, *]) ?_ | refine aH (a) (by first | rfl | simp only [aC,aE, *]) (by intro k;first | rfl | simp only [ *,zaa]) ?_);simp only [↓pre,zaf,mX,kQ,qS,simprocAttr,bne];(first | refine aI (d) (by first | rfl | simp only [aE, *]) ?_ | refine aH (d) (by first | rfl | simp only [aC,aE, *]) (by intro k;first | rfl | simp only [ *,zaa]) ?_);simp only [↓pre,zaf,mX,kQ,bD,aBg,simprocAttr,bne,aS,z]
     exact ⟨0,b.out _⟩
 ·have f:jG k r c w ps=cS k r c w ps:=by unfold jG;rw [if_neg i]
  have b:=b (by rw [f];exact i);rw [f] at b;replace b:=aA.mk b;replace f:=aA.mk f;refine bV Tryz.func39 kQ (h:=?_);unfold Tryz.f39;simp only [↓pre,zad,mX,kQ,bD,aX,simprocAttr,aC,bne]
  (first | refine aI (g) (by first | rfl | simp only [aE, *]) ?_ | refine aH (g) (by first | rfl | simp only [aC,aE, *]) (by intro k;first | rfl | simp only [ *,zaa]) ?_);simp only [↓pre,zaf,mX,kQ,simprocAttr,bne,aS,i]
  exact ⟨0,b.out _⟩
theorem axZ (N:Nat):bQ ((N:Nat):Int) 4=[azQ (N / 16777216),azQ (N / 65536 % 256),azQ (N / 256 % 256),azQ (N % 256)]:=by
 have h:∀ a,azQ (a % 256)=azQ a:=fun a=>UInt8.ofNat_mod_size
 rw [abl,abl,abl,abl,h,h,h];show [azQ (N / 16777216),azQ (N / 65536),azQ (N / 256),azQ (N / 1)]=_;rw [Nat.div_one]
structure agb (m:aF) (v:AV) (cs:List AV):Prop where
 form:Own m 5 1 v cs.length cs∨v = .tree cs.length cs.length cs true
theorem agb.app {m:aF} {v:AV} {cs:List AV} {a b c d:AV} {K:bL→Prop} (h:agb m v cs) (o:cs.length≤100000) (f:∀ v' m',Own m' 5 1 v' (cs++[a,b,c,d]).length (cs++[a,b,c,d])→K ⟨v',m',none⟩):eO (fR ayU 5 m v (.tree 4 4 [a,b,c,d] true)) K:=by
 have e:eM ayU 5 1 m (.tree 4 4 [a,b,c,d] true)=some ([a,b,c,d],4):=abQ (by simp);rcases h.form with h | rfl
 ·refine nP (sz:=1) (y:=1) (zl:=[.int .u8 0]) (by kernel_rfl) h (by kernel_rfl) (by kernel_rfl) (by kernel_rfl) rfl e rfl (by omega) (by omega) fun v' m' k _=>f v' m' ?_
  rw [aA2];exact k
 ·have j:bX ayU 5=some 1:=by kernel_rfl
  have l:jN ayU 5=some 1:=by kernel_rfl
  have n:gF ayU 5=some [.int .u8 0]:=by kernel_rfl
  have g:bK ayU 5 = .flat:=by kernel_rfl
  have i:fR ayU 5 m (.tree cs.length cs.length cs true) (.tree 4 4 [a,b,c,d] true)=some ⟨.sl m.next 0 (cs.length+4) (cs.length+4) false,m.push ⟨cs++[a,b,c,d],5,.flat,true⟩,none⟩:=by
   simp only [fR,j,l,n,g,e,dR,aAk];rw [if_pos ⟨by omega,by omega,rfl⟩];simp [bI]
  rw [i];refine f _ _ ⟨.inr ⟨m.next,by rw [aA2];rfl,by rw [cF,if_pos rfl],by rw [cQ];omega,by rw [aA2];show 0 < _+4;omega⟩,by simp⟩
theorem ai9 (m0:aF) (d:AV) (cs:List AV) (n:Int) (u:agb m0 d cs) (B:0≤n) (j:n≤1073741824) (o:cs.length≤100000):dV ayU 308 [d,aB n] m0 fun r m'=>Own m' 5 1 r (cs++aJ (bQ n 4)).length (cs++aJ (bQ n 4)):=by
 obtain ⟨N,rfl⟩:∃ N:Nat,n=(N:Int):=⟨n.toNat,by omega⟩
 rw [axZ N];have m:((N:Nat):Int).tdiv 16777216=((N / 16777216:Nat):Int):=by rw [aCh (by omega)];omega
 have l:((N:Nat):Int).tdiv 65536=((N / 65536:Nat):Int):=by rw [aCh (by omega)];omega
 have t:((N:Nat):Int).tdiv 256=((N / 256:Nat):Int):=by rw [aCh (by omega)];omega
 have w1:azy.wrap ((N / 16777216:Nat):Int)=((N / 16777216:Nat):Int):=dO (by omega);have e:azy.wrap ((N / 65536:Nat):Int)=((N / 65536:Nat):Int):=dO (by omega);have p:azy.wrap ((N / 256:Nat):Int)=((N / 256:Nat):Int):=dO (by omega);have r2:((N / 65536:Nat):Int).tmod 256=((N / 65536 % 256:Nat):Int):=by rw [Int.tmod_eq_emod_of_nonneg (by omega)];omega
 have v:((N / 256:Nat):Int).tmod 256=((N / 256 % 256:Nat):Int):=by rw [Int.tmod_eq_emod_of_nonneg (by omega)];omega
 have s:((N:Nat):Int).tmod 256=((N % 256:Nat):Int):=by rw [Int.tmod_eq_emod_of_nonneg (by omega)];omega
 have k:=vM (N / 16777216);have q:=vM (N / 65536 % 256);have i:=vM (N / 256 % 256);have f:=vM (N % 256);generalize N / 16777216=A at *
 generalize N / 65536=w at *
 generalize N / 256=g at *
 generalize b:w % 256=z at *
 generalize c:g % 256=y at *
 generalize a:N % 256=x at *
 clear b c a;refine bV Tryz.func308 aD (h:=?_);unfold Tryz.f308;simp only [↓pre,zab,ata,cO,aiJ,simprocAttr,m,l,t,w1,e,p,r2,v,s,k,q,i,f];refine u.app o fun v' m' h => ?_
 simp only [↓pre,simprocAttr];exact h
theorem ax0 (s:jK) (vv dv:AV) (x y:List AV) (I:aT vv s.vec.length (bJ s.vec++x)) (hd:aT dv s.data.length (aJ s.data++y)) (E:s.kd=1∨s.kd=2) (H:0≤s.ix) (o:0≤s.ce∧s.ce≤1073741824) (r:0≤s.st∧s.st≤1073741824) (B:∀ v∈s.vec,0≤v∧v≤1073741824) (d:s.vec.length≤16) (F:s.data.length≤70000):aQ ayU 260 [.agg [.val (.int .u8 s.kd),aB s.ix,aB s.ce,aB s.st,vv,dv]] ⟨bE (gR s).length (aJ (gR s)),[]⟩:=by
 refine gA ?_;have f:s.kd=((azQ s.kd.toNat).toNat:Int):=by rcases E with h | h <;> (rw [h];rfl)
 have L:IntKind.u8.wrap s.ix=((azQ s.ix.toNat).toNat:Int):=by
  have:=vM s.ix.toNat;rw [aB4 H] at this;exact this
 have f1:=bW I;have f2:=bW hd;have q1:=bR I;have q2:=bR hd;have j:gR s=[84,50,azQ s.kd.toNat,azQ s.ix.toNat]++(bQ s.ce 4++(bQ s.st 4++(fM s.vec++s.data))):=rfl;obtain ⟨kd,ix,ce,st,vec,data⟩:=s;simp only at *
 replace j:=aA.mk j;replace B:=aA.mk B;replace E:=aA.mk E;replace H:=aA.mk H;replace o:=aA.mk o;replace r:=aA.mk r;replace d:=aA.mk d;replace F:=aA.mk F;refine bV Tryz.func260 aD (h:=?_);unfold Tryz.f260;simp only [↓pre,zab,ae5,cO,aiJ,simprocAttr,f1,f2,L];have D:([.val (.int .u8 84),.val (.int .u8 50),.val (.int .u8 kd),.val (.int .u8 ((azQ ix.toNat).toNat:Int))]:List AV)=aJ [84,50,azQ kd.toNat,azQ ix.toNat]:=by
  show _=[bA 84,bA 50,bA (azQ kd.toNat),bA (azQ ix.toNat)];unfold bA;rw [←f];rfl
 have C:∀ m,agb m (.tree 4 4 [.val (.int .u8 84),.val (.int .u8 50),.val (.int .u8 kd),.val (.int .u8 ((azQ ix.toNat).toNat:Int))] true) (aJ [84,50,azQ kd.toNat,azQ ix.toNat]):=fun m=>⟨.inr (by rw [D];rfl)⟩
 generalize t:aJ [84,50,azQ kd.toNat,azQ ix.toNat]=V at *
 have b:V.length=4:=by rw [←t];rfl
 have c1:=fun m=>ai9 m _ V ce (C m) o.out.1 o.out.2 (by omega)
 replace D:=aA.mk D;replace C:=aA.mk C;replace t:=aA.mk t;replace b:=aA.mk b;replace f:=aA.mk f;simp only [aB] at c1;refine jD (c1 _) ?_;intro a0 m1 R;clear c1;have c2:=ai9 m1 a0 _ st ⟨.inl R⟩ r.out.1 r.out.2 (by rw [aA2,eS,fX,b.out];omega);simp only [aB] at c2;replace R:=aA.mk R;simp only [↓pre,zab,ae5,simprocAttr];refine jD c2 ?_;intro N m2 o2;clear c2;generalize l:V++aJ (bQ ce 4)++aJ (bQ st 4)=k at *
 have c:k.length=12:=by rw [←l,aA2,aA2,eS,eS,fX,fX,b.out]
 have Z:Own m2 5 1 N (k++aJ (fM (vec.take 0))).length (k++aJ (fM (vec.take 0))):=by simpa [fM,aJ] using o2
 clear o2;replace l:=aA.mk l;replace c:=aA.mk c;replace Z:=aA.mk Z;simp only [↓pre,simprocAttr];rw [bS];refine bU (fun q e m=>∃ i Q,q+i=vec.length∧e 1 = .tptr 0 [.val (.int .u8 kd),.val (.int .i64 ix),.val (.int .i64 ce),.val (.int .i64 st),vv,dv]∧e 3=Q∧e 4=aB (i:Nat)∧aA (Own m 5 1 Q (k++aJ (fM (vec.take i))).length (k++aJ (fM (vec.take i))))) vec.length ⟨0,N,by omega,rfl,rfl,rfl,Z⟩ ?_;rintro q e m ⟨i,Q,O,e1,e3,e4,W⟩;replace O:=aA.mk O;by_cases K:i < vec.length
 ·have g:((i:Nat):Int) < ((vec.length:Nat):Int):=by omega
  have wi:=cB (n:=i) (by have:=d.out;omega);obtain ⟨z,J⟩:∃ z,vec[i]? = some z:=⟨_,azm K⟩
  have X:=nU (x:=x) J;have p:=B.out z (az8 J);have G:fM (vec.take (i+1))=fM (vec.take i)++bQ z 4:=by rw [aA9,J];simp [fM]
  have a:(k++aJ (fM (vec.take i))).length≤100:=by rw [aA2,eS,aay,List.length_take,c.out];have:=d.out;omega
  have Y:=ai9 m Q _ z ⟨.inl W.out⟩ p.1 p.2 (by omega);rw [azW,←qH,←G] at Y;replace J:=aA.mk J;replace p:=aA.mk p;replace G:=aA.mk G;replace a:=aA.mk a;simp only [aB] at Y;simp only [↓pre,zae,ae5,simprocAttr,e1,e3,e4,I.len',g,I.addr',K,X];refine jD Y ?_;intro T m3 S;replace S:=aA.mk S;simp only [↓pre,zab,simprocAttr,e1,e4,wi];exact ⟨q - 1,by have:=O.out;omega,i+1,T,by have:=O.out;omega,rfl,rfl,S⟩
 ·have g:¬ ((i:Nat):Int) < ((vec.length:Nat):Int):=by omega
  have hi:i=vec.length:=by have:=O.out;omega
  subst hi;rw [List.take_length] at W;have A:=aT.src (P:=ayU) (m:=m) (el:=5) (sz:=1) hd (by rw [azG,aA2,eS];omega);rw [azG,List.take_left' (eS data)] at A;have a:(k++aJ (fM vec)).length≤100:=by rw [aA2,eS,aay,c.out];have:=d.out;omega
  have w:=F.out;replace a:=aA.mk a;replace w:=aA.mk w;simp only [↓pre,zae,ae5,cO,simprocAttr,e1,e3,e4,I.len',g];refine nP (sz:=1) (y:=1) (zl:=[.int .u8 0]) (by kernel_rfl) W.out (by kernel_rfl) (by kernel_rfl) (by kernel_rfl) rfl A (by rw [eS];omega) (by have:=a.out;have:=w.out;omega) (by have:=a.out;have:=w.out;omega) ?_;intro v4 m4 u a1;have M:(k++aJ (fM vec))++aJ data=aJ (gR ⟨kd,ix,ce,st,vec,data⟩):=by
   rw [j.out,←l.out,←t.out];simp only [qH,azW]
  have U:(k++aJ (fM vec)).length+data.length=(gR ⟨kd,ix,ce,st,vec,data⟩).length:=by
   have:=congrArg List.length M;rw [aA2,eS,eS] at this;exact this
  rw [M,U] at u;replace u:=aA.mk u;simp only [↓pre,simprocAttr];exact ⟨0,yS u.out 0⟩
theorem ax1 {k r c w:Int} {bs:List UInt8} {ix:Int} (h:eF k r c w bs ix=true):1≤(bN k r bs).ce:=by
 have a:dP k r c w bs=true:=by unfold eF at h;rw [aAq] at h;exact h.1
 have hs:=aav a;exact ((xK hs.vec).2 _ (az8 hs.ce)).1
theorem aqe (k r c w:Int) (bs:List UInt8) (ix kd:Int):eX k r c w bs ix kd 0=false:=by
 rw [ai4];cases h:eF k r c w bs ix with
 | false=>rfl
 | true =>
  have:=ax1 h;rw [decide_eq_false (p:=(bN k r bs).ce=0) (by omega),Bool.and_false,Bool.and_false]
theorem aqf {k r c w:Int} {bs:List UInt8} {ix:Int} (h:eF k r c w bs ix=true):(dW k r c w bs).ce=(bN k r bs).ce:=by
 have a:dP k r c w bs=true:=by unfold eF at h;rw [aAq] at h;exact h.1
 unfold dW;rw [if_pos a];rfl
theorem ax2 (k r c w kd ix d:Int) (a b:AV) (p:aO) (M T:List AV) (C:aT a p.1.length (aJ p.1++M)) (B:aT b p.2.length (aJ p.2++T)) (N:bG k r c w=true) (z:0≤d):aQ ayU 259 [aC k r c w,.agg [a,b],.val (.int .u8 kd),aB ix,aB d] ⟨aB (qF k r c w p ix kd d:Nat),[]⟩:=by
 have g:=ap6 k r c w kd ix d a b p M T C B N;obtain ⟨a2,i1,U,Y,Z,W,l,G⟩:=acH k r c w ix a p.1 M C N;obtain ⟨V,i2,O,a3,a0,a1,m,J⟩:=acH k r c w ix b p.2 T B N;have E:=aqe k r c w p.1 ix kd;have D:=aqe k r c w p.2 ix kd;have i:=fun h=>aqf (k:=k) (r:=r) (c:=c) (w:=w) (bs:=p.1) (ix:=ix) h
 have j:=fun h=>aqf (k:=k) (r:=r) (c:=c) (w:=w) (bs:=p.2) (ix:=ix) h
 have pa:=C.plain;have pb:=B.plain;have u:=bW C;have v:=bW B;have oa:=bR C;have ob:=bR B;obtain ⟨n1,y1,F⟩:=G.r1;obtain ⟨n2,y2,x⟩:=G.r2;obtain ⟨n3,y3,y⟩:=J.r1;obtain ⟨n4,y4,A⟩:=J.r2;have I:=bW F;have K:=bW x;have R:=bW y;have Q:=bW A;have q1:=bR F;have q2:=bR x;have q3:=bR y;have q4:=bR A;have H:=dB F;have L:=dB x;have P:=dB y;have S:=dB A;have p1:=F.plain;have p2:=x.plain;have p3:=y.plain;have p4:=A.plain;have e:=G.is;have f:=J.is;clear G J F x y A;unfold xP at g;simp only [aB] at g l m;by_cases o:eX k r c w p.1 ix kd d=true
 ·have q:0 < d:=by
   rcases Int.lt_or_eq_of_le z with h | h
   ·exact h
   ·rw [←h,E] at o;cases o
  have t:qF k r c w p ix kd d=1:=by unfold qF;rw [if_pos ⟨q,o⟩]
  rw [t];rw [if_pos o] at g;clear l m i j e f;refine aV Tryz.func259 aD (h:=?_);unfold Tryz.f259;simp only [↓pre,zab,oR,aB0,simprocAttr,aC,u,v]
  (first | refine aI (g) (by first | rfl | simp only [aE, *]) ?_ | refine aH (g) (by first | rfl | simp only [aC,aE, *]) (by intro k;first | rfl | simp only [ *,zaa]) ?_);simp only [↓pre,zac,aX,rB,simprocAttr]
 ·rw [if_neg o] at g;by_cases s:eX k r c w p.2 ix kd d=true
  ·have q:0 < d:=by
    rcases Int.lt_or_eq_of_le z with h | h
    ·exact h
    ·rw [←h,D] at s;cases s
   have t:qF k r c w p ix kd d=0:=by unfold qF;rw [if_neg fun h=>o h.2,if_pos ⟨q,s⟩]
   rw [t];rw [if_pos s] at g;clear l m i j e f;refine aV Tryz.func259 aD (h:=?_);unfold Tryz.f259;simp only [↓pre,zab,oR,aB0,simprocAttr,aC,u,v]
   (first | refine aI (g) (by first | rfl | simp only [aE, *]) ?_ | refine aH (g) (by first | rfl | simp only [aC,aE, *]) (by intro k;first | rfl | simp only [ *,zaa]) ?_);simp only [↓pre,zac,aX,ww0,simprocAttr]
  ·rw [if_neg s] at g;have t:qF k r c w p ix kd d=if eF k r c w p.1 ix=false then 0 else if eF k r c w p.2 ix=false then 1 else if (dW k r c w p.2).ce < (dW k r c w p.1).ce then 1 else 0:=by
    unfold qF;rw [if_neg fun h=>o h.2,if_neg fun h=>s h.2]
   rw [t];clear t o s E D;generalize eF k r c w p.1 ix=X at *
   generalize eF k r c w p.2 ix=b2 at *
   cases X with
   | false =>
    rw [if_pos rfl];clear i j e f;refine aV Tryz.func259 aD (h:=?_);unfold Tryz.f259;simp only [↓pre,zab,oR,aB0,simprocAttr,aC,u,v]
    (first | refine aI (g) (by first | rfl | simp only [aE, *]) ?_ | refine aH (g) (by first | rfl | simp only [aC,aE, *]) (by intro k;first | rfl | simp only [ *,zaa]) ?_);simp only [↓pre,zae,oR,bH,aX,simprocAttr];(first | refine aI (l) (by first | rfl | simp only [aE, *]) ?_ | refine aH (l) (by first | rfl | simp only [aC,aE, *]) (by intro k;first | rfl | simp only [ *,zaa]) ?_);simp only [↓pre,zae,oR,bD,aX,simprocAttr,aS,I,K,H,L]
   | true =>
    rw [if_neg (by decide)];cases b2 with
    | false =>
     rw [if_pos rfl];clear i j e f;refine aV Tryz.func259 aD (h:=?_);unfold Tryz.f259;simp only [↓pre,zab,oR,aB0,simprocAttr,aC,u,v]
     (first | refine aI (g) (by first | rfl | simp only [aE, *]) ?_ | refine aH (g) (by first | rfl | simp only [aC,aE, *]) (by intro k;first | rfl | simp only [ *,zaa]) ?_);simp only [↓pre,zae,oR,bH,aX,simprocAttr];(first | refine aI (l) (by first | rfl | simp only [aE, *]) ?_ | refine aH (l) (by first | rfl | simp only [aC,aE, *]) (by intro k;first | rfl | simp only [ *,zaa]) ?_);simp only [↓pre,zae,oR,bH,bD,aX,simprocAttr,aS,I,K,H,L];(first | refine aI (m) (by first | rfl | simp only [aE, *]) ?_ | refine aH (m) (by first | rfl | simp only [aC,aE, *]) (by intro k;first | rfl | simp only [ *,zaa]) ?_);simp only [↓pre,zae,oR,bD,aX,simprocAttr,aS,R,Q,P,S]
    | true =>
     rw [if_neg (by decide),i rfl,j rfl,←(e rfl).2.1,←(f rfl).2.1];clear i j e f;by_cases n:O < U
     ·rw [if_pos n];refine aV Tryz.func259 aD (h:=?_);unfold Tryz.f259;simp only [↓pre,zab,oR,aB0,simprocAttr,aC,u,v]
      (first | refine aI (g) (by first | rfl | simp only [aE, *]) ?_ | refine aH (g) (by first | rfl | simp only [aC,aE, *]) (by intro k;first | rfl | simp only [ *,zaa]) ?_);simp only [↓pre,zae,oR,bH,aX,simprocAttr];(first | refine aI (l) (by first | rfl | simp only [aE, *]) ?_ | refine aH (l) (by first | rfl | simp only [aC,aE, *]) (by intro k;first | rfl | simp only [ *,zaa]) ?_);simp only [↓pre,zae,oR,bH,bD,aX,simprocAttr,aS,I,K,H,L];(first | refine aI (m) (by first | rfl | simp only [aE, *]) ?_ | refine aH (m) (by first | rfl | simp only [aC,aE, *]) (by intro k;first | rfl | simp only [ *,zaa]) ?_);simp only [↓pre,zae,oR,bD,aX,simprocAttr,aS,R,Q,P,S,n]
     ·rw [if_neg n];refine aV Tryz.func259 aD (h:=?_);unfold Tryz.f259;simp only [↓pre,zab,oR,aB0,simprocAttr,aC,u,v]
      (first | refine aI (g) (by first | rfl | simp only [aE, *]) ?_ | refine aH (g) (by first | rfl | simp only [aC,aE, *]) (by intro k;first | rfl | simp only [ *,zaa]) ?_);simp only [↓pre,zae,oR,bH,aX,simprocAttr];(first | refine aI (l) (by first | rfl | simp only [aE, *]) ?_ | refine aH (l) (by first | rfl | simp only [aC,aE, *]) (by intro k;first | rfl | simp only [ *,zaa]) ?_);simp only [↓pre,zae,oR,bH,bD,aX,simprocAttr,aS,I,K,H,L];(first | refine aI (m) (by first | rfl | simp only [aE, *]) ?_ | refine aH (m) (by first | rfl | simp only [aC,aE, *]) (by intro k;first | rfl | simp only [ *,zaa]) ?_);simp only [↓pre,zae,oR,bD,aX,simprocAttr,aS,R,Q,P,S,n]
theorem ax3 (k r c w ver:Int) (v:bG k r c w=true):aQ ayU 202 [aC k r c w,aB ver] ⟨bE (k+r).toNat (bJ (aBr (k+r).toNat ver)),[]⟩:=by
 refine gA ?_;have f:=vS k r c w v;have j:=fG v;have a:∀ (m:aF) (i:Int),fY ayU m 41 1 [(0,.val (.int .i64 i))]=some ⟨.tree 1 1 [.val (.int .i64 i)] true,m,none⟩:=fun m i=>ag5 (by kernel_rfl) (by kernel_rfl)
 obtain ⟨N,o⟩:∃ N:Nat,k+r=(N:Int):=⟨(k+r).toNat,by omega⟩
 have B:N≤16:=by omega
 rw [o] at f ⊢;rw [Int.toNat_natCast];replace j:=aA.mk j;replace o:=aA.mk o;simp only [aB] at f;refine bV Tryz.func202 aD (h:=?_);unfold Tryz.f202;simp only [↓pre,zab,ae1,simprocAttr,aC];rw [bS];refine bU (fun q e m=>∃ i s,q+i=N∧e 1=aB ver∧e 2 = .tptr 0 [aB k,aB r,aB c,aB w]∧e 5=s∧e 6=aB (i:Nat)∧aA (Own m 3 1 s i (bJ (aBr i ver)))) N ⟨0,aW,by omega,rfl,rfl,rfl,rfl,⟨gK⟩⟩ ?_;rintro q e m ⟨i,s,l,A,p,z,u,x⟩;replace l:=aA.mk l;by_cases C:i < N
 ·have b:((i:Nat):Int) < ((N:Nat):Int):=by omega
  have w1:=cB (n:=i) (by omega);simp only [↓pre,zab,ae1,simprocAttr,p,u]
  (first | refine aI (f) (by first | rfl | simp only [aC,aE, *]) ?_ | refine aH (f) (by first | rfl | simp only [aC,aE, *]) (by intro k;first | rfl | simp only [ *,zaa]) ?_);simp only [↓pre,zac,ae1,cO,simprocAttr,A,z,b,a]
  refine nP (sz:=1) (y:=8) (zl:=[.int .i64 0]) (by kernel_rfl) x.out (by kernel_rfl) (by kernel_rfl) (by kernel_rfl) rfl lV rfl (by omega) (by omega) ?_;intro t m' d D;have g:bJ (aBr (i+1) ver)=bJ (aBr i ver)++[.val (.int .i64 ver)]:=by rw [List.replicate_succ',acf];rfl
  rw [←g] at d;replace d:=aA.mk d;simp only [↓pre,zab,simprocAttr,A,p,u,w1];exact ⟨q - 1,by have:=l.out;omega,i+1,t,by have:=l.out;omega,rfl,rfl,d⟩
 ·have b:¬ ((i:Nat):Int) < ((N:Nat):Int):=by omega
  have hi:i=N:=by have:=l.out;omega
  subst hi;simp only [↓pre,zab,ae1,simprocAttr,p,u]
  (first | refine aI (f) (by first | rfl | simp only [aC,aE, *]) ?_ | refine aH (f) (by first | rfl | simp only [aC,aE, *]) (by intro k;first | rfl | simp only [ *,zaa]) ?_);simp only [↓pre,zac,simprocAttr,z,b]
  exact ⟨0,yS x.out 0⟩
def sK:Nat→Bool:=fun d=>d != 10
theorem aqg (k r c w num a:Int) (v:AV) (ps:List aO) (cells:List AV) (u:dG v ps cells) (hm:bG k r c w=true) (hr:dE k r c ps=true) (a5:0≤a) (s:jK) (hs:wE k r c w s) (vv dv:AV) (x y:List AV) (A:aT vv s.vec.length (bJ s.vec++x)) (W:aT dv s.data.length (aJ s.data++y)):aQ ayU 203 [aC k r c w,v,aB num,aB a,.agg [.val (.int .u8 s.kd),aB s.ix,aB s.ce,aB s.st,vv,dv]] ⟨.agg (gS k r c w ps num (kO k r c w ps s.kd a) s).cells,[]⟩:=by
 obtain ⟨hl,V⟩:=qR hr;have O:=fG hm;have f:=ai5 k r c w s.kd a v ps cells u hm (by omega);obtain ⟨R,t⟩:=xK hs.vec;have E:=t _ (az8 hs.ce);have q:0≤s.st∧s.st≤1073741824:=by
  rw [hs.st];exact afW s.vec 0 (by omega) fun v u=>(t v u).2
 have g:=ax0 s vv dv x y A W hs.kd hs.ix0 (by omega) q (fun v u=>by have:=t v u;omega) (by omega) (by have:=hs.data;omega);obtain ⟨i,hi⟩:∃ i:Nat,s.ix=(i:Int):=⟨s.ix.toNat,by have:=hs.ix0;omega⟩
 have Z:s.ix.toNat=i:=by omega
 have C:i < ps.length:=by have:=hs.ix1;omega
 obtain ⟨p,B⟩:∃ p,ps[i]? = some p:=⟨_,azm C⟩
 have a0:ps.getD i ([],[])=p:=by rw [azs,B];rfl
 obtain ⟨pa,pb,xa,xb,ha,hb,U,Q⟩:=u.at_ i p B;obtain ⟨Y,M⟩:=qX ha hb;have j:=fun kp h=>ax2 k r c w s.kd (i:Nat) kp pa pb p xa xb U Q hm h
 have G:∀ o,gS k r c w ps num o s=⟨i,num,qF k r c w p (i:Nat) s.kd (pK o i),gR s⟩:=fun o=>by
  unfold gS;rw [Z,a0,hi]
 rw [G];have e:=eQ (gR s).length (aJ (gR s));have I:cW.cells ⟨i,num,qF k r c w p (i:Nat) s.kd (pK (kO k r c w ps s.kd a) i),gR s⟩=[aB (i:Nat),aB num,aB (qF k r c w p (i:Nat) s.kd (pK (kO k r c w ps s.kd a) i):Nat),bE (gR s).length (aJ (gR s))]:=rfl;rw [I];have K:∀ l,dZ k r c w ps s.kd a=some l→i < l.length∧∀ z,l[i]? = some z→1≤z:=fun l h=>by
  obtain ⟨u1,u2⟩:=aaw h;exact ⟨by have:=hs.ix1;omega,fun z H=>(u2 z (az8 H)).1⟩
 have L:kO k r c w ps s.kd a=if 0 < a then dZ k r c w ps s.kd a else none:=rfl
 rw [L];generalize dZ k r c w ps s.kd a=T at *
 generalize bE (gR s).length (aJ (gR s))=BV at *
 have f3:=bW e;have q3:=bR e;have t3:=dB e;have p3:=e.plain;have k3:=uT e;have c3:=uS e;have kC:=fun m d X rows=>afj (P:=ayU) (m:=m) e d X rows
 have f1:=bW A;have f2:=bW W;have q1:=bR A;have q2:=bR W;have a6:=A.plain;have a7:=W.plain;have a4:=U.plain;have a8:=Q.plain;have hp:=u.rd.plain;obtain ⟨kd,ix,ce,st,vec,data⟩:=s;simp only at *
 subst hi;replace e:=aA.mk e;replace B:=aA.mk B;replace O:=aA.mk O;replace hs:=aA.mk hs;replace V:=aA.mk V;replace t:=aA.mk t;replace R:=aA.mk R;replace E:=aA.mk E;replace q:=aA.mk q;replace G:=aA.mk G;replace K:=aA.mk K;replace I:=aA.mk I;replace L:=aA.mk L;by_cases n:0 < a
 ·rw [if_pos n];cases T with
  | none =>
   have b:=j 0 (by omega);have a2:lenE ayU 41 (.val (.slice none 0 0))=some (.val (.int .i64 0)):=by kernel_rfl
   simp only [jZ,aW] at f;simp only [pK];simp only [aB] at f b g;replace j:=aA.mk j;refine aV Tryz.func203 sK (h:=?_);unfold Tryz.f203;simp only [↓pre,zad,rO,sK,bD,aX,simprocAttr,aC,bne,f1,f2,n]
   (first | refine aI (f) (by first | rfl | simp only [aE, *]) ?_ | refine aH (f) (by first | rfl | simp only [aC,aE, *]) (by intro k;first | rfl | simp only [ *,zaa]) ?_);simp only [↓pre,zaf,rO,sK,simprocAttr,bne,u.rd.addr',C,Y,M,a2];(first | refine aI (b) (by first | rfl | simp only [aC,aE, *]) ?_ | refine aH (b) (by first | rfl | simp only [aE, *]) (by intro k;first | rfl | simp only [ *,zaa]) ?_);simp only [↓pre,zad,rO,sK,simprocAttr,bne];(first | refine aI (g) (by first | rfl | simp only [aE, *]) ?_ | refine aH (g) (by first | rfl | simp only [aE, *]) (by intro k;first | rfl | simp only [*]) ?_);simp only [↓pre,zaf,rO,sK,simprocAttr,bne,aS,f3,↓k3,↓c3]
   refine cX (by kernel_rfl) ?_;simp only [↓pre,simprocAttr,sx,rO,aG,kC]
  | some l =>
   obtain ⟨S,F⟩:=K.out l rfl;obtain ⟨z,H⟩:∃ z,l[i]? = some z:=⟨_,azm S⟩
   have a3:=F z H;have J:pK (some l) i=z:=by unfold pK;simp only;rw [azs,H];rfl
   rw [J];have b:=j z (by omega);have N:=nU (x:=[]) H;rw [aBl] at N;have D:aT (.tree l.length l.length (bJ l) false) l.length (bJ l):=⟨.inr (.inr ⟨_,false,rfl,aza _⟩)⟩
   have a1:(0:Int) < ((l.length:Nat):Int):=by omega
   simp only [jZ] at f;simp only [aB] at f b g;replace j:=aA.mk j;replace J:=aA.mk J;replace H:=aA.mk H;replace F:=aA.mk F;refine aV Tryz.func203 sK (h:=?_);unfold Tryz.f203;simp only [↓pre,zad,rO,sK,bD,aX,simprocAttr,aC,bne,f1,f2,n]
   (first | refine aI (f) (by first | rfl | simp only [aE, *]) ?_ | refine aH (f) (by first | rfl | simp only [aC,aE, *]) (by intro k;first | rfl | simp only [ *,zaa]) ?_);simp only [↓pre,zaf,rO,sK,simprocAttr,bne,u.rd.addr',C,Y,M,D.len',a1,D.addr',S,N];(first | refine aI (b) (by first | rfl | simp only [aC,aE, *]) ?_ | refine aH (b) (by first | rfl | simp only [aE, *]) (by intro k;first | rfl | simp only [ *,zaa]) ?_);simp only [↓pre,zad,rO,sK,simprocAttr,bne];(first | refine aI (g) (by first | rfl | simp only [aE, *]) ?_ | refine aH (g) (by first | rfl | simp only [aE, *]) (by intro k;first | rfl | simp only [*]) ?_);simp only [↓pre,zaf,rO,sK,simprocAttr,bne,aS,f3,↓k3,↓c3]
   refine cX (by kernel_rfl) ?_;simp only [↓pre,simprocAttr,sx,rO,aG,kC]
 ·rw [if_neg n];have b:=j 0 (by omega);simp only [pK];simp only [aB] at b g;replace j:=aA.mk j;clear f;refine aV Tryz.func203 sK (h:=?_);unfold Tryz.f203;simp only [↓pre,zaf,rO,sK,bD,simprocAttr,aC,bne,f1,f2,u.rd.addr',C,Y,M,n]
  (first | refine aI (b) (by first | rfl | simp only [aC,aE, *]) ?_ | refine aH (b) (by first | rfl | simp only [aE, *]) (by intro k;first | rfl | simp only [ *,zaa]) ?_);simp only [↓pre,zad,rO,sK,simprocAttr,bne];(first | refine aI (g) (by first | rfl | simp only [aE, *]) ?_ | refine aH (g) (by first | rfl | simp only [aE, *]) (by intro k;first | rfl | simp only [*]) ?_);simp only [↓pre,zaf,rO,sK,simprocAttr,bne,aS,f3,↓k3,↓c3]
  refine cX (by kernel_rfl) ?_;simp only [↓pre,simprocAttr,sx,rO,aG,kC]
end Go.Proofs.YtaekhhlgnbhnpaaGreat