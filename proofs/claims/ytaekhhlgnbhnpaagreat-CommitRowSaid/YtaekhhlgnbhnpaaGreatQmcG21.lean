import Derived.Test.YtaekhhlgnbhnpaaGreatQmcG20
import Derived.Test.YtaekhhlgnbhnpaaGreatQmcG18
set_option linter.unusedVariables false
set_option linter.unusedSimpArgs false
set_option maxRecDepth 10000
open Go.Proofs.Tryz
open Bool renaming and_self→aAx,true_and→aBk,and_eq_true→aAq
open Go.IntKind renaming i64→azy
open Go.Proofs.Tryz renaming prog→ayU
open Int renaming toNat_of_nonneg→aB4
open List renaming getElem?_eq_getElem→azm,range→aAp,range_succ→aAW,map_append→aBs,length_drop→aBc,drop_zero→aBx,drop_drop→aBe,mem_cons→az7,not_mem_nil→aBY,append_nil→aBl,length_append→aA2,eq_nil_of_length_eq_zero→az1,getD_eq_getElem?_getD→azs,getElem?_eq_none→ay6,append_assoc→azW,map_cons→aAr,length_cons→aAF,mem_of_getElem?→az8,cons_append→aBZ,getElem?_append_left→azg,getElem?_eq_some_iff→ay8,length_nil→aAG,getElem?_append_right→azh,mem_singleton→aBo,mem_append→aBp,any_eq_false→aBu,mem_map→azp,all_eq_true→aAu,getElem?_map→azo,replicate→aBr,getElem?_range→aBS,ext_getElem?→aAi,getElem?_set→aAn,getElem?_of_mem→aBj
open Nat renaming mul_one→azG,reduceEqDiff→aBW,le_refl→aza,one_ne_zero→aBm,zero_ne_one→aBg
open Option renaming getD_some→aAE,getD_none→aAD,map_none→aBd,bind_some→aAk,map_some→az6
open UInt8 renaming ofNat→azQ
namespace Go.Proofs.YtaekhhlgnbhnpaaGreat
open Go Go.Tw Go.Proofs Go.Gf
theorem adP (v:AV) (n:Nat) (bs:List UInt8) (x:List AV) (g:aT v n (aJ bs++x)) (B:n≤bs.length) (w:n≤4):aQ ayU 167 [v] ⟨aB (dF (bs.take n):Nat),[]⟩:=by
 have C:=g.plain;refine aV Tryz.func167 aD (h:=?_);unfold Tryz.f167;simp only [↓pre,zai,amB,simprocAttr,g.len'];rw [bS];refine bU (fun q e m=>∃ i,q+i=n∧e 6=v∧e 7=aB (n:Nat)∧e 8=aB (i:Nat)∧e 3=aB (dF (bs.take i):Nat)) n ⟨0,by omega,rfl,rfl,rfl,by simp [bC.set,aB,dF]⟩ ?_;rintro q e m ⟨i,hi,A,p,r,o⟩;replace hi:=aA.mk hi;by_cases k:i < n
 ·have b:((i:Nat):Int) < ((n:Nat):Int):=by omega
  obtain ⟨a,s⟩:∃ a,bs[i]? = some a:=⟨_,azm (by omega)⟩
  have z:=mM (x:=x) s;have l:=afi s;have f:=aaW i bs;have c:=a.toNat_lt;have w1:=cB (n:=i) (by omega);have d:256 ^ i≤256 ^ 3:=Nat.pow_le_pow_right (by decide) (by omega);have D:256 ^ 3=16777216:=by decide
  have y:azy.wrap (a.toNat:Int)=(a.toNat:Int):=dO (by omega);have u:azy.wrap (((dF (bs.take i):Nat):Int)*2 ^ min 8 azy.bits)=((dF (bs.take i)*256:Nat):Int):=by
   rw [show (((dF (bs.take i):Nat):Int)*2 ^ min 8 azy.bits)=((dF (bs.take i)*256:Nat):Int) by simp [IntKind.bits]];exact dO (by omega)
  have t:abR .i64 ((dF (bs.take i)*256:Nat):Int) (a.toNat:Int)=((dF (bs.take i)*256+a.toNat:Nat):Int):=by
   rw [alZ (by omega) (by omega),al0 (by omega)]
  replace f:=aA.mk f;replace d:=aA.mk d;replace c:=aA.mk c;replace l:=aA.mk l;simp only [↓pre,zai,amB,cO,uB,azG,jP,simprocAttr,A,p,r,o,b,g.addr',k,z,w1,y];exact ⟨q - 1,by have:=hi.out;omega,i+1,by have:=hi.out;omega,rfl,by rw [u,t,l.out]⟩
 ·have b:¬ ((i:Nat):Int) < ((n:Nat):Int):=by omega
  have j:i=n:=by have:=hi.out;omega
  subst j;simp only [↓pre,zab,gH,simprocAttr,p,r,o,b]
def afS (bs:List UInt8) (i:Nat):cC:=((dF ((bs.drop (6*i)).take 2):Nat),(dF ((bs.drop (6*i+2)).take 4):Nat))
def tJ (bs:List UInt8) (n:Nat):List cC:=(aAp n).map (afS bs)
theorem afT (bs:List UInt8) (n:Nat):(tJ bs n).length=n:=by simp [tJ]
theorem aoT (bs:List UInt8) (n:Nat):tJ bs (n+1)=tJ bs n++[afS bs n]:=by unfold tJ;rw [aAW,aBs];rfl
theorem av9 (v:AV) (bs:List UInt8) (x:List AV) (n:Nat) (I:aT v bs.length (aJ bs++x)) (X:6*n≤bs.length) (W:bs.length≤100000):dV ayU 168 [v,aB (n:Nat)] aF.empty fun a m=>Own m 67 2 a n (cU (tJ bs n)):=by
 have o:kS (.val (.int .i64 2))=some 2:=rfl;have g:kS (.val (.int .i64 6))=some 6:=rfl;refine bV Tryz.func168 aD (h:=?_);unfold Tryz.f168;simp only [↓pre,simprocAttr,sx];rw [bS];refine bU (fun q e m=>∃ i u,q+i=n∧e 0=u∧e 6=aB (n:Nat)∧e 7=aB (i:Nat)∧aT u (bs.drop (6*i)).length (aJ (bs.drop (6*i))++x)∧aA (Own m 67 2 (e 5) i (cU (tJ bs i)))) n ⟨0,v,by omega,rfl,rfl,rfl,by simpa using I,⟨gK⟩⟩ ?_;rintro q e m ⟨i,u,r,A,B,z,d,D⟩;replace r:=aA.mk r;generalize l:e 5=V at *
 by_cases L:i < n
 ·have b:((i:Nat):Int) < ((n:Nat):Int):=by omega
  have w1:=cB (n:=i) (by omega);have j:(bs.drop (6*i)).length=bs.length - 6*i:=aBc;obtain ⟨O,R,r1⟩:=d.slice (P:=ayU) (t:=52) (sz:=1) (lo:=none) (hi:=some 2) (by kernel_rfl) (by simp) (by simp only [aAE];omega);obtain ⟨M,T,r2⟩:=d.slice (P:=ayU) (t:=52) (sz:=1) (lo:=some 2) (hi:=some 6) (by kernel_rfl) (by simp) (by simp only [aAE];omega);obtain ⟨N,S,p⟩:=d.slice (P:=ayU) (t:=52) (sz:=1) (lo:=some 6) (hi:=none) (by kernel_rfl) (by simp only [aAE,aAD];omega) (by simp);simp only [aAE,aAD,azG,Nat.sub_zero,aBx] at r1 r2 p;rw [uI _ x 2 (by omega),aBe] at r2;rw [uI _ x 6 (by omega),aBe,show (bs.drop (6*i)).length - 6=(bs.drop (6*i+6)).length by rw [aBc,aBc];omega] at p;have E:=adP O 2 (bs.drop (6*i)) x r1 (by omega) (by omega);have F:=adP M 4 (bs.drop (6*i+2)) x r2 (by rw [aBc];omega) (by omega);have H:=d.slOk (P:=ayU) (m:=m) (t:=52);have J:=r1.plain;have K:=r2.plain;have f:=aoT bs i;have c:afS bs i=(((dF ((bs.drop (6*i)).take 2):Nat):Int),((dF ((bs.drop (6*i+2)).take 4):Nat):Int)):=rfl;generalize dF ((bs.drop (6*i)).take 2)=C at *
  generalize dF ((bs.drop (6*i+2)).take 4)=G at *
  replace f:=aA.mk f;replace c:=aA.mk c;replace r1:=aA.mk r1;replace r2:=aA.mk r2;replace p:=aA.mk p;replace j:=aA.mk j;have w:∀ m,fY ayU m 31 1 [(0,.agg [.val (.int .i64 (C:Nat)),.val (.int .i64 (G:Nat))])]=some ⟨.tree 1 1 [.val (.int .i64 (C:Nat)),.val (.int .i64 (G:Nat))] true,m,none⟩:=fun m=>alU rfl rfl (by kernel_rfl) (by kernel_rfl)
  simp only [↓pre,zac,aBd,simprocAttr,dD,o,l,A,B,z,b,d.sliceX,R]
  (first | refine aI (E) (by first | rfl | simp only [aE, *]) ?_ | refine aH (E) (by first | rfl | simp only [aE, *]) (by intro k;first | rfl | simp only [ *,zaa]) ?_);simp only [↓pre,zab,aBd,simprocAttr,dD,o,g,A,d.sliceX,T];(first | refine aI (F) (by first | rfl | simp only [aE, *]) ?_ | refine aH (F) (by first | rfl | simp only [aE, *]) (by intro k;first | rfl | simp only [ *,zaa]) ?_);simp only [↓pre,zab,asQ,cO,simprocAttr,w]
  refine nP (sz:=2) (y:=16) (zl:=[.int .i64 0,.int .i64 0]) (by kernel_rfl) D.out (by kernel_rfl) (by kernel_rfl) (by kernel_rfl) rfl aet rfl (by omega) (by omega) ?_;intro Q m' s U;refine cX (by kernel_rfl) ?_;simp only [↓pre,zab,aBd,simprocAttr,dD,g,A,B,z,d.sliceX,S,w1];refine ⟨q - 1,by have:=r.out;omega,i+1,N,by have:=r.out;omega,rfl,rfl,by rw [show 6*(i+1)=6*i+6 by omega];exact p.out,⟨?_⟩⟩;rw [f.out,aoL,c.out];exact s
 ·have b:¬ ((i:Nat):Int) < ((n:Nat):Int):=by omega
  have hi:i=n:=by have:=r.out;omega
  subst hi;simp only [↓pre,zac,simprocAttr,l,B,z,b];exact D.out
theorem awa (v:AV) (bs:List UInt8) (x:List AV) (n:Nat) (c:aT v bs.length (aJ bs++x)) (d:6*n≤bs.length) (b:bs.length≤100000):aQ ayU 168 [v,aB (n:Nat)] (tI (fun a=>a) (tJ bs n)):=abg (mW (av9 v bs x n c d b) fun _ m h=>av6 (by rw [afT];exact h))
theorem awb (k r c w:Int) (v:AV) (n:Nat) (cs:List AV) (d:aT v n cs):aQ ayU 166 [aC k r c w,v] ⟨aB (if bG k r c w=true then (if (n:Int)=wI k c then 0 else 20) else 2),[]⟩:=by
 have a:=am1 k r c w;have f:=d.plain;cases e:bG k r c w with
 | false =>
  simp only [e,Bool.false_eq_true,if_false] at a ⊢;refine aV Tryz.func166 aD (h:=?_);unfold Tryz.f166;simp only [↓pre,zab,adj,simprocAttr,aC]
  (first | refine aI (a) (by first | rfl | simp only [aC,aE, *]) ?_ | refine aH (a) (by first | rfl | simp only [aC,aE, *]) (by intro k;first | rfl | simp only [ *,zaa]) ?_);simp only [↓pre,zac,simprocAttr]
 | true =>
  simp only [e,if_true] at a ⊢;by_cases b:(n:Int)=wI k c
  ·rw [if_pos b];refine aV Tryz.func166 aD (h:=?_);unfold Tryz.f166;simp only [↓pre,zab,adj,simprocAttr,aC]
   (first | refine aI (a) (by first | rfl | simp only [aC,aE, *]) ?_ | refine aH (a) (by first | rfl | simp only [aC,aE, *]) (by intro k;first | rfl | simp only [ *,zaa]) ?_);simp only [↓pre,zae,adj,simprocAttr,d.len',b]
  ·rw [if_neg b];refine aV Tryz.func166 aD (h:=?_);unfold Tryz.f166;simp only [↓pre,zab,adj,simprocAttr,aC]
   (first | refine aI (a) (by first | rfl | simp only [aC,aE, *]) ?_ | refine aH (a) (by first | rfl | simp only [aC,aE, *]) (by intro k;first | rfl | simp only [ *,zaa]) ?_);simp only [↓pre,zae,adj,simprocAttr,d.len',b]
def eqB (a b:List UInt8):Bool:=decide ((⟨a.toArray⟩:ByteArray)=⟨b.toArray⟩)
theorem aoU (a b:List UInt8):eqB a b=decide (a=b):=by
 unfold eqB;by_cases h:a=b
 ·subst h;simp
 ·rw [decide_eq_false h,decide_eq_false];intro c;apply h;have:=congrArg (fun x:ByteArray=>x.data.toList) c;simpa using this
theorem awc (u v:AV) (a b:List UInt8) (x y:List AV) (g:aT u a.length (aJ a++x)) (f:aT v b.length (aJ b++y)):aQ ayU 169 [u,v] ⟨aZ (decide (a=b)),[]⟩:=by
 rw [←aoU];have i:=fun (d c:Bool) (m:aF)=>vW (d:=d) (c:=c) (m:=m) g
 have e:=fun (d c:Bool) (m:aF)=>vW (d:=d) (c:=c) (m:=m) f
 refine aV Tryz.func169 aD (h:=?_);unfold Tryz.f169;simp only [↓pre,zai,uK,simprocAttr,i,e];rfl
def pN (bs:List UInt8):Nat:=dF ((bs.drop 5).take 2)
def fQ (bs:List UInt8):Int:=(dF (bs.take 4):Nat)
def fK (bs:List UInt8):Int:=(dF ((bs.drop 4).take 1):Nat)
def dT (bs:List UInt8):List cC:=tJ (bs.drop 7) (pN bs)
def tK (k r c w:Int) (bs:List UInt8):Bool:=decide (7+6*pN bs≤bs.length) && (decide (iE k r c w (fQ bs) (fK bs) (dT bs)=0) && decide (fJ k c (fQ bs) (fK bs) (dT bs)=bs))
def nF (k r c w:Int) (bs:List UInt8):Int:=if bG k r c w=true then (if (bs.length:Int)=wI k c then (if tK k r c w bs=true then 0 else 150) else 20) else 2
def xM (len dep:Int) (l:List cC):AV := .agg [aB len,aB dep,bE l.length (cU l)]
def wJ:AV := .agg [aB 0,aB 0,aW]
def acy (k r c w:Int) (bs:List UInt8):AV:=if nF k r c w bs=0 then xM (fQ bs) (fK bs) (dT bs) else wJ
theorem awd (e:Int) (k:Nat) (m:aF):fzT k m (.tup [wJ,aB e])=some (.tup [wJ,aB e]):=pE (abb fun c a=>by
 simp only [az7,aBY,or_false] at a;rcases a with rfl | rfl | rfl <;> exact dK _) (dK _) k m
theorem aoV (len dep:Int) (l:List cC):kL (xM len dep l):=abb fun c a=>by
 simp only [az7,aBY,or_false] at a;rcases a with rfl | rfl | rfl
 ·exact dK _
 ·exact dK _
 ·exact xI (eQ _ _)
def oA:Nat→Bool:=fun d=>d != 4 && d != 7
def PaQ (E c d:Int) (b:List cC) (a:AV) (m:aF):Prop:=(E=0∧∃ u,a = .tup [.agg [aB c,aB d,u],aB 0]∧Own m 67 2 u b.length (cU b))∨(E≠0∧a = .tup [.agg [.val (.int .i64 0),.val (.int .i64 0),.val (.slice none 0 0)],.val (.int .i64 E)])
theorem awe (k r c w:Int) (v:AV) (bs:List UInt8) (x:List AV) (j:aT v bs.length (aJ bs++x)):dV ayU 92 [aC k r c w,v] aF.empty (PaQ (nF k r c w bs) (fQ bs) (fK bs) (dT bs)):=by
 have hp:=j.plain;have q:=awb k r c w v bs.length _ j;by_cases C:bG k r c w=true∧(bs.length:Int)=wI k c
 ·obtain ⟨i,J⟩:=C;rw [if_pos i,if_pos J] at q;have hw:=kJ i;have X:bs.length≤768∧32≤bs.length:=by unfold wI at J;omega
  have p:nF k r c w bs=if tK k r c w bs=true then 0 else 150:=by unfold nF;rw [if_pos i,if_pos J]
  rw [p];obtain ⟨v1,s1,r1⟩:=j.slice (P:=ayU) (t:=52) (sz:=1) (lo:=none) (hi:=some 4) (by kernel_rfl) (by simp) (by simp only [aAE];omega);obtain ⟨v2,s2,r2⟩:=j.slice (P:=ayU) (t:=52) (sz:=1) (lo:=some 4) (hi:=some 5) (by kernel_rfl) (by simp) (by simp only [aAE];omega);obtain ⟨v3,R,F⟩:=j.slice (P:=ayU) (t:=52) (sz:=1) (lo:=some 5) (hi:=some 7) (by kernel_rfl) (by simp) (by simp only [aAE];omega);obtain ⟨v4,s4,E⟩:=j.slice (P:=ayU) (t:=52) (sz:=1) (lo:=some 7) (hi:=none) (by kernel_rfl) (by simp only [aAE,aAD];omega) (by simp);simp only [aAE,aAD,azG,Nat.sub_zero,aBx] at r1 r2 F E;rw [uI _ x 4 (by omega)] at r2;rw [uI _ x 5 (by omega)] at F;rw [uI _ x 7 (by omega),←aBc] at E;have K:=adP v1 4 bs x r1 (by omega) (by omega);have L:=adP v2 1 (bs.drop 4) x r2 (by rw [aBc];omega) (by omega);have y:=adP v3 2 (bs.drop 5) x F (by rw [aBc];omega) (by omega);have W:=r1.plain;have Y:=r2.plain;have T:=F.plain;have H:=E.plain;have Z:pN bs < 65536:=aaW 2 (bs.drop 5);rw [show dF ((bs.drop 5).take 2)=pN bs from rfl] at y;rw [show ((dF (bs.take 4):Nat):Int)=fQ bs from rfl] at K;rw [show ((dF ((bs.drop 4).take 1):Nat):Int)=fK bs from rfl] at L;have Q:kS (.val (.int .i64 4))=some 4:=rfl;have G:kS (.val (.int .i64 5))=some 5:=rfl;have I:kS (.val (.int .i64 7))=some 7:=rfl;have w1:azy.wrap (6*((pN bs:Nat):Int))=((6*pN bs:Nat):Int):=by rw [show 6*((pN bs:Nat):Int)=((6*pN bs:Nat):Int) by simp];exact dO (by omega)
  have M:azy.wrap (7+((6*pN bs:Nat):Int))=((7+6*pN bs:Nat):Int):=by rw [show 7+((6*pN bs:Nat):Int)=((7+6*pN bs:Nat):Int) by simp];exact dO (by omega)
  have V:=fun m=>j.slOk (P:=ayU) (m:=m) (t:=52)
  have l:=fun d c m lo hi mx=>j.sliceX (P:=ayU) (m:=m) (t:=52) (d:=d) (c:=c) (lo:=lo) (hi:=hi) (mx:=mx)
  replace p:=aA.mk p;refine bV Tryz.func92 oA (h:=?_);unfold Tryz.f92;simp only [↓pre,zad,vP,oA,bD,aX,simprocAttr,aC,bne,aBW]
  (first | refine aI (q) (by first | rfl | simp only [aE, *]) ?_ | refine aH (q) (by first | rfl | simp only [aC,aE, *]) (by intro k;first | rfl | simp only [ *,zaa]) ?_);simp only [↓pre,zaf,oA,aBd,simprocAttr,bne,dD,aBW,Q,l,s1];(first | refine aI (K) (by first | rfl | simp only [aE, *]) ?_ | refine aH (K) (by first | rfl | simp only [aE, *]) (by intro k;first | rfl | simp only [ *,zaa]) ?_);simp only [↓pre,zad,oA,aBd,simprocAttr,bne,dD,aBW,Q,G,l,s2];(first | refine aI (L) (by first | rfl | simp only [aE, *]) ?_ | refine aH (L) (by first | rfl | simp only [aE, *]) (by intro k;first | rfl | simp only [ *,zaa]) ?_);simp only [↓pre,zaf,vP,oA,bD,simprocAttr,bne,aBW]
  refine cX (by kernel_rfl) ?_;simp only [↓pre,zaf,vP,oA,simprocAttr,bne,aS,aBW];refine cX (by kernel_rfl) ?_;by_cases e:7+6*pN bs≤bs.length
  ·have f:¬ ((bs.length:Nat):Int) < ((7+6*pN bs:Nat):Int):=by omega
   have O:=awa v4 (bs.drop 7) x (pN bs) E (by rw [aBc];omega) (by rw [aBc];omega);rw [show tJ (bs.drop 7) (pN bs)=dT bs from rfl] at O;have u:(dT bs).length=pN bs:=afT _ _;have S:=av8 k r c w (fQ bs) (fK bs) (bE (dT bs).length (cU (dT bs))) (dT bs) ⟨[],by rw [aBl];exact eQ _ _⟩ (by omega);have U:=awc (.tree (fJ k c (fQ bs) (fK bs) (dT bs)).length (fJ k c (fQ bs) (fK bs) (dT bs)).length (aJ (fJ k c (fQ bs) (fK bs) (dT bs))) true) v (fJ k c (fQ bs) (fK bs) (dT bs)) bs [] x ⟨.inr (.inr ⟨_,true,by rw [aBl],aza _⟩)⟩ j;have z:(fJ k c (fQ bs) (fK bs) (dT bs)).length≠0:=by
    unfold fJ tH pJ;simp only [aA2,fX];omega
   have g:tK k r c w bs=(decide (iE k r c w (fQ bs) (fK bs) (dT bs)=0) && decide (fJ k c (fQ bs) (fK bs) (dT bs)=bs)):=by unfold tK;rw [decide_eq_true e];rfl
   rw [g];unfold afR at S;replace u:=aA.mk u;generalize fJ k c (fQ bs) (fK bs) (dT bs)=MB at *
   generalize iE k r c w (fQ bs) (fK bs) (dT bs)=CK at *
   generalize dT bs=PR at *
   generalize fQ bs=PL at *
   generalize fK bs=PD at *
   replace g:=aA.mk g;replace e:=aA.mk e;simp only [↓pre,zad,oA,aBd,simprocAttr,bne,dD,aBW,G,I,l,R]
   (first | refine aI (y) (by first | rfl | simp only [aE, *]) ?_ | refine aH (y) (by first | rfl | simp only [aC,aE, *]) (by intro k;first | rfl | simp only [ *,zaa]) ?_);simp only [↓pre,zaf,vP,oA,aBd,simprocAttr,bne,dD,aBW,I,l,s4,w1,M,j.len',f]
   refine aiE (fun a=>a) O (oQ 3 _ (by simp [cP,plain,H])).1 (fun _ _=>rfl) (fun _ _=>by simp [hY]) fun a m1 N => ?_
   rcases N.form with ⟨rfl,rfl,rfl⟩ | ⟨rfl,D,rfl⟩
   all_goals clear N
   all_goals (
    try replace D:=aA.mk D
    simp only [↓pre,zaf,vP,oA,aBm,simprocAttr,bne,aS,aBW];refine av0 S (by first | (simp [dN,lend,aC,aB,bE,aW];done) | simp [dN,lend,aC,aB,bE,cI,cF,fC,cQ,aX,D.out]) fun b m2 o => ?_
    by_cases n:CK=0
    ·rw [if_pos n] at o;rcases o.form with ⟨_,s,_⟩ | ⟨rfl,s,rfl⟩
     ·rw [s] at z;exact absurd rfl z
     ·replace s:=aA.mk s;simp only [↓pre,zaf,oA,simprocAttr,bne,aBW,n];refine abO U (by simp [dN,lend,cF,fC,cQ,aX,(yC 3 _ hp).1]) rfl rfl ?_;by_cases B:MB=bs
      ·simp only [↓pre,zaf,vP,oA,aBg,simprocAttr,bne,aS,aBW,B]
       first | exact .inl ⟨rfl,_,rfl,gK⟩ | exact .inl ⟨rfl,_,rfl,⟨.inr ⟨2,rfl,by simp [cI,cF,fC,cQ,aX],by simp [fC,cQ,aX],Nat.pos_of_ne_zero D.out⟩,abd _⟩⟩
      ·simp only [↓pre,zaf,vP,oA,aBg,simprocAttr,bne,aS,aBW,B];exact .inr ⟨by decide,rfl⟩
    ·rw [if_neg n] at o;rcases o.form with ⟨rfl,_,rfl⟩ | ⟨_,s,_⟩
     ·simp only [↓pre,zaf,vP,oA,aBg,simprocAttr,bne,aS,aBW,n];exact .inr ⟨by decide,rfl⟩
     ·exact absurd rfl s)
  ·have f:((bs.length:Nat):Int) < ((7+6*pN bs:Nat):Int):=by omega
   have g:tK k r c w bs=false:=by unfold tK;rw [decide_eq_false e];rfl
   rw [g,if_neg (by decide)];replace g:=aA.mk g;replace e:=aA.mk e;simp only [↓pre,zad,oA,aBd,simprocAttr,bne,dD,aBW,G,I,l,R]
   (first | refine aI (y) (by first | rfl | simp only [aE, *]) ?_ | refine aH (y) (by first | rfl | simp only [aC,aE, *]) (by intro k;first | rfl | simp only [ *,zaa]) ?_);simp only [↓pre,zaf,vP,oA,aBg,simprocAttr,bne,aS,aBW,w1,M,j.len',f]
   exact .inr ⟨by decide,rfl⟩
 ·have p:nF k r c w bs=(if bG k r c w=true then (if (bs.length:Int)=wI k c then 0 else 20) else 2):=by
   unfold nF;by_cases i:bG k r c w=true
   ·rw [if_pos i,if_pos i,if_neg (fun h=>C ⟨i,h⟩),if_neg (fun h=>C ⟨i,h⟩)]
   ·rw [if_neg i,if_neg i]
  have A:nF k r c w bs≠0:=by
   rw [p];by_cases i:bG k r c w=true
   ·rw [if_pos i,if_neg (fun h=>C ⟨i,h⟩)];decide
   ·rw [if_neg i];decide
  rw [←p] at q;replace p:=aA.mk p;generalize nF k r c w bs=PE at *
  refine bV Tryz.func92 oA (h:=?_);unfold Tryz.f92;simp only [↓pre,zad,vP,oA,bD,aX,simprocAttr,aC,bne,aBW]
  (first | refine aI (q) (by first | rfl | simp only [aE, *]) ?_ | refine aH (q) (by first | rfl | simp only [aC,aE, *]) (by intro k;first | rfl | simp only [ *,zaa]) ?_);simp only [↓pre,zaf,vP,oA,simprocAttr,bne,aS,aBW,A]
  exact .inr ⟨A,rfl⟩
def aiG (E b d:Int) (c:List cC):fA:=if E=0 then tI (fun a => .tup [.agg [aB b,aB d,a],aB 0]) c else ⟨.tup [wJ,aB E],[]⟩
theorem awf (k r c w:Int) (v:AV) (bs:List UInt8) (x:List AV) (d:aT v bs.length (aJ bs++x)):aQ ayU 92 [aC k r c w,v] (aiG (nF k r c w bs) (fQ bs) (fK bs) (dT bs)):=abg (mW (awe k r c w v bs x d) fun a m h=>by
 unfold aiG;rcases h with ⟨h,u,rfl,b⟩ | ⟨h,rfl⟩
 ·rw [h,if_pos rfl];exact av3 b
 ·rw [if_neg h];simp [iG,jB,canon,fN,wJ,aB,aW])
theorem uS {v:AV} {n:Nat} {cs:List AV} (h:aT v n cs):v.cells=[v]:=by
 rcases h.form with ⟨rfl,_⟩ | ⟨_,_,rfl,_⟩ | ⟨_,_,rfl,_⟩ <;> rfl
theorem uT {v:AV} {n:Nat} {cs:List AV} (h:aT v n cs):gD v=true:=by
 rcases h.form with ⟨rfl,_⟩ | ⟨_,_,rfl,_⟩ | ⟨_,_,rfl,_⟩ <;> rfl
abbrev acz (k r c w:Int) (v:AV):AV := .agg [.val (.int .i64 k),.val (.int .i64 r),.val (.int .i64 c),.val (.int .i64 w),v]
theorem aoW (k r c w:Int) (v:AV) (n:Nat) (cs:List AV) (f:aT v n cs) (g:FuncId) (a:Int) (j:Bool) (e:Int) (b:aQ ayU g [acz k r c w v] ⟨.tup [aB a,aZ j,aB e],[]⟩):aQ ayU 87 [acz k r c w v,.clo g []] ⟨.tup [aB (if e=0 then (if j=true then a else 0) else 0),aB e],[]⟩:=by
 have i:=bW f;have m:=bR f;have l:=f.plain;by_cases d:e=0
 ·subst d;rw [if_pos rfl];cases j with
  | true =>
   rw [if_pos rfl];refine aV Tryz.func87 aD (h:=?_);unfold Tryz.f87;simp only [↓pre,zab,ahm,simprocAttr,i]
   (first | refine aI (b) (by first | rfl | simp only [aE, *]) ?_ | refine aH (b) (by first | rfl | simp only [aC,aE, *]) (by intro k;first | rfl | simp only [ *,zaa]) ?_);simp only [↓pre,zac,simprocAttr]
  | false =>
   rw [if_neg (by decide)];refine aV Tryz.func87 aD (h:=?_);unfold Tryz.f87;simp only [↓pre,zab,ahm,simprocAttr,i]
   (first | refine aI (b) (by first | rfl | simp only [aE, *]) ?_ | refine aH (b) (by first | rfl | simp only [aC,aE, *]) (by intro k;first | rfl | simp only [ *,zaa]) ?_);simp only [↓pre,zac,simprocAttr]
 ·rw [if_neg d];refine aV Tryz.func87 aD (h:=?_);unfold Tryz.f87;simp only [↓pre,zab,ahm,simprocAttr,i]
  (first | refine aI (b) (by first | rfl | simp only [aE, *]) ?_ | refine aH (b) (by first | rfl | simp only [aC,aE, *]) (by intro k;first | rfl | simp only [ *,zaa]) ?_);simp only [↓pre,zac,simprocAttr,d]
theorem awg (k r c w:Int) (v:AV) (ps:List aO) (cells:List AV) (d:dG v ps cells):aQ ayU 88 [acz k r c w v] ⟨afm k r c w ps,[]⟩:=by
 have h:=auu k r c w v ps cells d;have f:=bW d.rd;have i:=bR d.rd;have g:=d.rd.plain;unfold afm at h ⊢;generalize (fU k r c w ps).getD 0 0=a at *
 generalize decide (1≤(fU k r c w ps).length)=b at *
 generalize cS k r c w ps=e at *
 refine aV Tryz.func88 aD (h:=?_);unfold Tryz.f88;simp only [↓pre,zab,asM,simprocAttr,f]
 (first | refine aI (h) (by first | rfl | simp only [aE, *]) ?_ | refine aH (h) (by first | rfl | simp only [aC,aE, *]) (by intro k;first | rfl | simp only [ *,zaa]) ?_);simp only [↓pre,zab,aZ,simprocAttr]
theorem awh (k r c w:Int) (v:AV) (ps:List aO) (cells:List AV) (d:dG v ps cells):aQ ayU 89 [acz k r c w v] ⟨afn k r c w ps,[]⟩:=by
 have h:=auv k r c w v ps cells d;have f:=bW d.rd;have i:=bR d.rd;have g:=d.rd.plain;unfold afn at h ⊢;generalize (fU k r c w ps).getD 1 0=a at *
 generalize decide (2≤(fU k r c w ps).length)=b at *
 generalize cS k r c w ps=e at *
 refine aV Tryz.func89 aD (h:=?_);unfold Tryz.f89;simp only [↓pre,zab,asN,simprocAttr,f]
 (first | refine aI (h) (by first | rfl | simp only [aE, *]) ?_ | refine aH (h) (by first | rfl | simp only [aC,aE, *]) (by intro k;first | rfl | simp only [ *,zaa]) ?_);simp only [↓pre,zab,aZ,simprocAttr]
def cY (k r c w:Int) (ps:List aO):Int:=(fU k r c w ps).getD 0 0
def mQ (k r c w:Int) (ps:List aO):Int:=(fU k r c w ps).getD 1 0
theorem aiH (k r c w:Int) (v:AV) (ps:List aO) (cells:List AV) (a:dG v ps cells):aQ ayU 87 [acz k r c w v,.clo 88 []] ⟨.tup [aB (if cS k r c w ps=0 then cY k r c w ps else 0),aB (cS k r c w ps)],[]⟩:=by
 have h:=aoW k r c w v _ _ a.rd _ _ _ _ (awg k r c w v ps cells a);have e:(if decide (1≤(fU k r c w ps).length)=true then (fU k r c w ps).getD 0 0 else 0)=cY k r c w ps:=by
  unfold cY;split
  ·rfl
  ·rename_i b;have:(fU k r c w ps).length=0:=by simp at b;simp [b]
   rw [az1 this];rfl
 rw [e] at h;exact h
theorem awi (k r c w:Int) (v:AV) (ps:List aO) (cells:List AV) (a:dG v ps cells):aQ ayU 87 [acz k r c w v,.clo 89 []] ⟨.tup [aB (if cS k r c w ps=0 then mQ k r c w ps else 0),aB (cS k r c w ps)],[]⟩:=by
 have h:=aoW k r c w v _ _ a.rd _ _ _ _ (awh k r c w v ps cells a);have e:(if decide (2≤(fU k r c w ps).length)=true then (fU k r c w ps).getD 1 0 else 0)=mQ k r c w ps:=by
  unfold mQ;split
  ·rfl
  ·rename_i b;have:(fU k r c w ps).length≤1:=by simp at b;omega
   rw [azs,ay6 this];rfl
 rw [e] at h;exact h
def iU (k r c w:Int) (ps:List aO):List UInt8:=wG k r c w ps 2 (cY k r c w ps) k.toNat
def jG (k r c w:Int) (ps:List aO):Int:=if cS k r c w ps=0 then (if cY k r c w ps=0 then 5 else if jF k r c w ps 2 (cY k r c w ps) < k.toNat then 5 else nF k r c w (iU k r c w ps)) else cS k r c w ps
def yX (k r c w:Int) (ps:List aO):AV:=if jG k r c w ps=0 then .tup [xM (fQ (iU k r c w ps)) (fK (iU k r c w ps)) (dT (iU k r c w ps)),aB (cY k r c w ps),aB 0] else .tup [wJ,aB 0,aB (jG k r c w ps)]
theorem uU {k r c w:Int} {ps:List aO} (h:cS k r c w ps=0):bG k r c w=true∧dE k r c ps=true:=by
 unfold cS at h;split at h
 ·rename_i b;split at h
  ·rename_i a;exact ⟨b,a⟩
  ·omega
 ·omega
theorem afU {k r c w:Int} {ps:List aO} (f:cS k r c w ps=0) (h:cY k r c w ps≠0):eL (cY k r c w ps)=true:=by
 have e:1≤(fU k r c w ps).length:=by
  rcases Nat.eq_zero_or_pos (fU k r c w ps).length with b | b
  ·exfalso;apply h;unfold cY;rw [az1 b];rfl
  ·exact b
 have d:=aux e;have a:cY k r c w ps∈(kE k r c w ps).filter (nX k (eW k r c w ps)):=d;have:=(ahZ k r c w ps).2 _ (List.mem_filter.1 a).1;unfold eL;exact decide_eq_true this
theorem aoX (bs:List UInt8) (n:Nat) (h:bs.length=n):aT (bE n (aJ bs)) bs.length (aJ bs++[]):=by rw [h,aBl];exact eQ _ _
theorem aiI {k r c w:Int} {ps:List aO} (a:bG k r c w=true):(iU k r c w ps).length=k.toNat*c.toNat:=afN _ _ _ _ _ _ _ _
def tL:Nat→Bool:=fun d=>d != 4 && d != 10
def CrQ (E c d W:Int) (b:List cC) (a:AV) (m:aF):Prop:=(E=0∧∃ u,a = .tup [.agg [aB c,aB d,u],aB W,aB 0]∧Own m 67 2 u b.length (cU b))∨(E≠0∧a = .tup [.agg [.val (.int .i64 0),.val (.int .i64 0),.val (.slice none 0 0)],.val (.int .i64 0),.val (.int .i64 E)])
theorem aoY (k r c w:Int) (v:AV) (ps:List aO) (cells:List AV) (i:dG v ps cells):dV ayU 17 [aC k r c w,v] aF.empty (CrQ (jG k r c w ps) (fQ (iU k r c w ps)) (fK (iU k r c w ps)) (cY k r c w ps) (dT (iU k r c w ps))):=by
 have j:=aiH k r c w v ps cells i;have p:=uS i.rd;have l:=uT i.rd;have E:=bW i.rd;have C:=bR i.rd;have F:=i.rd.plain;by_cases g:cS k r c w ps=0
 ·obtain ⟨u,z⟩:=uU g;have q:jG k r c w ps=if cY k r c w ps=0 then 5 else if jF k r c w ps 2 (cY k r c w ps) < k.toNat then 5 else nF k r c w (iU k r c w ps):=by unfold jG;rw [if_pos g]
  rw [if_pos g,g] at j;have e:=afU g;have b:=fun h=>avV k r c w 2 (cY k r c w ps) v ps cells i u z (.inr rfl) (e h)
  have t:=aiI (ps:=ps) u;have o:iU k r c w ps=wG k r c w ps 2 (cY k r c w ps) k.toNat:=rfl;unfold acx at b;rw [←o] at b;rw [q];clear o q;generalize cY k r c w ps=W at *
  generalize iU k r c w ps=D at *
  refine bV Tryz.func17 tL (h:=?_);unfold Tryz.f17;simp only [↓pre,zad,wZ,tL,bD,aX,simprocAttr,aC,bne,aBW,↓p,↓l]
  (first | refine aI (j) (by first | rfl | simp only [aE, *]) ?_ | refine aH (j) (by first | rfl | simp only [aC,aE, *]) (by intro k;first | rfl | simp only [ *,zaa]) ?_);simp only [↓pre,zaf,tL,simprocAttr,bne,aBW]
  by_cases n:W=0
  ·subst n;rw [if_pos rfl];clear b e;simp only [↓pre,zaf,wZ,tL,simprocAttr,bne,aS,aBW];exact .inr ⟨by decide,rfl⟩
  ·rw [if_neg n];have b:=b n;clear e;by_cases f:jF k r c w ps 2 W < k.toNat
   ·rw [if_pos f] at b ⊢;simp only [aW] at b;simp only [↓pre,zad,wZ,tL,simprocAttr,bne,aBW,n]
    (first | refine aI (b) (by first | rfl | simp only [aE, *]) ?_ | refine aH (b) (by first | rfl | simp only [aC,aE, *]) (by intro k;first | rfl | simp only [ *,zaa]) ?_);simp only [↓pre,zaf,wZ,tL,simprocAttr,bne,aS,aBW]
    exact .inr ⟨by decide,rfl⟩
   ·rw [if_neg f] at b ⊢;have d:=awf k r c w (bE (k.toNat*c.toNat) (aJ D)) D [] (aoX D _ t);have A:=(eQ (k.toNat*c.toNat) (aJ D)).plain;unfold aiG at d;generalize nF k r c w D=y at *
    replace f:=aA.mk f;simp only [↓pre,zad,wZ,tL,simprocAttr,bne,aBW,n]
    (first | refine aI (b) (by first | rfl | simp only [aE, *]) ?_ | refine aH (b) (by first | rfl | simp only [aC,aE, *]) (by intro k;first | rfl | simp only [ *,zaa]) ?_);simp only [↓pre,zaf,wZ,tL,qS,simprocAttr,bne,aBW]
    by_cases s:y=0
    ·subst s;rw [if_pos rfl] at d;refine aiE (fun a => .tup [.agg [aB (fQ D),aB (fK D),a],aB 0]) d (oQ 3 _ (by simp [cP,plain,A])).1 (fun _ _=>rfl) (fun _ _=>by simp [hY,iA,aB]) fun a B x => ?_
     rcases x.form with ⟨rfl,m,rfl⟩ | ⟨rfl,m,rfl⟩
     all_goals clear x
     all_goals (
      replace m:=aA.mk m;simp only [aB];simp only [↓pre,zaf,wZ,tL,bD,aBm,aBg,simprocAttr,bne,aS,aBW]
      first | exact .inl ⟨rfl,_,rfl,by rw [m.out];exact gK⟩ | exact .inl ⟨rfl,_,rfl,⟨.inr ⟨1,rfl,by simp [cI,cF,cQ,aX],by simp [fC,cQ,aX],Nat.pos_of_ne_zero m.out⟩,abd _⟩⟩)
    ·rw [if_neg s] at d;unfold wJ aW at d;simp only [aB] at d
     (first | refine aI (d) (by first | rfl | simp only [aE, *]) ?_ | refine aH (d) (by first | rfl | simp only [aC,aE, *]) (by intro k;first | rfl | simp only [ *,zaa]) ?_);simp only [↓pre,zaf,wZ,tL,bD,aBg,simprocAttr,bne,aS,aBW,s]
     exact .inr ⟨s,rfl⟩
 ·have q:jG k r c w ps=cS k r c w ps:=by unfold jG;rw [if_neg g]
  rw [if_neg g] at j;rw [q];refine bV Tryz.func17 tL (h:=?_);unfold Tryz.f17;simp only [↓pre,zad,wZ,tL,bD,aX,simprocAttr,aC,bne,aBW,↓p,↓l]
  (first | refine aI (j) (by first | rfl | simp only [aE, *]) ?_ | refine aH (j) (by first | rfl | simp only [aC,aE, *]) (by intro k;first | rfl | simp only [ *,zaa]) ?_);simp only [↓pre,zaf,wZ,tL,simprocAttr,bne,aS,aBW,g]
  exact .inr ⟨g,rfl⟩
theorem awj (k r c w:Int) (v:AV) (ps:List aO) (cells:List AV) (d:dG v ps cells):aQ ayU 17 [aC k r c w,v] ⟨yX k r c w ps,[]⟩:=gA (mW (aoY k r c w v ps cells d) fun a m h=>⟨0,by
 unfold yX;rcases h with ⟨h,u,rfl,b⟩ | ⟨h,rfl⟩
 ·rw [if_pos h];unfold xM;simp [kH,abV,eC,yS b,jI,aB,gU]
 ·rw [if_neg h];simp [kH,abV,eC,jI,gU,wJ,aW,aB]⟩)
def afV (E b d W:Int) (c:List cC):fA:=if E=0 then tI (fun a => .tup [.agg [aB b,aB d,a],aB W,aB 0]) c else ⟨.tup [wJ,aB 0,aB E],[]⟩
theorem awk (k r c w:Int) (v:AV) (ps:List aO) (cells:List AV) (d:dG v ps cells):aQ ayU 17 [aC k r c w,v] (afV (jG k r c w ps) (fQ (iU k r c w ps)) (fK (iU k r c w ps)) (cY k r c w ps) (dT (iU k r c w ps))):=abg (mW (aoY k r c w v ps cells d) fun a m h=>by
 unfold afV;rcases h with ⟨h,u,rfl,b⟩ | ⟨h,rfl⟩
 ·rw [if_pos h];exact av5 b
 ·rw [if_neg h];simp [iG,jB,canon,fN,wJ,aB,aW])
theorem awl (m0:aF) (i:AV) (cs:List AV) (n:Int) (G:Own m0 5 1 i cs.length cs) (F:0≤n) (C:n≤1073741824) (J:cs.length≤100000):dV ayU 294 [i,aB n] m0 fun r m'=>r=(gY 5 m0 i cs (aJ (bQ n 4))).2∧m'=(gY 5 m0 i cs (aJ (bQ n 4))).1:=by
 refine bV Tryz.func294 aD (h:=?_);unfold Tryz.f294;simp only [↓pre,simprocAttr,sx];rw [bS];refine bU (fun q e m=>∃ (s:Nat) (ys:List UInt8),q=s∧s≤4∧aA (ys++bQ n s=bQ n 4)∧e 0=(gY 5 m0 i cs (aJ ys)).2∧e 1=aB n∧e 5=aB (8*(s:Int) - 8)∧m=(gY 5 m0 i cs (aJ ys)).1) 4 ⟨4,[],rfl,aza _,⟨rfl⟩,rfl,rfl,rfl,rfl⟩ ?_;rintro q e m ⟨s,ys,rfl,f,j,o,H,v,g⟩;replace f:=aA.mk f;cases q with
 | zero =>
  have A:¬ (0:Int)≤8*((0:Nat):Int) - 8:=by omega
  have w:=j.out;rw [show bQ n 0=[] from rfl,aBl] at w;subst w;simp only [↓pre,zac,simprocAttr,o,v];exact g
 | succ d =>
  have D:8*((d+1:Nat):Int) - 8=(8*d:Nat):=by omega
  have k:(0:Int)≤((8*d:Nat):Int):=by omega
  have z:azy.wrap (((8*d:Nat):Int) - 8)=8*((d:Nat):Int) - 8:=by rw [show ((8*d:Nat):Int) - 8=8*((d:Nat):Int) - 8 by omega];exact gB (by omega) (by have:=f.out;omega)
  have l:min (8*d) azy.bits=8*d:=by have:=f.out;have:azy.bits=64:=rfl;omega
  have c:0≤n / 2 ^ (8*d):=Int.ediv_nonneg F (Int.le_of_lt (Int.pow_pos (by decide)));have B:IntKind.u8.wrap (n / 2 ^ (8*d))=((azQ (n / 2 ^ (8*d)).toNat).toNat:Int):=by
   have:=vM (n / 2 ^ (8*d)).toNat;rw [aB4 c] at this;exact this
  have b:=sY (aJ ys) m0 i cs G;rw [←g,←o] at b;have p:(aJ ys).length≤4:=by
   have E:=congrArg List.length j.out;rw [aA2,fX,fX] at E;simp [aJ];omega
  have t:=ami (P:=ayU) (x := .tree 1 1 [.val (.int .u8 (azQ (n / 2 ^ (8*d)).toNat).toNat)] true) (y := .val (.int .u8 (azQ (n / 2 ^ (8*d)).toNat).toNat)) (yb:=1) (zl:=[.int .u8 0]) (by kernel_rfl) b (by kernel_rfl) (by kernel_rfl) (by kernel_rfl) rfl lV (by omega) (by omega);have a:=ahe (el:=5) (aJ ys) [.val (.int .u8 (azQ (n / 2 ^ (8*d)).toNat).toNat)] m0 i cs;rw [←g,←o] at a;simp only [gY] at a;generalize u:e 0=I at *
  rw [D] at v;replace p:=aA.mk p;replace b:=aA.mk b;replace a:=aA.mk a;replace g:=aA.mk g;replace o:=aA.mk o;replace c:=aA.mk c;simp only [↓pre,zac,as7,cO,aoK,simprocAttr,u,H,v,k,z,l,B,t];refine ⟨d,by omega,d,ys++[azQ (n / 2 ^ (8*d)).toNat],rfl,by have:=f.out;omega,⟨by rw [azW];exact j.out⟩, ?_,rfl, ?_⟩
  ·unfold aJ at a ⊢;rw [aBs,aAr,List.map_nil];exact (congrArg Prod.snd a.out).symm
  ·unfold aJ at a ⊢;rw [aBs,aAr,List.map_nil];exact (congrArg Prod.fst a.out).symm
def fM (l:List Int):List UInt8:=l.flatMap fun n=>bQ n 4
theorem aay (l:List Int):(fM l).length=l.length*4:=by
 induction l with
 | nil=>rfl
 | cons a l b=>simp only [fM,List.flatMap_cons,aA2,fX,aAF] at b ⊢;omega
def gR (s:jK):List UInt8:=[84,50,azQ s.kd.toNat,azQ s.ix.toNat]++(bQ s.ce 4++(bQ s.st 4++(fM s.vec++s.data)))
theorem aiJ {m:aF} {a b c d:Int}:fY ayU m 52 4 [(0,.val (.int .u8 a)),(1,.val (.int .u8 b)),(2,.val (.int .u8 c)),(3,.val (.int .u8 d))]=some ⟨.tree 4 4 [.val (.int .u8 a),.val (.int .u8 b),.val (.int .u8 c),.val (.int .u8 d)] true,m,none⟩:=by
 have g:bO ayU 52=some 5:=by kernel_rfl
 have f:bX ayU 5=some 1:=by kernel_rfl
 have e:gF ayU 5=some [.int .u8 0]:=by kernel_rfl
 simp [fY,g,f,e,iJ,aAW,hU,gD,dL,cH,AV.cells,kF,iI,bI]
theorem awm (m:aF) {n:Nat} (f:n≤65536):nK ayU m 52 0 n=some ⟨.sl m.next 0 0 n true,m.push ⟨[],5,.flat,true⟩,none⟩:=by
 have c:bO ayU 52=some 5:=by kernel_rfl
 have a:bX ayU 5=some 1:=by kernel_rfl
 have e:jN ayU 5=some 1:=by kernel_rfl
 have b:bK ayU 5 = .flat:=by kernel_rfl
 have d:=acs a (x := .int .u8 0) (by kernel_rfl) n;simp only [nK,c,a,e,b,d,bI,aAk,azG];rw [if_pos (by omega)];rfl
theorem afW {M:Int}:∀ (l:List Int) (a:Int),a≤M→(∀ v∈l,v≤M)→a≤l.foldl max a∧l.foldl max a≤M
 | [],a,h,_=>⟨Int.le_refl _,h⟩
 | x::l,a,h,hl=>by
  have:=afW l (max a x) (by have:=hl x (by simp);omega) fun v b=>hl v (by simp [b])
  simp only [List.foldl_cons];omega
def wK:Nat→Bool:=fun d=>d != 35 && d != 38
def abh (bs:List UInt8):fA:=⟨.tup [.sl 0 0 bs.length bs.length false,.val (.int .i64 0)],[(5,aJ bs)]⟩
theorem awn {m:aF} {bs:List UInt8} {v:AV} (a:0 < bs.length) (h:Own m 5 1 v bs.length (aJ bs)):iG m (.tup [v,.val (.int .i64 0)]) (abh bs):=by
 have d:bK ayU 5 = .flat:=by kernel_rfl
 obtain ⟨b,rfl,c,_⟩:=h.sl a;simp [iG,jB,canon,fN,c,d,abh]
theorem awo {d:Bool} {f:FuncId} {args:List AV} {m:aF} {K:bL→Prop} {bs:List UInt8} (h:aQ ayU f args (abh bs)) (a:cP args=true) (c:K ⟨.tup [.sl m.next 0 bs.length bs.length false,.val (.int .i64 0)],m.push ⟨aJ bs,5,.flat,true⟩,none⟩):mU ayU d f args m K:=by
 refine wU h (oQ 3 args a).1 ?_ ?_
 ·simp [abh,fA.apart,hY,iA,show iA (aJ bs)=true from adH _]
 ·have b:bK ayU 5 = .flat:=by kernel_rfl
  simpa [abh,shift,gT,eB,gN,b] using c
theorem afX (s:jK):0 < (gR s).length:=by
 unfold gR;rw [aA2];show 0 < 4+_;omega
theorem awp (k r c w:Int) (s:jK) (vv dv:AV) (x y:List AV) (N:aT vv s.vec.length (bJ s.vec++x)) (hd:aT dv s.data.length (aJ s.data++y)) (hm:bG k r c w=true) (hs:wE k r c w s):dV ayU 238 [aC k r c w,.agg [.val (.int .u8 s.kd),aB s.ix,aB s.ce,aB s.st,vv,dv]] aF.empty fun v m=>(∃ k,fzT k m v=some (.tup [bE (gR s).length (aJ (gR s)),aB 0]))∧iG m v (abh (gR s)):=by
 have H:=rS k r c w;simp only [hm,if_true] at H;obtain ⟨a3,o⟩:=xK hs.vec;have Q:=fG hm;have l:=am4 k r c w s.kd s.ix s.ce s.st vv dv s.vec x s.data.length (aJ s.data++y) N hd (by omega);have a2:dS k r c w s.kd s.ix s.ce s.st s.vec s.data.length=true:=by
  unfold dS;rw [decide_eq_true hs.vec,decide_eq_true hs.st,decide_eq_true ⟨hs.ix0,hs.ix1⟩,decide_eq_true hs.ce,decide_eq_true hs.data];rcases hs.kd with h | h <;> simp [h]
 rw [a2] at l;have I:=o _ (az8 hs.ce);have A:=hs.ix0;have M:=hs.ix1;have R:=hs.data;have J:0≤s.st∧s.st≤1073741824:=by
  rw [hs.st];exact afW s.vec 0 (by omega) fun v N=>(o v N).2
 have f:s.vec.length≤16:=by omega
 have D:s.kd=((azQ s.kd.toNat).toNat:Int):=by rcases hs.kd with h | h <;> (rw [h];rfl)
 have Y:IntKind.u8.wrap s.ix=((azQ s.ix.toNat).toNat:Int):=by
  have:=vM s.ix.toNat;rw [aB4 A] at this;exact this
 obtain ⟨W,G⟩:∃ n:Nat,eE k r c=(n:Int):=⟨(eE k r c).toNat,by unfold eE;omega⟩
 have C:W≤200∧0 < W:=by unfold eE at G;omega
 rw [G] at H;have b0:=fun m=>awm m (n:=W) (by omega)
 have f1:=bW N;have f2:=bW hd;have q1:=bR N;have q2:=bR hd;have pv:=N.plain;have pd:=hd.plain;have u:gR s=[84,50,azQ s.kd.toNat,azQ s.ix.toNat]++(bQ s.ce 4++(bQ s.st 4++(fM s.vec++s.data))):=rfl;have g:=fun m lv cs n a b c d=>awl m lv cs n a b c d
 replace g:=aA.mk g;obtain ⟨kd,ix,ce,st,vec,data⟩:=s;simp only at *
 clear hs a2;replace u:=aA.mk u;replace o:=aA.mk o;replace a3:=aA.mk a3;replace Q:=aA.mk Q;replace G:=aA.mk G;replace A:=aA.mk A;replace M:=aA.mk M;replace R:=aA.mk R;replace I:=aA.mk I;replace J:=aA.mk J;replace f:=aA.mk f;replace C:=aA.mk C;replace D:=aA.mk D;simp only [kK,aB] at l;refine bV Tryz.func238 wK (h:=?_);unfold Tryz.f238;simp only [↓pre,zad,aai,wK,simprocAttr,aC,bne,f1,f2]
 (first | refine aI (H) (by first | rfl | simp only [aC,aE, *]) ?_ | refine aH (H) (by first | rfl | simp only [aC,aE, *]) (by intro k;first | rfl | simp only [ *,zaa]) ?_);simp only [↓pre,zad,aai,wK,simprocAttr,bne];(first | refine aI (l) (by first | rfl | simp only [aE, *]) ?_ | refine aH (l) (by first | rfl | simp only [aC,aE, *]) (by intro k;first | rfl | simp only [ *,zaa]) ?_);simp only [↓pre,za,wK,simprocAttr,bne,b0]
 refine cX (by kernel_rfl) ?_;simp only [↓pre,zad,aai,wK,cO,aiJ,simprocAttr,bne,Y];generalize a7:aF.push aF.empty _=m1;have t:aix m1 5 1 (.sl aF.empty.next 0 0 W true) 0 []:=by
  rw [←a7];exact ⟨.inr ⟨_,W,rfl,by rw [cF,if_pos rfl],by rw [cQ];omega,rfl,rfl,by have:=C.out;omega⟩⟩
 refine aoJ (sz:=1) (y:=1) (zl:=[.int .u8 0]) (by kernel_rfl) t (by kernel_rfl) (by kernel_rfl) (by kernel_rfl) rfl (abQ (by simp)) rfl (by omega) (by omega) (by omega) ?_;intro v2 m2 j b4;clear a7 t;have B:([]:List AV)++([.val (.int .u8 84),.val (.int .u8 50),.val (.int .u8 kd),.val (.int .u8 ((azQ ix.toNat).toNat:Int))]:List AV).take (4*1)=aJ [84,50,azQ kd.toNat,azQ ix.toNat]:=by
  have h9:=D.out;show ([.val (.int .u8 84),.val (.int .u8 50),.val (.int .u8 kd),.val (.int .u8 ((azQ ix.toNat).toNat:Int))]:List AV)=[bA 84,bA 50,bA (azQ kd.toNat),bA (azQ ix.toNat)];unfold bA;rw [←h9];rfl
 rw [B] at j;have j:Own m2 5 1 v2 (aJ [84,50,azQ kd.toNat,azQ ix.toNat]).length (aJ [84,50,azQ kd.toNat,azQ ix.toNat]):=j;generalize K:aJ [84,50,azQ kd.toNat,azQ ix.toNat]=V at *
 have E:V.length=4:=by rw [←K];rfl
 have c1:=g.out m2 v2 V ce j (by have:=I.out;omega) (by have:=I.out;omega) (by omega);have o1:=sY (aJ (bQ ce 4)) m2 v2 V j;rw [←aA2] at o1;have c2:=g.out _ _ _ st o1 (by have:=J.out;omega) (by have:=J.out;omega) (by rw [aA2,eS,fX];omega);have o2:=sY (aJ (bQ st 4)) _ _ _ o1;rw [←aA2] at o2;generalize gY 5 m2 v2 V (aJ (bQ ce 4))=G1 at *
 generalize gY 5 G1.1 G1.2 (V++aJ (bQ ce 4)) (aJ (bQ st 4))=G2 at *
 replace o1:=aA.mk o1;replace o2:=aA.mk o2;replace j:=aA.mk j;replace E:=aA.mk E;replace K:=aA.mk K;replace B:=aA.mk B;simp only [aB] at c1 c2;refine cX (by kernel_rfl) ?_;simp only [↓pre,zad,aai,wK,simprocAttr,bne];refine nR c1 ?_;refine cX (by kernel_rfl) ?_;simp only [↓pre,zad,aai,wK,simprocAttr,bne];refine nR c2 ?_;refine cX (by kernel_rfl) ?_;simp only [↓pre,za,aai,wK,simprocAttr,bne,N.len'];generalize a5:V++aJ (bQ ce 4)++aJ (bQ st 4)=F at *
 have b1:F.length=12:=by rw [←a5,aA2,aA2,eS,eS,fX,fX,E.out]
 have hO:Own G2.1 5 1 G2.2 (F++aJ (fM (vec.take 0))).length (F++aJ (fM (vec.take 0))):=by simpa [fM,aJ] using o2.out
 rw [bS];refine bU (fun q e m=>∃ i,q+i=vec.length∧e 3 = .tptr 0 [.val (.int .u8 kd),.val (.int .i64 ix),.val (.int .i64 ce),.val (.int .i64 st),vv,dv]∧e 40=vv∧e 41=aB (vec.length:Nat)∧e 42=aB (i:Nat)∧aA (Own m 5 1 (e 8) (F++aJ (fM (vec.take i))).length (F++aJ (fM (vec.take i))))) vec.length ⟨0,by omega,rfl,rfl,rfl,rfl,⟨hO⟩⟩ ?_;rintro q e m ⟨i,hq,e3,a0,O,S,hJ⟩;replace hq:=aA.mk hq;generalize a6:e 8=v0 at *
 by_cases X:i < vec.length
 ·have p:((i:Nat):Int) < ((vec.length:Nat):Int):=by omega
  have wi:=cB (n:=i) (by have:=f.out;omega);obtain ⟨z,hz⟩:∃ z,vec[i]? = some z:=⟨_,azm X⟩
  have a8:=nU (x:=x) hz;have a1:=o.out z (az8 hz);have U:fM (vec.take (i+1))=fM (vec.take i)++bQ z 4:=by rw [List.take_add_one,hz];simp [fM]
  have a4:(F++aJ (fM (vec.take i))).length≤100:=by rw [aA2,eS,aay,List.length_take];have:=f.out;omega
  have c3:=g.out m v0 _ z hJ.out (by omega) (by omega) (by omega);have o3:=sY (aJ (bQ z 4)) m v0 _ hJ.out;rw [←aA2,azW,←qH,←U] at o3;replace hz:=aA.mk hz;replace a1:=aA.mk a1;replace U:=aA.mk U;replace o3:=aA.mk o3;simp only [aB] at c3;simp only [↓pre,za,aai,wK,simprocAttr,bne,a6,a0,O,S,p,N.addr',X,a8];refine nR c3 ?_;simp only [↓pre,zad,wK,simprocAttr,bne,e3,a0,O,S,wi];exact ⟨q - 1,by have:=hq.out;omega,i+1,by have:=hq.out;omega,rfl,⟨o3.out⟩⟩
 ·have p:¬ ((i:Nat):Int) < ((vec.length:Nat):Int):=by omega
  have hi:i=vec.length:=by have:=hq.out;omega
  subst hi;rw [List.take_length] at hJ;have L:=aT.src (P:=ayU) (m:=m) (el:=5) (sz:=1) hd (by rw [azG,aA2,eS];omega);rw [azG,List.take_left' (eS data)] at L;have a4:(F++aJ (fM vec)).length≤100:=by rw [aA2,eS,aay];have:=f.out;omega
  have b2:data.length≤64:=by have:=R.out;have:=Q.out;omega
  simp only [↓pre,zad,aai,wK,cO,simprocAttr,bne,a6,e3,O,S,p];refine nP (sz:=1) (y:=1) (zl:=[.int .u8 0]) (by kernel_rfl) hJ.out (by kernel_rfl) (by kernel_rfl) (by kernel_rfl) rfl L (by rw [eS];omega) (by omega) (by omega) ?_;intro v4 m4 T b3;simp only [↓pre,simprocAttr];have Z:(F++aJ (fM vec))++aJ data=aJ (gR ⟨kd,ix,ce,st,vec,data⟩):=by
   rw [u.out,←a5,←K.out];simp only [qH,azW]
  have a9:(F++aJ (fM vec)).length+data.length=(gR ⟨kd,ix,ce,st,vec,data⟩).length:=by
   have:=congrArg List.length Z;rw [aA2,eS,eS] at this;exact this
  rw [Z,a9] at T;exact ⟨⟨0,by rw [kH,eC,yS T,aAk,eC,gU,jI];rfl⟩,awn (afX _) T⟩
theorem awq (k r c w:Int) (s:jK) (vv dv:AV) (x y:List AV) (b:aT vv s.vec.length (bJ s.vec++x)) (d:aT dv s.data.length (aJ s.data++y)) (a:bG k r c w=true) (hs:wE k r c w s):aQ ayU 238 [aC k r c w,.agg [.val (.int .u8 s.kd),aB s.ix,aB s.ce,aB s.st,vv,dv]] (abh (gR s)):=abg (mW (awp k r c w s vv dv x y b d a hs) fun _ _ h=>h.2)
structure cW where
 dr:Nat
 row:Int
 sl:Nat
 bs:List UInt8
def cW.cells (p:cW):List AV:=[aB p.dr,aB p.row,aB p.sl,bE p.bs.length (aJ p.bs)]
def eH (l:List cW):List AV:=l.flatMap cW.cells
def gV:List cW→List Nat→List AV
 | p::l,b::B=>aB p.dr::aB p.row::aB p.sl :: .sl b 0 p.bs.length p.bs.length false::gV l B
 | _,_=>[]
theorem aoZ:∀ (l:List cW) (B:List Nat) (p:cW) (b:Nat),B.length=l.length→gV (l++[p]) (B++[b])=gV l B++[aB p.dr,aB p.row,aB p.sl,.sl b 0 p.bs.length p.bs.length false]
 | [],[],p,b,_=>rfl
 | q::l,c::B,p,b,h=>by
  simp only [aBZ,gV];rw [aoZ l B p b (by simpa using h)]
 | [],_::_,_,_,h=>by cases h
 | _::_,[],_,_,h=>by cases h
structure xN (m:aF) (l:List cW) (B:List Nat):Prop where
 len:B.length=l.length
 row:∀ (i:Nat) (p:cW) (b:Nat),l[i]? = some p→B[i]? = some b→p.bs.length≠0∧m.at_ b=some ⟨aJ p.bs,5,.flat,true⟩
 nd:B.Nodup
structure aiK (m0 m:aF) (v:AV) (l:List cW) (B:List Nat):Prop extends xN m l B where
 new:∀ b∈B,m0.next≤b∧b < m.next∧cG v≠some b
theorem xN.tail {m:aF} {p:cW} {l:List cW} {b:Nat} {B:List Nat} (h:xN m (p::l) (b::B)):xN m l B :=
 ⟨by simpa using h.len,fun i q c a d=>h.row (i+1) q c (by simpa using a) (by simpa using d),(List.nodup_cons.1 h.nd).2⟩
theorem ao0 (m:aF) (k:Nat):∀ (l:List cW) (B:List Nat),xN m l B→nQ k m (gV l B)=some (eH l)
 | [],_,_=>by
  show nQ k m []=_;rw [jI];rfl
 | p::l,[],h=>by cases h.len
 | p::l,b::B,h=>by
  obtain ⟨a,e⟩:=h.row 0 p b rfl rfl;have d:=ao0 m k l B h.tail;have c:fzT k m (.sl b 0 p.bs.length p.bs.length false)=some (bE p.bs.length (aJ p.bs)):=by
   rw [wW e,aBx];unfold bE;rw [if_neg a]
  simp only [gV,eC,aB,gU,c,d,aAk,az6];rfl
theorem aiL {m:aF} {v:AV} {l:List cW} {B:List Nat} (h:bY .var m 69 4 v l.length (gV l B)) (d:xN m l B) (k:Nat):fzT (k+1) m v=some (bE l.length (eH l)):=by
 rcases h.form with ⟨rfl,c,f⟩ | ⟨b,rfl,a,e,g⟩
 ·unfold aW bE;rw [gU,if_pos c];rfl
 ·rw [aey a (by rw [aBx];exact ao0 m k l B d)];unfold bE;rw [if_neg (by omega)]
structure yY (m0 m:aF) (a:Nat) (k r c w:Int) (row:AV) (num:Int) (kv:AV) (l:List cW):Prop where
 ex:∃ v B,m.at_ a=some ⟨[aB k,aB r,aB c,aB w,row,aB num,kv,v],195,.var,true⟩∧bY .var m 69 4 v l.length (gV l B)∧kB m0 v∧aiK m0 m v l B
 lt:a < m0.next
 next:m0.next≤m.next
 mm:m.mm=m0.mm
 at_:∀ j k,m0.at_ j=some k→j < m0.next→j≠a→m.at_ j=some k
def pK (o:Option (List Int)) (i:Nat):Int:=match o with | some l=>l.getD i 0 | none=>0
def gS (k r c w:Int) (ps:List aO) (num:Int) (o:Option (List Int)) (s:jK):cW:=⟨s.ix.toNat,num,qF k r c w (ps.getD s.ix.toNat ([],[])) s.ix s.kd (pK o s.ix.toNat),gR s⟩
theorem ao1 {m:aF} {a b c:Int} {q n:Nat}:pR ayU m 27 1 [(0,.agg [.val (.int .i64 a),.val (.int .i64 b),.val (.int .i64 c),.sl q 0 n n false])]=some ⟨.sl m.next 0 1 1 true,m.push ⟨[.val (.int .i64 a),.val (.int .i64 b),.val (.int .i64 c),.sl q 0 n n false],69,.var,true⟩,none⟩:=by
 have g:bO ayU 27=some 69:=by kernel_rfl
 have d:bX ayU 69=some 4:=by kernel_rfl
 have f:iJ ayU 69 1=some [.val (.int .i64 0),.val (.int .i64 0),.val (.int .i64 0),.val (.slice none 0 0)]:=by kernel_rfl
 have e:bK ayU 69 = .var:=by kernel_rfl
 simp [pR,g,d,f,e,hU,cH,AV.cells,gD,bI]
theorem ao2 {m:aF} {b:Nat} {x y z u:AV} {f:Bool} (h:m.at_ b=some ⟨[x,y,z,u],69,.var,true⟩):eM ayU 69 4 m (.sl b 0 1 1 f)=some ([x,y,z,u],1):=by
 have a:bK ayU 69 = .var:=by kernel_rfl
 simp [eM,dR,h,a]
theorem yY.grow {m0 m m':aF} {a:Nat} {k r c w:Int} {row:AV} {num:Int} {I:AV} {l:List cW} {s:AV} {B:List Nat} {p:cW} {v':AV} {y:eZ} (G:yY m0 m a k r c w row num I l)
 (t:m.at_ a=some ⟨[aB k,aB r,aB c,aB w,row,aB num,I,s],195,.var,true⟩) (u:bY .var m 69 4 s l.length (gV l B)) (n:kB m0 s) (f:aiK m0 m s l B) (R:p.bs.length≠0)
 (V:bY .var m' 69 4 v' (l.length+1) (gV l B++[aB p.dr,aB p.row,aB p.sl,.sl m.next 0 p.bs.length p.bs.length false])) (O:((m.push ⟨aJ p.bs,5,.flat,true⟩).push y).next≤m'.next)
 (K:∀ j x,((m.push ⟨aJ p.bs,5,.flat,true⟩).push y).at_ j=some x→j < ((m.push ⟨aJ p.bs,5,.flat,true⟩).push y).next→cG s≠some j→m'.at_ j=some x)
 (F:∀ j,cG v'=some j→j=((m.push ⟨aJ p.bs,5,.flat,true⟩).push y).next∨cG s=some j) (U:m'.mm=m.mm) :
 m'.at_ a=m.at_ a∧yY m0 (m'.put a (some ⟨[aB k,aB r,aB c,aB w,row,aB num,I,v'],195,.var,true⟩)) a k r c w row num I (l++[p]):=by
 simp only [cQ] at O K F;have P:=G.lt;have Y:=G.next;have D:∀ j,cG s=some j→j < m.next:=fun j o=>by
  rcases u.form with ⟨e,_⟩ | ⟨b,e,_,d,_⟩
  ·rw [e] at o;cases o
  ·rw [e] at o;cases o;exact d
 have g:∀ j x,m.at_ j=some x→j < m.next→cG s≠some j→m'.at_ j=some x:=fun j x N o H=>K j x (by rw [cF,if_neg (by rw [cQ];omega),cF,if_neg (by omega)];exact N) (by omega) H
 have v:∀ j,cG v'=some j→m0.next≤j:=fun j o=>by
  rcases F j o with h | h
  ·omega
  ·exact n j h
 have C:=g a _ t (by omega) fun h=>by have:=n a h;omega
 refine ⟨by rw [t,C],⟨⟨v',B++[m.next],by rw [cI,if_pos rfl], ?_,v,⟨⟨by simp [f.len],fun i q b E d => ?_, ?_⟩,fun b d => ?_⟩⟩,P,by rw [fC];omega,by show m'.mm=m0.mm;rw [U,G.mm],fun j x o J A => ?_⟩⟩
 ·rw [aoZ l B p _ f.len,aA2];exact V.put_ne fun h=>by have:=v a h;omega
 ·by_cases hi:i < l.length
  ·rw [azg hi] at E;rw [azg (by rw [f.len];exact hi)] at d;obtain ⟨S,W⟩:=f.row i q b E d;obtain ⟨Z,T,X⟩:=f.new b (az8 d);exact ⟨S,by rw [cI,if_neg (by omega)];exact g b _ W T X⟩
  ·have M:=(ay8.1 E).1;simp only [aA2,zak] at M;have L:i=l.length:=by omega
   subst L;rw [azh (aza _),Nat.sub_self] at E;rw [azh (by rw [f.len];exact aza _),f.len,Nat.sub_self] at d;cases E;cases d;refine ⟨R, ?_⟩;rw [cI,if_neg (by omega)];exact K m.next _ (by rw [cF,if_neg (by rw [cQ];omega),cF,if_pos rfl]) (by omega) fun h=>by have:=D _ h;omega
 ·refine List.nodup_append.2 ⟨f.nd,by simp,fun x N z Q => ?_⟩;have:=(f.new x N).2.1;simp only [aBo] at Q;omega
 ·have H:cG v'≠some b:=fun h=>by
   rcases aBp.1 d with d | d
   ·rcases F b h with h | h
    ·have:=(f.new b d).2.1;omega
    ·exact (f.new b d).2.2 h
   ·rw [aBo.1 d] at h;rcases F _ h with h | h
    ·omega
    ·have:=D _ h;omega
  rw [fC];rcases aBp.1 d with d | d
  ·have:=f.new b d;exact ⟨this.1,by omega,H⟩
  ·have:=aBo.1 d;exact ⟨by omega,by omega,H⟩
 ·rw [cI,if_neg A];exact g j x (G.at_ j x o J A) (by omega) fun h=>by have:=n j h;omega
def wL:Nat→Bool:=fun d=>d != 13 && d != 15 && d != 29 && d != 38 && d != 42 && d != 62 && d != 68 && d != 72
theorem ao3 (k r c w num:Int) (v:AV) (ps:List aO) (cells:List AV) (hv:dG v ps cells) (hm:bG k r c w=true) (hr:dE k r c ps=true) (o:Option (List Int)) (ho:∀ l,o=some l→(l.length:Int)=k+r∧∀ v∈l,1≤v∧v≤1073741824) (s:jK) (hs:wE k r c w s) (vv dv:AV) (x y:List AV) (C:aT vv s.vec.length (bJ s.vec++x)) (hd:aT dv s.data.length (aJ s.data++y)) (m0 m:aF) (a:Nat) (l:List cW) (a8:l.length≤1000) (M:yY m0 m a k r c w v num (jZ o) l):dV ayU 164 [.ptr a 0,.agg [.val (.int .u8 s.kd),aB s.ix,aB s.ce,aB s.st,vv,dv]] m fun a9 m'=>a9=aB 0∧yY m0 m' a k r c w v num (jZ o) (l++[gS k r c w ps num o s]):=by
 have a5:=awq k r c w s vv dv x y C hd hm hs;have R:=fG hm;obtain ⟨hl,I⟩:=qR hr;obtain ⟨pv,BL,b,e,A,F⟩:=M.ex;obtain ⟨i,hi⟩:∃ i:Nat,s.ix=(i:Int):=⟨s.ix.toNat,by have:=hs.ix0;omega⟩
 have a4:s.ix.toNat=i:=by omega
 have b2:=(xK hs.vec).1;have L:i < ps.length:=by have:=hs.ix1;omega
 have a1:=hs.kd;obtain ⟨p,n⟩:∃ p,ps[i]? = some p:=⟨_,azm L⟩
 have a7:ps.getD i ([],[])=p:=by rw [azs,n];rfl
 obtain ⟨pa,pb,xa,xb,ha,hb,Y,W⟩:=hv.at_ i p n;obtain ⟨ht,a0⟩:=qX ha hb;have D:0≤pK o i∧pK o i≤1073741824:=by
  unfold pK;cases o with
  | some l2 =>
   obtain ⟨f,E⟩:=ho l2 rfl;have a3:i < l2.length:=by omega
   have:=E (l2.getD i 0) (by rw [azs,azm a3];exact List.getElem_mem _);simp only;omega
  | none=>simp only;omega
 have j:=avK k r c w (i:Nat) s.kd (pK o i) pa pb p xa xb Y W hm (I p (az8 n)) a1 (by omega) (by have:=hs.ix1;omega) D.1 D.2;have a6:gS k r c w ps num o s=⟨i,num,qF k r c w p (i:Nat) s.kd (pK o i),gR s⟩:=by
  unfold gS;rw [a4,a7,hi]
 rw [a6];have b1:(gR s).length≤1000:=by
  have h1:=hs.data;have h2:=hs.ix1;unfold gR;simp only [aA2,zak,fX,aay];omega
 generalize qF k r c w p (i:Nat) s.kd (pK o i)=N at *
 have t:(gR s).length≠0:=by have:=afX s;omega
 generalize gR s=B at *
 have d:¬ a=m.next:=by have:=M.lt;have:=M.next;omega
 have f1:=bW C;have f2:=bW hd;have q1:=bR C;have q2:=bR hd;have b4:=C.plain;have b5:=hd.plain;have b0:=Y.plain;have b6:=W.plain;obtain ⟨kd,ix,ce,st,vec,data⟩:=s;simp only at *
 subst hi;replace M:=aA.mk M;replace A:=aA.mk A;replace e:=aA.mk e;replace ho:=aA.mk ho;replace D:=aA.mk D;replace n:=aA.mk n;replace R:=aA.mk R;replace hs:=aA.mk hs;replace I:=aA.mk I;have X:=aA.mk b;replace F:=aA.mk F;replace t:=aA.mk t;simp only [aB] at b;refine bV Tryz.func164 wL (h:=?_);unfold Tryz.f164;simp only [↓pre,zad,aah,wL,simprocAttr,bne,f1,f2,b];refine awo a5 (by simp only [aE, *]) ?_;refine cX (by kernel_rfl) ?_;simp only [↓pre,za,aah,wL,simprocAttr,bne,b,d];have u:=fun (m':aF) (v':AV) y f E Z Q P=>yY.grow (m':=m') (v':=v') (y:=y) (p:=⟨i,num,N,B⟩) M.out X.out e.out A.out F.out t.out f E Z Q P
 simp only [aB] at u;replace u:=aA.mk u;have g:l.length≤1000:=a8;replace g:=aA.mk g;cases o with
 | none =>
  simp only [jZ,aW] at *
  simp only [pK] at j;have G:eA ayU .neq 41 (.tmp 24) (.const (.slice none 0 0)) (.val (.slice none 0 0)) (.val (.slice none 0 0))=some (aZ false):=by kernel_rfl
  simp only [↓pre,za,aah,wL,simprocAttr,bne,b,d,G,hv.rd.addr',L,ht,a0]
  (first | refine aI (j) (by first | rfl | simp only [aC,aE, *]) ?_ | refine aH (j) (by first | rfl | simp only [aE, *]) (by intro k;first | rfl | simp only [ *,zaa]) ?_);simp only [↓pre,za,aah,wL,simprocAttr,bne,b,d]
  rw [ao1];refine oO (by kernel_rfl) ?_;simp only [↓pre,za,wL,simprocAttr,bne];refine vN (kd := .var) (sz:=4) (y:=48) (zl:=[.int .i64 0,.int .i64 0,.int .i64 0,.slice none 0 0]) (by kernel_rfl) ((e.out.push _).push _) (by kernel_rfl) (by kernel_rfl) (by kernel_rfl) rfl (ao2 (by rw [cF,if_pos (by rw [cQ])])) rfl (by have:=g.out;omega) (by have:=g.out;omega) ?_;intro v' m' f E Z Q P;obtain ⟨V,J⟩:=u.out m' v' _ f E Z Q P;rw [b] at V;have kv:gD v'=true:=by rcases f.form with ⟨rfl,_⟩ | ⟨_,rfl,_⟩ <;> rfl
  have cv:v'.cells=[v']:=by rcases f.form with ⟨rfl,_⟩ | ⟨_,rfl,_⟩ <;> rfl
  replace f:=aA.mk f;replace J:=aA.mk J;refine cX (by kernel_rfl) ?_;have H:∀ q,aS ayU m' 27 q v' (.ptr a 7)=bI eI (m'.put a (some ⟨[aB k,aB r,aB c,aB w,v,aB num,.val (.slice none 0 0),v'],195,.var,true⟩)):=by
   have K:bX ayU 27=some 1:=by kernel_rfl
   intro q;simp [aS,V,K,kv,cv,cH,aB]
  simp only [↓pre,zad,aah,wL,simprocAttr,bne,H];refine cX (by kernel_rfl) ?_;simp only [↓pre,simprocAttr,sx];exact J.out
 | some o =>
  obtain ⟨T,b3⟩:=ho.out o rfl;have S:i < o.length:=by omega
  obtain ⟨z,hz⟩:∃ z,o[i]? = some z:=⟨_,azm S⟩
  have O:=nU (x:=[]) hz;rw [aBl] at O;have U:aT (.tree o.length o.length (bJ o) false) o.length (bJ o):=⟨.inr (.inr ⟨_,false,rfl,aza _⟩)⟩
  have a2:pK (some o) i=z:=by unfold pK;simp only;rw [azs,hz];rfl
  rw [a2] at j;have G:eA ayU .neq 41 (.tmp 24) (.const (.slice none 0 0)) (.tree o.length o.length (bJ o) false) (.val (.slice none 0 0))=some (aZ true):=by kernel_rfl
  simp only [jZ] at *
  replace T:=aA.mk T;replace hz:=aA.mk hz;simp only [↓pre,za,aah,wL,simprocAttr,bne,b,d,G,U.addr',S,O,hv.rd.addr',L,ht,a0]
  (first | refine aI (j) (by first | rfl | simp only [aC,aE, *]) ?_ | refine aH (j) (by first | rfl | simp only [aE, *]) (by intro k;first | rfl | simp only [ *,zaa]) ?_);simp only [↓pre,za,aah,wL,simprocAttr,bne,b,d]
  rw [ao1];refine oO (by kernel_rfl) ?_;simp only [↓pre,za,wL,simprocAttr,bne];refine vN (kd := .var) (sz:=4) (y:=48) (zl:=[.int .i64 0,.int .i64 0,.int .i64 0,.slice none 0 0]) (by kernel_rfl) ((e.out.push _).push _) (by kernel_rfl) (by kernel_rfl) (by kernel_rfl) rfl (ao2 (by rw [cF,if_pos (by rw [cQ])])) rfl (by have:=g.out;omega) (by have:=g.out;omega) ?_;intro v' m' f E Z Q P;obtain ⟨V,J⟩:=u.out m' v' _ f E Z Q P;rw [b] at V;have kv:gD v'=true:=by rcases f.form with ⟨rfl,_⟩ | ⟨_,rfl,_⟩ <;> rfl
  have cv:v'.cells=[v']:=by rcases f.form with ⟨rfl,_⟩ | ⟨_,rfl,_⟩ <;> rfl
  replace f:=aA.mk f;replace J:=aA.mk J;refine cX (by kernel_rfl) ?_;have H:∀ q,aS ayU m' 27 q v' (.ptr a 7)=bI eI (m'.put a (some ⟨[aB k,aB r,aB c,aB w,v,aB num,.tree o.length o.length (bJ o) false,v'],195,.var,true⟩)):=by
   have K:bX ayU 27=some 1:=by kernel_rfl
   intro q;simp [aS,V,K,kv,cv,cH,aB]
  simp only [↓pre,zad,aah,wL,simprocAttr,bne,H];refine cX (by kernel_rfl) ?_;simp only [↓pre,simprocAttr,sx];exact J.out
def yZ (l:List cW):fA:=⟨.tup [.sl l.length 0 l.length l.length false,.val (.int .i64 0)],(l.map fun p=>(5,aJ p.bs))++[(69,gV l (List.range' 0 l.length))]⟩
theorem aiM {P:Program} {m:aF} {k:Nat} {a:List (Nat×Nat)} {rows:List (TypeId×List AV)} {c:AV} {cs:List AV}:fN P m k a rows (c::cs)=(canon P m k a rows c).bind fun r=>(fN P m k r.2.1 r.2.2 cs).map fun s=>(r.1::s.1,s.2):=by cases k <;> rw [fN]
theorem ao4 {P:Program} {m:aF} {k:Nat} {a:List (Nat×Nat)} {rows:List (TypeId×List AV)}:fN P m k a rows []=some ([],a,rows):=by cases k <;> rw [fN]
theorem ao5 {P:Program} {m:aF} {k:Nat} {a:List (Nat×Nat)} {rows:List (TypeId×List AV)} {v:Value}:canon P m k a rows (.val v)=some (.val v,a,rows):=by cases k <;> rw [canon]
theorem ao6 (m:aF) (k:Nat):∀ (l:List cW) (B:List Nat) (a:List (Nat×Nat)) (rows:List (TypeId×List AV)),xN m l B→(∀ i∈a,i.1 ∉ B)→fN ayU m k a rows (gV l B)=some (gV l (List.range' rows.length l.length),a++B.map (fun b=>(b,0)),rows++l.map fun p=>(5,aJ p.bs))
 | [],[],a,rows,_,_=>by simp [ao4,gV]
 | [],_::_,_,_,h,_=>by cases h.len
 | _::_,[],_,_,h,_=>by cases h.len
 | p::l,b::B,a,rows,h,hi=>by
  obtain ⟨n,g⟩:=h.row 0 p b rfl rfl;have f:bK ayU 5 = .flat:=by kernel_rfl
  have j:=ao6 m k l B (a++[(b,0)]) (rows++[(5,aJ p.bs)]) h.tail (fun i c=>by
   rcases aBp.1 c with c | c
   ·exact fun d=>hi i c (List.mem_cons_of_mem _ d)
   ·rw [aBo.1 c];exact (List.nodup_cons.1 h.nd).1)
  have e:a.any (fun i=>i.1 == b)=false:=by
   rw [aBu];intro i c d;exact hi i c (by rw [beq_iff_eq.1 d];exact List.mem_cons_self)
  have d:canon ayU m k a rows (.sl b 0 p.bs.length p.bs.length false)=some (.sl rows.length 0 p.bs.length p.bs.length false,a++[(b,0)],rows++[(5,aJ p.bs)]):=by
   cases k <;> (rw [canon];simp [g,e,f])
  simp only [gV,aiM,aB,ao5,d,j,aAk,az6];rw [show List.range' rows.length (p::l).length=rows.length::List.range' (rows++[(5,aJ p.bs)]).length l.length by rw [aA2];rfl];simp only [gV,aB,aAr,azW,aBZ,List.nil_append]
theorem ao7 {m0 m:aF} {v:AV} {l:List cW} {B:List Nat} (h:bY .var m 69 4 v l.length (gV l B)) (j:0 < l.length) (d:aiK m0 m v l B):iG m (.tup [v,.val (.int .i64 0)]) (yZ l):=by
 obtain ⟨b,rfl,e,_⟩:=h.sl j;have a:=ao6 m 2 l B [] [] d.toxN (by simp);have f:bK ayU 69 = .var:=by kernel_rfl
 have n:(B.map fun x=>(x,0)).any (fun i=>i.1 == b)=false:=by
  rw [aBu];intro i k h;obtain ⟨c,a,rfl⟩:=azp.1 k;exact (d.new c a).2.2 (by rw [←beq_iff_eq.1 h];rfl)
 simp only [List.nil_append,aAG] at a;have g:canon ayU m 3 [] [] (.sl b 0 l.length l.length false)=some (.sl l.length 0 l.length l.length false,B.map (fun b=>(b,0))++[(b,0)],(l.map fun p=>(5,aJ p.bs))++[(69,gV l (List.range' 0 l.length))]):=by
  rw [canon];simp [e,f,a,n]
 unfold iG jB;rw [canon,aiM,g,aAk,aiM,ao5,aAk,ao4];rfl
theorem ao8:∀ (l:List cW) (B:List Nat),B.length=l.length→(gV l B).length=l.length*4
 | [],[],_=>rfl
 | [],_::_,h=>by cases h
 | _::_,[],h=>by cases h
 | p::l,b::B,h=>by
  have:=ao8 l B (by simpa using h);simp only [gV,aAF];omega
structure adQ (m m1:aF) (b:Nat) (l:List cW) (B:List Nat):Prop where
 cells:m1.at_ b=some ⟨gV l B,69,.var,true⟩
 byt:xN m1 l B
 new:∀ c∈B,m.next≤c∧c < m1.next∧c≠b
 blk:m.next≤b∧b < m1.next
 kept:gX m m1
theorem adQ.own {m a:aF} {b:Nat} {l:List cW} {B:List Nat} (h:adQ m a b l B) (c:0 < l.length):bY .var a 69 4 (.sl b 0 l.length l.length false) l.length (gV l B):=⟨.inr ⟨b,rfl,h.cells,h.blk.2,c⟩,ao8 l B h.byt.len⟩
theorem adQ.canon {m d:aF} {b:Nat} {l:List cW} {B:List Nat} (h:adQ m d b l B) (f:0 < l.length):iG d (.tup [.sl b 0 l.length l.length false,.val (.int .i64 0)]) (yZ l) :=
 ao7 (m0:=m) (h.own f) f ⟨h.byt,fun c a=>⟨(h.new c a).1,(h.new c a).2.1,fun e=>(h.new c a).2.2 (by cases e;rfl)⟩⟩
theorem ao9:∀ (l:List cW) (B:List Nat),iA (gV l B)=true
 | [],[]=>rfl
 | [],_::_=>rfl
 | _::_,[]=>rfl
 | p::l,b::B=>by simp [gV,iA,hY,aB,ao9 l B]
theorem apa (n:Nat):∀ (l:List cW) (B:List Nat),gT n (gV l B)=gV l (B.map (n+·))
 | [],[]=>rfl
 | [],_::_=>rfl
 | _::_,[]=>rfl
 | p::l,b::B=>by simp [gV,gT,shift,aB,apa n l B]
def wM:aF→List cW→aF
 | m,[]=>m
 | m,p::l=>wM (m.push ⟨aJ p.bs,5,.flat,true⟩) l
theorem apb:∀ (l:List cW) (m:aF),(wM m l).next=m.next+l.length∧(wM m l).mm=m.mm∧(∀ j,j < m.next→(wM m l).at_ j=m.at_ j)∧∀ i p,l[i]? = some p→(wM m l).at_ (m.next+i)=some ⟨aJ p.bs,5,.flat,true⟩
 | [],m=>⟨rfl,rfl,fun _ _=>rfl,fun i p h=>by cases h⟩
 | p::l,m=>by
  obtain ⟨c,e,a,b⟩:=apb l (m.push ⟨aJ p.bs,5,.flat,true⟩);simp only [cQ] at c a b;refine ⟨by simp only [wM,c,aAF];omega,e,fun j f => ?_,fun i q d => ?_⟩
  ·simp only [wM];rw [a j (by omega),cF,if_neg (by omega)]
  ·simp only [wM];cases i with
   | zero =>
    cases d;rw [Nat.add_zero,a m.next (by omega),cF,if_pos rfl]
   | succ i =>
    have:=b i q (by simpa using d);rw [show m.next+(i+1)=m.next+1+i by omega];exact this
theorem apc (base:Nat) (a:List (TypeId×List AV)):∀ (l:List cW) (m:aF),gN ayU base m ((l.map fun p=>(5,aJ p.bs))++a)=gN ayU base (wM m l) a
 | [],m=>rfl
 | p::l,m=>by
  have b:bK ayU 5 = .flat:=by kernel_rfl
  simp only [aAr,aBZ,gN,b,if_true,wM];exact apc base a l _
theorem apd {d:Bool} {f:FuncId} {args a:List AV} {m:aF} {K:bL→Prop} {l:List cW} (h:aQ ayU f a (yZ l)) (y:dN 3 m args=some a) (g:∀ p∈l,p.bs.length≠0) (C:∀ b B q,adQ m q b l B→K ⟨.tup [.sl b 0 l.length l.length false,.val (.int .i64 0)],q,none⟩):mU ayU d f args m K:=by
 refine wU h y ?_ ?_
 ·simp only [yZ,fA.apart,hY,iA,aAx,aBk,List.all_append,List.all_cons,List.all_nil,Bool.and_true,ao9];rw [aAu];intro x o;obtain ⟨p,_,rfl⟩:=azp.1 o;exact adH _
 ·have z:bK ayU 69 = .var:=by kernel_rfl
  obtain ⟨k,w,A,t⟩:=apb l m;have v:(List.range' 0 l.length).map (m.next+·)=List.range' m.next l.length:=by rw [List.map_add_range'];rfl
  have e:(List.range' m.next l.length).length=l.length:=List.length_range';have:=C (m.next+l.length) (List.range' m.next l.length) ((wM m l).push ⟨gV l (List.range' m.next l.length),69,.var,true⟩) ⟨by rw [cF,if_pos k.symm],⟨e,fun i p b hi r => ?_,List.nodup_range'⟩,fun c s => ?_,⟨by omega,by rw [cQ,k];omega⟩,⟨w,by rw [cQ,k];omega,fun j x o u=>by rw [cF,if_neg (by omega),A j u];exact o⟩⟩
  ·simp only [yZ,eB,apc,gN,z,reduceCtorEq,if_false,apa,v];simpa [shift,gT] using this
  ·have n:=(ay8.1 hi).1;rw [List.getElem?_range' n,Nat.one_mul] at r;cases r;exact ⟨g p (az8 hi),by rw [cF,if_neg (by omega)];exact t i p hi⟩
  ·rw [List.mem_range'_1] at s;exact ⟨s.1,by rw [cQ,k];omega,by omega⟩
def oB (k r c w:Int) (ps:List aO) (num kd a ver:Int):Int:=if pG k r c w ps=0 then (if num < 0∨w≤num∨a < 0∨1073741824 < a then 2 else wD kd ver) else pG k r c w ps
def kO (k r c w:Int) (ps:List aO) (kd a:Int):Option (List Int):=if 0 < a then dZ k r c w ps kd a else none
def acA (k r c w:Int) (v:AV) (ps:List aO) (num kd a:Int):List AV:=[aB k,aB r,aB c,aB w,v,aB num,jZ (kO k r c w ps kd a),aW]
theorem ape {k r c w:Int} {ps:List aO} (h:pG k r c w ps=0):bG k r c w=true∧dE k r c ps=true:=by
 unfold pG at h;split at h
 ·rename_i b;split at h
  ·rename_i a;exact ⟨b,a⟩
  ·simp at h
 ·simp at h
def sA:Nat→Bool:=fun d=>d != 53
theorem apf (k r c w num kd b ver:Int) (v:AV) (ps:List aO) (cells:List AV) (g:dG v ps cells) (m:aF):dV ayU 159 [aC k r c w,v,aB num,.val (.int .u8 kd),aB b,aB ver] m fun z m'=>z=(if oB k r c w ps num kd b ver=0 then .tup [.ptr m.next 0,aB 0] else .tup [.val (.pointer none),aB (oB k r c w ps num kd b ver)])∧m'=(if oB k r c w ps num kd b ver=0 then m.push ⟨acA k r c w v ps num kd b,195,.var,true⟩ else m):=by
 have j:=aoB k r c w v ps cells g;have o:=aoC kd ver;have a:=fun s t=>ais k r c w kd b v ps cells g s t
 have D:=g.rd.plain;have C:=bR g.rd;have y:=uT g.rd;have x:=uS g.rd;have f:=fun h=>ape (k:=k) (r:=r) (c:=c) (w:=w) (ps:=ps) h
 unfold oB;replace a:=aA.mk a;replace f:=aA.mk f;refine bV Tryz.func159 sA (h:=?_);unfold Tryz.f159;simp only [↓pre,zad,xA,sA,simprocAttr,aC,bne]
 (first | refine aI (j) (by first | rfl | simp only [aE, *]) ?_ | refine aH (j) (by first | rfl | simp only [aC,aE, *]) (by intro k;first | rfl | simp only [ *,zaa]) ?_);simp only [↓pre,zad,sA,simprocAttr,bne]
 by_cases e:pG k r c w ps=0
 ·by_cases n:num < 0
  ·simp only [↓pre,zad,sA,simprocAttr,bne,e,n,true_or]
  ·by_cases p:w≤num
   ·simp only [↓pre,zad,xA,sA,simprocAttr,bne,e,n,p,true_or,or_true]
   ·by_cases u:b < 0
    ·simp only [↓pre,zad,xA,sA,simprocAttr,bne,e,n,p,u,true_or,or_true]
    ·by_cases A:1073741824 < b
     ·simp only [↓pre,zad,xA,sA,simprocAttr,bne,e,n,p,u,A,or_true]
     ·simp only [↓pre,zad,xA,sA,simprocAttr,bne,e,n,p,u,A,or_self]
      (first | refine aI (o) (by first | rfl | simp only [aC,aE, *]) ?_ | refine aH (o) (by first | rfl | simp only [aC,aE, *]) (by intro k;first | rfl | simp only [ *,zaa]) ?_);simp only [↓pre,zad,sA,simprocAttr,bne]
      by_cases q:wD kd ver=0
      ·by_cases i:0 < b
       ·obtain ⟨s,t⟩:=f.out e;have a:=a.out s t;have d:kO k r c w ps kd b=dZ k r c w ps kd b:=by unfold kO;rw [if_pos i]
        unfold acA;rw [d];cases B:dZ k r c w ps kd b with
        | none =>
         rw [B] at a;unfold jZ aW at a ⊢;simp only [↓pre,zad,xA,sA,simprocAttr,bne,↓y,↓x,q,i]
         (first | refine aI (a) (by first | rfl | simp only [aE, *]) ?_ | refine aH (a) (by first | rfl | simp only [aC,aE, *]) (by intro k;first | rfl | simp only [ *,zaa]) ?_);simp only [↓pre,za,xA,sA,simprocAttr,bne,aS]
         exact afz rfl
        | some l =>
         rw [B] at a;unfold jZ at a ⊢;simp only [↓pre,zad,xA,sA,simprocAttr,bne,↓y,↓x,q,i]
         (first | refine aI (a) (by first | rfl | simp only [aE, *]) ?_ | refine aH (a) (by first | rfl | simp only [aC,aE, *]) (by intro k;first | rfl | simp only [ *,zaa]) ?_);simp only [↓pre,za,xA,sA,simprocAttr,bne,aS]
         exact afz rfl
       ·have d:kO k r c w ps kd b=none:=by unfold kO;rw [if_neg i]
        simp only [↓pre,zad,xA,sA,simprocAttr,bne,↓y,↓x,q,i];unfold acA;rw [d];rfl
      ·simp only [↓pre,zad,simprocAttr,q]
 ·simp only [↓pre,zad,simprocAttr,e]
def rC (l:List Bool):List AV:=l.map aZ
theorem awr (l:List Bool):(rC l).length=l.length:=List.length_map _
theorem aws (m:aF) (i N a b:Nat) (s:fH) (hs:s.Rd) (l:List Bool) (hi:i < N) (p:l.length=N) (j:m.at_ a=some ⟨rC l,4,.flat,true⟩) (g:m.at_ b=some ⟨[.sl a 0 N N true],25,.var,true⟩):dV ayU 162 [aB (i:Nat),.agg s.cells,.ptr b 0] m fun d m'=>d = .tup []∧m'=m.put a (some ⟨rC (l.set i true),4,.flat,true⟩):=by
 obtain ⟨⟨u,w,f⟩,⟨v,q,e⟩⟩:=hs;have n:=bW f;have o:=bW e;have t:=bR f;have r:=bR e;have k:i+1≤(rC l).length:=by rw [awr];omega
 have c:List.take i (rC l)++[AV.val (Value.bool true)]++List.drop (i+1) (rC l)=rC (l.set i true):=by
  rw [List.set_eq_take_append_cons_drop,if_pos (by omega)];unfold rC;simp [List.map_take,List.map_drop,aZ]
 obtain ⟨kd,ix,ce,st,vv,dv⟩:=s;simp only [fH.cells] at *
 refine bV Tryz.func162 aD (h:=?_);unfold Tryz.f162;simp only [↓pre,zae,asP,bH,simprocAttr,aS,aBW,n,o,j,g,hi,k];rw [c]
theorem awt {l:List Bool} {i:Nat} {b:Bool} (h:l[i]? = some b):(rC l)[i]? = some (.val (.bool b)):=by
 unfold rC;rw [azo,h];rfl
theorem awu (m:aF) {n:Nat} (g:n≤65536):nK ayU m 25 n n=some ⟨.sl m.next 0 n n true,m.push ⟨rC (aBr n false),4,.flat,true⟩,none⟩:=by
 have c:bO ayU 25=some 4:=by kernel_rfl
 have a:bX ayU 4=some 1:=by kernel_rfl
 have e:jN ayU 4=some 1:=by kernel_rfl
 have b:bK ayU 4 = .flat:=by kernel_rfl
 have d:=acs a (x := .bool false) (by kernel_rfl) n;have f:rC (aBr n false)=(aAp n).map fun _=>AV.val (.bool false):=by
  unfold rC;rw [List.map_replicate,List.map_const',List.length_range];rfl
 rw [f];simp only [nK,c,a,e,b,d,bI,aAk,azG];rw [if_pos (by omega)];rw [List.take_of_length_le (by simp)]
def tN (T:List (List UInt8)) (n:Nat):List Bool:=(aAp T.length).map fun j=>decide (j < n) && decide ((T.getD j []).length≠0)
theorem adR (T:List (List UInt8)) (n:Nat):(tN T n).length=T.length:=by simp [tN]
theorem aiN {T:List (List UInt8)} {n j:Nat} (h:j < T.length):(tN T n)[j]? = some (decide (j < n) && decide ((T.getD j []).length≠0)):=by
 unfold tN;rw [azo,aBS h];rfl
theorem awv (T:List (List UInt8)):tN T 0=aBr T.length false:=by
 refine List.eq_replicate_iff.2 ⟨adR T 0,fun b a => ?_⟩;unfold tN at a;obtain ⟨j,_,rfl⟩:=azp.1 a;simp
theorem aww {T:List (List UInt8)} {i:Nat} (hi:i < T.length) (h:(T.getD i []).length≠0):(tN T i).set i true=tN T (i+1):=by
 refine aAi fun j => ?_
 rw [aAn];by_cases a:j < T.length
 ·rw [aiN a,aiN a];by_cases e:i=j
  ·subst e;rw [if_pos rfl,if_pos (by rw [adR];exact hi)];simp only [h,Nat.lt_add_one,decide_true,aAx,ne_eq,not_false_eq_true]
  ·rw [if_neg e,show decide (j < i+1)=decide (j < i) from decide_eq_decide.2 (by omega)]
 ·rw [if_neg (by omega),ay6 (by rw [adR];omega),ay6 (by rw [adR];omega)]
theorem awx {T:List (List UInt8)} {i:Nat} (h:(T.getD i []).length=0):tN T i=tN T (i+1):=by
 unfold tN;refine List.map_congr_left fun j _ => ?_
 by_cases e:i=j
 ·subst e;simp only [h,ne_eq,not_true_eq_false,decide_false,Bool.and_false]
 ·rw [show decide (j < i+1)=decide (j < i) from decide_eq_decide.2 (by omega)]
def mF (k r c w:Int) (ps:List aO) (kd ver:Int) (i:Nat):jK:=⟨kd,i,((dZ k r c w ps kd ver).getD []).getD i 0,ver,(dZ k r c w ps kd ver).getD [],tab c.toNat (iZ k r c w ps kd ver i)⟩
def oC (k r c w:Int) (ps:List aO) (num kd a ver:Int) (n:Nat):List cW:=(aAp n).flatMap fun i=>if ((eR k r c w ps kd ver).getD i []).length=0 then [gS k r c w ps num (kO k r c w ps kd a) (mF k r c w ps kd ver i)] else []
theorem aiO (k r c w:Int) (ps:List aO) (num kd a ver:Int) (n:Nat):oC k r c w ps num kd a ver (n+1)=oC k r c w ps num kd a ver n++(if ((eR k r c w ps kd ver).getD n []).length=0 then [gS k r c w ps num (kO k r c w ps kd a) (mF k r c w ps kd ver n)] else []):=by
 unfold oC;rw [aAW,List.flatMap_append];simp
theorem afY (k r c w:Int) (ps:List aO) (num kd a ver:Int):∀ n,(oC k r c w ps num kd a ver n).length≤n
 | 0=>by simp [oC]
 | n+1=>by
  rw [aiO,aA2];have:=afY k r c w ps num kd a ver n;split <;> simp <;> omega
theorem awy {k r c w:Int} {ps:List aO} {kd ver:Int} {l:List Int} (h:dZ k r c w ps kd ver=some l):iX k r c w l=0∧ver=jR l:=by
 obtain ⟨i,hi,d⟩:=adI _ _ h;obtain ⟨e,bs,_,a,rfl⟩:=afK d;refine ⟨e, ?_⟩;unfold iT at a;simp only [aAq,decide_eq_true_eq] at a;obtain ⟨b,j,g,f⟩:=a;have:=(aav b).st;rw [←this,←f];unfold dW;rw [if_pos b];rfl
theorem aiP {k r c w:Int} {ps:List aO} {kd ver:Int} {l:List Int} (b:bG k r c w=true) (f:kd=1∨kd=2) (h:dZ k r c w ps kd ver=some l) {i:Nat} (hi:(i:Int) < k+r):wE k r c w (mF k r c w ps kd ver i):=by
 obtain ⟨a,e⟩:=awy h;have g:=(xK a).1;have d:=fG b;unfold mF;rw [h];refine ⟨a,e,by simp only;omega,by simp only [aAE];omega,f, ?_, ?_⟩
 ·simp only [aAE,Int.toNat_natCast];rw [azs,azm (by omega)];rfl
 ·simp only [pA];omega
theorem apg {k r c w:Int} {ps:List aO} {kd ver:Int} (a:bG k r c w=true) (h:¬ jF k r c w ps kd ver < k.toNat):∃ l,dZ k r c w ps kd ver=some l:=by
 cases b:dZ k r c w ps kd ver with
 | some l=>exact ⟨l,rfl⟩
 | none =>
  have d:=fG a;unfold jF at h;rw [aiw b] at h;simp at h;omega
def acB (k r c w:Int) (ps:List aO) (num kd a ver:Int):Int:=if oB k r c w ps num kd a ver=0 then (if jF k r c w ps kd ver < k.toNat then 5 else 0) else oB k r c w ps num kd a ver
def aiQ (k r c w:Int) (ps:List aO) (num kd a ver:Int):AV:=if acB k r c w ps num kd a ver=0 then .tup [bE (oC k r c w ps num kd a ver (k+r).toNat).length (eH (oC k r c w ps num kd a ver (k+r).toNat)),aB 0] else .tup [aW,aB (acB k r c w ps num kd a ver)]
theorem aph (l:List cW):∀ c∈eH l,kL c:=by
 intro c a;obtain ⟨p,_,h⟩:=List.mem_flatMap.1 a;unfold cW.cells at h;simp only [az7,aBY,or_false] at h;rcases h with rfl | rfl | rfl | rfl
 ·exact dK _
 ·exact dK _
 ·exact dK _
 ·exact xI (eQ _ _)
theorem awz {kd ver:Int} (h:wD kd ver=0):(kd=1∨kd=2)∧eL ver=true:=by
 unfold wD at h;split at h
 ·rename_i a;exact a
 ·simp at h
theorem aiR {k r c w:Int} {ps:List aO} {num kd e ver:Int} (h:oB k r c w ps num kd e ver=0):bG k r c w=true∧dE k r c ps=true∧0≤num∧num < w∧0≤e∧e≤1073741824∧(kd=1∨kd=2)∧eL ver=true:=by
 unfold oB at h;split at h
 ·rename_i f;split at h
  ·simp at h
  ·rename_i g;obtain ⟨a,b⟩:=ape f;obtain ⟨c,d⟩:=awz h;exact ⟨a,b,by omega,by omega,by omega,by omega,c,d⟩
 ·contradiction
theorem api {k r c w:Int} {ps:List aO} {kd a:Int} {l:List Int} (h:kO k r c w ps kd a=some l):(l.length:Int)=k+r∧∀ v∈l,1≤v∧v≤1073741824:=by
 unfold kO at h;split at h
 ·exact aaw h
 ·cases h
theorem apj (k r c w num kd a:Int) (v:AV) (ps:List aO) (m:aF) (d:m.at_ 0=some ⟨acA k r c w v ps num kd a,195,.var,true⟩) (e:0 < m.next):yY m m 0 k r c w v num (jZ (kO k r c w ps kd a)) [] :=
 ⟨⟨aW,[],d,gK,wX m,⟨⟨rfl,fun i p b h=>absurd h (by simp),List.nodup_nil⟩,fun b h=>absurd h (by simp)⟩⟩,e,aza _,rfl,fun j x h _ _=>h⟩
def pM:Nat→Bool:=fun d=>d != 48 && d != 17
theorem awA (k r c w num kd b ver:Int) (v:AV) (ps:List aO) (cells:List AV) (hv:dG v ps cells):aQ ayU 90 [aC k r c w,v,aB num,.val (.int .u8 kd),aB b,aB ver] ⟨aiQ k r c w ps num kd b ver,[]⟩:=by
 refine gA ?_;have hp:=hv.rd.plain;have o:=fun m=>apf k r c w num kd b ver v ps cells hv m
 have ov:=bR hv.rd;have fv:=bW hv.rd;unfold aiQ acB;by_cases hB:oB k r c w ps num kd b ver=0
 ·simp only [hB,if_true] at o ⊢;obtain ⟨hm,hr,e6,e8,e7,e2,b0,e0⟩:=aiR hB;have f:=aoI k r c w kd ver v ps cells hv hm hr b0;unfold wF at f;replace hB:=aA.mk hB;by_cases D:jF k r c w ps kd ver < k.toNat
  ·rw [if_pos D] at f;simp only [D,if_true];rw [if_neg (by decide)];have hf:=fun m=>pE (dK (.slice none 0 0)) (dK (.int .i64 5)) 1 m
   unfold aW at f;replace hf:=aA.mk hf;refine bV Tryz.func90 pM (h:=?_);unfold Tryz.f90;simp only [↓pre,zad,vO,pM,simprocAttr,aC,bne,aBW];refine nR (o _) ?_;simp only [↓pre,zad,vO,pM,aX,simprocAttr,bne,aBW]
   (first | refine aI (f) (by first | rfl | simp only [aE, *]) ?_ | refine aH (f) (by first | rfl | simp only [aC,aE, *]) (by intro k;first | rfl | simp only [ *,zaa]) ?_);simp only [↓pre,zaf,pM,simprocAttr,bne,aBW]
   exact ⟨1,hf.out _⟩
  ·rw [if_neg D] at f;simp only [D,if_false,if_true];obtain ⟨l,hT⟩:=apg hm D;obtain ⟨e4,c5⟩:=aaw hT;obtain ⟨hl,d1⟩:=qR hr;have Z:=fG hm;have c2:=kW.1 hm;obtain ⟨N,hN⟩:∃ N:Nat,k+r=(N:Int):=⟨(k+r).toNat,by omega⟩
   have d4:(k+r).toNat=N:=by omega
   have a4:ps.length=N:=by omega
   have e1:l.length=N:=by omega
   have t:=ais k r c w kd ver v ps cells hv hm hr;rw [hT] at t;have u:=fun m0 g c7 nN h0 a7 d6 d2=>aoE k r c w kd ver v ps cells hv hm hr b0 m0 g c7 nN h0 a7 d6 d2
   have e9:=adJ k r c w ps kd ver;have O:=fun i (hi:i < N) dv y hd m0 m a ls hls hw=>ao3 k r c w num v ps cells hv hm hr (kO k r c w ps kd b) (fun l h=>api h) (mF k r c w ps kd ver i) (aiP hm b0 hT (by omega)) (.tree l.length l.length (bJ l) false) dv [] y ⟨.inr (.inr ⟨_,false,by rw [aBl];unfold mF;rw [hT];rfl,by unfold mF;rw [hT];exact aza _⟩)⟩ hd m0 m a ls hls hw
   have E:∀ (l:List Int) (i:Nat) (p:aO) (s:fH),dZ k r c w ps kd ver=some l→ps[i]? = some p→nE k r c w p (i:Nat) kd (l.getD i 0)=some s→((eR k r c w ps kd ver).getD i []).length≠0:=fun l i p s I J U=>by
    obtain ⟨g1,g2⟩:=afL U;rw [acv I J];omega
   have H:∀ (l:List Int) (i:Nat) (p:aO),dZ k r c w ps kd ver=some l→ps[i]? = some p→nE k r c w p (i:Nat) kd (l.getD i 0)=none→((eR k r c w ps kd ver).getD i []).length=0:=fun l i p I J U=>by
    rw [acv I J,aiu U];rfl
   have d:=aiO k r c w ps num kd b ver;have P:=afY k r c w ps num kd b ver;have b4:oC k r c w ps num kd b ver 0=[]:=rfl;have V:=fun m I J=>apj k r c w num kd b v ps m I J
   obtain ⟨C,hC⟩:∃ C:Nat,c=(C:Int):=⟨c.toNat,by omega⟩
   have c3:c.toNat=C:=by omega
   have b2:∀ i,mF k r c w ps kd ver i=⟨kd,i,l.getD i 0,ver,l,tab C (iZ k r c w ps kd ver i)⟩:=fun i=>by unfold mF;rw [hT,c3];rfl
   rw [c3] at f;rw [d4] at f ⊢;have K:=fun i (h:i < N)=>aat (L:=C) (F:=iZ k r c w ps kd ver) (a:=0) h
   have G:=eQ N (dJ C (iZ k r c w ps kd ver) 0 N);have d9:=fun m=>awu m (n:=N) (by omega)
   have d5:=dB G;generalize oC k r c w ps num kd b ver=MN at *
   generalize mF k r c w ps kd ver=MS at *
   generalize kO k r c w ps kd b=KO at *
   generalize iZ k r c w ps kd ver=W at *
   generalize eR k r c w ps kd ver=T at *
   generalize acA k r c w v ps num kd b=BW at *
   have hn:T.length=N:=by omega
   unfold jZ at t;replace Z:=aA.mk Z;replace c2:=aA.mk c2;replace V:=aA.mk V;replace b2:=aA.mk b2;replace d:=aA.mk d;replace P:=aA.mk P;replace E:=aA.mk E;replace H:=aA.mk H;replace O:=aA.mk O;replace u:=aA.mk u;replace d1:=aA.mk d1;replace c5:=aA.mk c5;replace K:=aA.mk K;replace b4:=aA.mk b4;replace D:=aA.mk D;refine bV Tryz.func90 pM (h:=?_);unfold Tryz.f90;simp only [↓pre,zad,vO,pM,simprocAttr,aC,bne,aBW];refine nR (o _) ?_;simp only [↓pre,zad,vO,pM,aX,simprocAttr,bne,aBW]
   (first | refine aI (f) (by first | rfl | simp only [aE, *]) ?_ | refine aH (f) (by first | rfl | simp only [aC,aE, *]) (by intro k;first | rfl | simp only [ *,zaa]) ?_);simp only [↓pre,zaf,vO,pM,bD,simprocAttr,bne,aS,aBW,List.size_toArray,hv.rd.len',a4,d9]
   generalize S:aF.put (aF.push _ _) _ _=m3;have c9:m3.at_ 0=some ⟨BW,195,.var,true⟩:=by rw [←S];simp [cI,cF,cQ,aX]
   have d0:m3.at_ 1=some ⟨rC (tN T 0),4,.flat,true⟩:=by rw [←S,awv,hn];simp [cI,cF,cQ,aX]
   have c4:m3.at_ 2=some ⟨[.sl 1 0 N N true],25,.var,true⟩:=by rw [←S];simp [cI]
   have c6:2 < m3.next:=by rw [←S];simp [fC,cQ,aX]
   refine jD (u.out m3 162 [.ptr 2 0] (fun i m=>m.at_ 0=some ⟨BW,195,.var,true⟩∧m.at_ 1=some ⟨rC (tN T i),4,.flat,true⟩∧m.at_ 2=some ⟨[.sl 1 0 N N true],25,.var,true⟩∧2 < m.next) ⟨c9,d0,c4,c6⟩ ?_ ?_ ?_) ?_
   ·rintro i m m' ⟨I,J,U,h4⟩ a0;exact ⟨a0.at_ 0 _ I (by omega),a0.at_ 1 _ J (by omega),a0.at_ 2 _ U (by omega),Nat.lt_of_lt_of_le h4 a0.next⟩
   ·rintro l i p m s Q hi a8 hF ⟨I,J,U,h4⟩;obtain ⟨d8,_⟩:=ait hF;have d3:=E.out l i p s Q a8 hF;refine mW (aws m i N 1 2 s d8 _ (by omega) (by rw [adR];omega) J U) ?_;rintro c8 m' ⟨rfl,rfl⟩;refine ⟨rfl, ?_, ?_, ?_,h4⟩
    ·rw [cI,if_neg (by decide)];exact I
    ·rw [cI,if_pos rfl,aww (by omega) d3]
    ·rw [cI,if_neg (by decide)];exact U
   ·rintro l i p m Q hi a8 hF ⟨I,J,U,h4⟩;have hd:=H.out l i p Q a8 hF;rw [←awx hd];exact ⟨I,J,U,h4⟩
   rintro c8 m4 ⟨rfl,a5⟩;have b1:(dZ k r c w ps kd ver).isSome=true:=by rw [hT];rfl
   rw [if_pos b1,a4] at a5;obtain ⟨h0,I,J,h4⟩:=a5;have b9:=V.out m4 h0 (by omega);have a6:aT (.tree l.length l.length (bJ l) false) l.length (bJ l++[]):=⟨.inr (.inr ⟨_,false,by rw [aBl],aza _⟩)⟩
   replace hT:=aA.mk hT;replace b9:=aA.mk b9;clear S c9 d0 c4 c6 u E H h0 V o;simp only [↓pre,zad,vO,pM,simprocAttr,bne,aBW]
   (first | refine aI (t) (by first | rfl | simp only [aE, *]) ?_ | refine aH (t) (by first | rfl | simp only [aC,aE, *]) (by intro k;first | rfl | simp only [ *,zaa]) ?_);simp only [↓pre,za,vO,pM,simprocAttr,bne,aBW,G.len',d5]
   rw [bS];refine bU (fun q e m=>∃ i,q+i=N∧e 3 = .val (.int .u8 kd)∧e 5=aB ver∧e 14 = .ptr 0 0∧e 17 = .ptr 2 0∧e 18 = .tree l.length l.length (bJ l) false∧e 60=bE N (dJ C W 0 N)∧e 61=aB (N:Nat)∧e 62=aB (i:Nat)∧aA (yY m4 m 0 k r c w v num (jZ KO) (MN i))) N ⟨0,by omega,rfl,rfl,rfl,rfl,rfl,rfl,rfl,rfl,⟨by rw [b4.out];exact b9.out⟩⟩ ?_;rintro q e m ⟨i,hq,e3,e5,a3,b7,c0,b3,a2,X,hJ⟩;replace hq:=aA.mk hq;by_cases B:i < N
   ·have A:((i:Nat):Int) < ((N:Nat):Int):=by omega
    have wi:=cB (n:=i) (by have:=Z.out;omega);have b8:=K.out i B;rw [Nat.zero_add] at b8;have Y:=aiN (T:=T) (n:=N) (j:=i) (by omega);rw [decide_eq_true B,aBk] at Y;have a1:=awt Y;have k1:=hJ.out.at_ 1 _ I (by omega) (by decide);have k2:=hJ.out.at_ 2 _ J (by omega) (by decide);replace Y:=aA.mk Y;have d:=d.out i;by_cases h9:(T.getD i []).length=0
    ·rw [if_pos h9] at d;rw [decide_eq_false (by omega)] at a1;replace d:=aA.mk d;obtain ⟨z,hz⟩:∃ z,l[i]? = some z:=⟨_,azm (by omega)⟩
     have c1:=nU (x:=[]) hz;have d7:i < l.length:=by omega
     have a9:l.getD i 0=z:=by rw [azs,hz];rfl
     have M:=b2.out i;rw [a9] at M;have b6:=O.out i B (.tree C C (aR C (W i)) true) [] (by rw [M];exact ⟨.inr (.inr ⟨C,true,by rw [aBl];simp only [pA];rfl,by simp only [pA];exact aza _⟩)⟩) m4 m 0 (MN i) (by have:=P.out i;have:=Z.out;omega) hJ.out;rw [←d.out,M] at b6;simp only [aB] at b6;rw [aBl] at c1 a6;replace hz:=aA.mk hz;replace a9:=aA.mk a9;replace M:=aA.mk M;simp only [↓pre,zaj,vO,pM,simprocAttr,bne,aBW,e3,e5,a3,b7,c0,b3,a2,X,A,B,b8,G.addr',k1,k2,a1,a6.addr',d7,c1];refine jD b6 ?_;rintro c8 m' ⟨rfl,b5⟩;replace b5:=aA.mk b5;simp only [↓pre,zad,pM,simprocAttr,bne,aBW,e3,e5,a3,b7,c0,b3,a2,X,wi];exact ⟨q - 1,by have:=hq.out;omega,i+1,by have:=hq.out;omega,rfl,b5⟩
    ·rw [if_neg h9,aBl] at d;rw [decide_eq_true h9] at a1;replace d:=aA.mk d;simp only [↓pre,zaj,vO,pM,simprocAttr,bne,aBW,e3,e5,a3,b7,c0,b3,a2,X,A,B,b8,G.addr',k1,k2,a1,wi];refine ⟨q - 1,by have:=hq.out;omega,i+1,by have:=hq.out;omega,rfl,⟨?_⟩⟩;rw [d.out];exact hJ.out
   ·have A:¬ ((i:Nat):Int) < ((N:Nat):Int):=by omega
    have hi:i=N:=by have:=hq.out;omega
    subst hi;obtain ⟨v',BL,g1,g2,g3,g4⟩:=hJ.out.ex;have R:=fun k=>aiL g2 g4.toxN k
    replace g4:=aA.mk g4;replace g2:=aA.mk g2;replace g3:=aA.mk g3;replace R:=aA.mk R;simp only [↓pre,zad,vO,pM,aBm,simprocAttr,bne,aBW,a3,a2,X,A,g1];exact ⟨1,by rw [kH,eC,R.out,aAk,eC,gU,jI];rfl⟩
 ·simp only [hB,if_false] at o ⊢;generalize oB k r c w ps num kd b ver=e at *
  have hf:=fun m=>pE (dK (.slice none 0 0)) (dK (.int .i64 e)) 1 m
  replace hf:=aA.mk hf;refine bV Tryz.func90 pM (h:=?_);unfold Tryz.f90;simp only [↓pre,zad,vO,pM,simprocAttr,aC,bne,aBW];refine nR (o _) ?_;simp only [↓pre,zad,pM,simprocAttr,bne,aBW,hB];exact ⟨1,hf.out _⟩
def mR (k r c w:Int) (ps:List aO) (num:Int):Int:=if cS k r c w ps=0 then (if num < 0∨w≤num then 2 else if cY k r c w ps=0 then 5 else acB k r c w ps num 2 (mQ k r c w ps) (cY k r c w ps)) else cS k r c w ps
def iV (k r c w:Int) (ps:List aO) (num:Int):List cW:=oC k r c w ps num 2 (mQ k r c w ps) (cY k r c w ps) (k+r).toNat
def zA (k r c w:Int) (ps:List aO) (num:Int):AV:=if mR k r c w ps num=0 then .tup [bE (iV k r c w ps num).length (eH (iV k r c w ps num)),aB 0] else .tup [aW,aB (mR k r c w ps num)]
def lR:Nat→Bool:=fun d=>d != 8
theorem awB (k r c w num:Int) (v:AV) (ps:List aO) (cells:List AV) (j:dG v ps cells):aQ ayU 16 [aC k r c w,v,aB num] ⟨zA k r c w ps num,[]⟩:=by
 refine gA ?_;have f:=aiH k r c w v ps cells j;have p:=awi k r c w v ps cells j;have i:=uS j.rd;have g:=uT j.rd;have o:=bW j.rd;have C:=bR j.rd;have D:=j.rd.plain;have b:mR k r c w ps num≠0→∀ m,fzT 0 m (.tup [.val (.slice none 0 0),.val (.int .i64 (mR k r c w ps num))])=some (zA k r c w ps num):=fun h m=>by
  unfold zA;rw [if_neg h];exact pE (dK _) (dK _) 0 m
 by_cases l:cS k r c w ps=0
 ·have d:mR k r c w ps num=if num < 0∨w≤num then 2 else if cY k r c w ps=0 then 5 else acB k r c w ps num 2 (mQ k r c w ps) (cY k r c w ps):=by unfold mR;rw [if_pos l]
  rw [if_pos l,l] at f p;have a:=awA k r c w num 2 (mQ k r c w ps) (cY k r c w ps) v ps cells j;unfold aiQ at a;have s:iV k r c w ps num=oC k r c w ps num 2 (mQ k r c w ps) (cY k r c w ps) (k+r).toNat:=rfl;rw [←s] at a;clear s;have e:(num < 0∨w≤num)→∀ m,fzT 0 m (.tup [.val (.slice none 0 0),.val (.int .i64 2)])=some (zA k r c w ps num):=fun h=>by
   rw [if_pos h] at d;have:=b (by rw [d];decide);rw [d] at this;exact this
  replace e:=aA.mk e;by_cases q:num < 0
  ·have z:=aA.mk (e.out (.inl q));refine bV Tryz.func16 lR (h:=?_);unfold Tryz.f16;simp only [↓pre,zaf,uF,lR,bD,simprocAttr,aC,bne,aS,o,↓i,↓g]
   (first | refine aI (f) (by first | rfl | simp only [aE, *]) ?_ | refine aH (f) (by first | rfl | simp only [aC,aE, *]) (by intro k;first | rfl | simp only [ *,zaa]) ?_);simp only [↓pre,zaf,lR,simprocAttr,bne,q]
   exact ⟨0,z.out _⟩
  ·by_cases t:w≤num
   ·have z:=aA.mk (e.out (.inr t));refine bV Tryz.func16 lR (h:=?_);unfold Tryz.f16;simp only [↓pre,zaf,uF,lR,bD,simprocAttr,aC,bne,aS,o,↓i,↓g]
    (first | refine aI (f) (by first | rfl | simp only [aE, *]) ?_ | refine aH (f) (by first | rfl | simp only [aC,aE, *]) (by intro k;first | rfl | simp only [ *,zaa]) ?_);simp only [↓pre,zaf,uF,lR,aBm,simprocAttr,bne,q,t]
    exact ⟨0,z.out _⟩
   ·rw [if_neg (by omega)] at d;generalize cY k r c w ps=W at *
    by_cases x:W=0
    ·subst x;rw [if_pos rfl] at d;have b:=b (by rw [d];decide);rw [d] at b;replace b:=aA.mk b;replace d:=aA.mk d;clear a;refine bV Tryz.func16 lR (h:=?_);unfold Tryz.f16;simp only [↓pre,zaf,uF,lR,bD,simprocAttr,aC,bne,aS,o,↓i,↓g]
     (first | refine aI (f) (by first | rfl | simp only [aE, *]) ?_ | refine aH (f) (by first | rfl | simp only [aC,aE, *]) (by intro k;first | rfl | simp only [ *,zaa]) ?_);simp only [↓pre,zaf,uF,lR,aBm,simprocAttr,bne,q,t]
     exact ⟨0,b.out _⟩
    ·rw [if_neg x] at d;rw [←d] at a;have n:(if mR k r c w ps num=0 then AV.tup [bE (iV k r c w ps num).length (eH (iV k r c w ps num)),aB 0] else .tup [aW,aB (mR k r c w ps num)])=zA k r c w ps num:=rfl;by_cases A:mR k r c w ps num=0
     ·rw [if_pos A] at a n;have u:=fun m=>pE (xI (eQ (iV k r c w ps num).length (eH (iV k r c w ps num)))) (dK (.int .i64 0)) 1 m
      have y:=dB (eQ (iV k r c w ps num).length (eH (iV k r c w ps num)));have B:=(eQ (iV k r c w ps num).length (eH (iV k r c w ps num))).plain;rw [←n];generalize bE (iV k r c w ps num).length (eH (iV k r c w ps num))=E at *
      simp only [aB] at a u ⊢;replace u:=aA.mk u;replace d:=aA.mk d;clear b;refine bV Tryz.func16 lR (h:=?_);unfold Tryz.f16;simp only [↓pre,zaf,uF,lR,bD,simprocAttr,aC,bne,aS,o,↓i,↓g]
      (first | refine aI (f) (by first | rfl | simp only [aE, *]) ?_ | refine aH (f) (by first | rfl | simp only [aC,aE, *]) (by intro k;first | rfl | simp only [ *,zaa]) ?_);simp only [↓pre,zaf,uF,lR,aBm,simprocAttr,bne,q,t,x];(first | refine aI (p) (by first | rfl | simp only [aE, *]) ?_ | refine aH (p) (by first | rfl | simp only [aC,aE, *]) (by intro k;first | rfl | simp only [ *,zaa]) ?_);simp only [↓pre,zaf,uF,lR,simprocAttr,bne];(first | refine aI (a) (by first | rfl | simp only [aE, *]) ?_ | refine aH (a) (by first | rfl | simp only [aC,aE, *]) (by intro k;first | rfl | simp only [ *,zaa]) ?_);simp only [↓pre,zaf,lR,simprocAttr,bne,y]
      exact ⟨1,u.out _⟩
     ·rw [if_neg A] at a n;have b:=b A;replace b:=aA.mk b;replace d:=aA.mk d;unfold aW at a;refine bV Tryz.func16 lR (h:=?_);unfold Tryz.f16;simp only [↓pre,zaf,uF,lR,bD,simprocAttr,aC,bne,aS,o,↓i,↓g]
      (first | refine aI (f) (by first | rfl | simp only [aE, *]) ?_ | refine aH (f) (by first | rfl | simp only [aC,aE, *]) (by intro k;first | rfl | simp only [ *,zaa]) ?_);simp only [↓pre,zaf,uF,lR,aBm,simprocAttr,bne,q,t,x];(first | refine aI (p) (by first | rfl | simp only [aE, *]) ?_ | refine aH (p) (by first | rfl | simp only [aC,aE, *]) (by intro k;first | rfl | simp only [ *,zaa]) ?_);simp only [↓pre,zaf,uF,lR,simprocAttr,bne];(first | refine aI (a) (by first | rfl | simp only [aE, *]) ?_ | refine aH (a) (by first | rfl | simp only [aC,aE, *]) (by intro k;first | rfl | simp only [ *,zaa]) ?_);simp only [↓pre,zaf,lR,simprocAttr,bne]
      exact ⟨0,b.out _⟩
 ·have d:mR k r c w ps num=cS k r c w ps:=by unfold mR;rw [if_neg l]
  rw [if_neg l] at f;have b:=b (by rw [d];exact l);rw [d] at b;replace b:=aA.mk b;clear p;refine bV Tryz.func16 lR (h:=?_);unfold Tryz.f16;simp only [↓pre,zaf,uF,lR,bD,simprocAttr,aC,bne,aS,o,↓i,↓g]
  (first | refine aI (f) (by first | rfl | simp only [aE, *]) ?_ | refine aH (f) (by first | rfl | simp only [aC,aE, *]) (by intro k;first | rfl | simp only [ *,zaa]) ?_);simp only [↓pre,zaf,lR,simprocAttr,bne,l]
  exact ⟨0,b.out _⟩
def awC (k r L:Nat) (C:List (List UInt8)):List (List UInt8):=(List.range' k r).map fun i=>tab L (gQ k (gI C) i)
theorem apk (k r c w:Int):aQ ayU 41 [aC k r c w] ⟨.tup [aB (if bG k r c w then k else 0),aB (if bG k r c w then 0 else 2)],[]⟩:=by
 have a:=aaj k r c w;cases b:bG k r c w
 ·rw [b] at a;simp only [if_neg (show ¬ (false=true) by decide)] at a ⊢;refine aV Tryz.func41 aD (h:=?_);unfold Tryz.f41;simp only [↓pre,zab,ahh,simprocAttr,aC]
  (first | refine aI (a) (by first | rfl | simp only [aC,aE, *]) ?_ | refine aH (a) (by first | rfl | simp only [aC,aE, *]) (by intro k;first | rfl | simp only [ *,zaa]) ?_);simp only [↓pre,zac,simprocAttr]
 ·rw [b] at a;simp only [if_true] at a ⊢;refine aV Tryz.func41 aD (h:=?_);unfold Tryz.f41;simp only [↓pre,zab,ahh,simprocAttr,aC]
  (first | refine aI (a) (by first | rfl | simp only [aC,aE, *]) ?_ | refine aH (a) (by first | rfl | simp only [aC,aE, *]) (by intro k;first | rfl | simp only [ *,zaa]) ?_);simp only [↓pre,zac,ahh,simprocAttr]
theorem awD:aQ ayU 15 [] ⟨aZ true,[]⟩:=by
 have a:=apk 2 1 16 8;rw [show bG 2 1 16 8=true by decide] at a;simp only [if_true] at a;refine aV Tryz.func15 aD (h:=?_);unfold Tryz.f15;simp only [↓pre,zac,asI,simprocAttr]
 (first | refine aI (a) (by first | rfl | simp only [aC,aE, *]) ?_ | refine aH (a) (by first | rfl | simp only [aC,aE, *]) (by intro k;first | rfl | simp only [ *,zaa]) ?_);simp only [↓pre,zac,simprocAttr]
theorem apl {P:Program} {a:Nat→Bool} {n id c:Nat} {b:Code} {K:bC→aF→Prop} {Q:Ex→bC→aF→Prop} {e:bC} {m:aF} (R:bC→aF→Prop) (d:∀ e m,R e m→K e m) (f:aaN (eP P a n b) (qP id (qP c (sW R Q))) e m):aaN (eP P a n b) (qP id (qP c (sW K Q))) e m :=
 amd (.loop b) _ _ e m (aeE (aeE (aeD d fun _ _ _ h=>h))) f
def wN (k r c w:Int) (bs:List UInt8) (i:Nat):Bool := !(dP k r c w bs && decide ((bN k r bs).kd=2)) || (bN k r bs).vec.all (fun v=>decide (v=(bN k r bs).ce) && decide ((bN k r bs).ix=(i:Nat)))
theorem acC {k r c w:Int} {bs:List UInt8} (h:dP k r c w bs=true):dW k r c w bs=(bN k r bs).sl:=by unfold dW;rw [if_pos h]
theorem awE {k r c w:Int} {bs:List UInt8} {i:Nat} (h:∀ v∈(bN k r bs).vec,v=(bN k r bs).ce∧(bN k r bs).ix=(i:Nat)):wN k r c w bs i=true:=by
 unfold wN;rw [Bool.or_eq_true];right;rw [aAu];intro v b;obtain ⟨a,d⟩:=h v b;rw [decide_eq_true a,decide_eq_true d];rfl
structure tO (cs:List AV) (ps:List aO):Prop where
 len:cs.length=ps.length*2
 at_:∀ i p,ps[i]? = some p→∃ a b xa xb,cs[i*2]? = some a∧cs[i*2+1]? = some b∧aT a p.1.length (aJ p.1++xa)∧aT b p.2.length (aJ p.2++xb)
theorem tO.row {cs:List AV} {ps:List aO} (h:tO cs ps):dG (bE ps.length cs) ps cs:=⟨eQ _ _,h.at_⟩
theorem tO.all {cs:List AV} {ps:List aO} (h:tO cs ps):∀ c∈cs,∃ n x,aT c n x:=by
 intro c m;obtain ⟨j,d⟩:=aBj m;have k:=(ay8.1 d).1;have q:=h.len;have hi:j / 2 < ps.length:=by omega
 obtain ⟨a,b,p,r,g,i,o,l⟩:=h.at_ (j / 2) _ (azm hi);have f:j=j / 2*2∨j=j / 2*2+1:=by omega
 rcases f with e | e
 ·rw [←e,d] at g;cases g;exact ⟨_,_,o⟩
 ·rw [←e,d] at i;cases i;exact ⟨_,_,l⟩
theorem tO.ids {cs:List AV} {ps:List aO} (h:tO cs ps):∀ c∈cs,kL c:=fun c a=>by
 obtain ⟨n,x,b⟩:=h.all c a;exact xI b
def wrA (cs:List AV) (p:cW):List AV:=cH cs (p.dr*2+p.sl) [bE p.bs.length (aJ p.bs)]
def wO (q:aO) (sl:Nat) (bs:List UInt8):aO:=if sl=0 then (bs,q.2) else (q.1,bs)
def xO (ps:List aO) (p:cW):List aO:=ps.set p.dr (wO (ps.getD p.dr ([],[])) p.sl p.bs)
def apm (cs:List AV) (L:List cW):List AV:=L.foldl wrA cs
def tP (ps:List aO) (L:List cW):List aO:=L.foldl xO ps
theorem aiS (ps:List aO) (p:cW):(xO ps p).length=ps.length:=by simp [xO]
theorem awF {cs:List AV} {p:cW} (h:p.dr*2+p.sl < cs.length):(wrA cs p).length=cs.length:=ajk cs _ _ h
theorem tO.put {cs:List AV} {ps:List aO} (h:tO cs ps) {p:cW} (t:p.dr < ps.length) (v:p.sl < 2):tO (wrA cs p) (xO ps p):=by
 have u:=h.len;have s:p.dr*2+p.sl+([bE p.bs.length (aJ p.bs)]:List AV).length≤cs.length:=by simp;omega
 have c:=ago cs (p.dr*2+p.sl) [bE p.bs.length (aJ p.bs)] s;have f:aT (bE p.bs.length (aJ p.bs)) p.bs.length (aJ p.bs++[]):=by rw [aBl];exact eQ _ _
 refine ⟨by rw [awF (by omega),aiS];exact u,fun i q d => ?_⟩;unfold xO at d;rw [aAn] at d;unfold wrA;by_cases e:p.dr=i
 ·subst e;rw [if_pos rfl,if_pos t] at d;cases d;have g:ps[p.dr]? = some ps[p.dr]:=azm t;obtain ⟨a,b,j,m,r,k,n,l⟩:=h.at_ _ _ g;have o:ps.getD p.dr ([],[])=ps[p.dr]:=by rw [azs,g];rfl
  rw [o];unfold wO;have hs:p.sl=0∨p.sl=1:=by omega
  rcases hs with hs | hs
  ·rw [if_pos hs,c,c,hs];exact ⟨_,b,[],m,by rw [if_pos (by simp only [zak];omega),show p.dr*2 - (p.dr*2+0)=0 by omega];rfl,by rw [if_neg (by simp only [zak];omega)];exact k,f,l⟩
  ·rw [if_neg (by omega),c,c,hs];exact ⟨a,_,j,[],by rw [if_neg (by simp only [zak];omega)];exact r,by rw [if_pos (by simp only [zak];omega),show p.dr*2+1 - (p.dr*2+1)=0 by omega];rfl,n,f⟩
 ·rw [if_neg e] at d;obtain ⟨a,b,j,m,r,k,n,l⟩:=h.at_ _ _ d;refine ⟨a,b,j,m, ?_, ?_,n,l⟩
  ·rw [c,if_neg (by simp only [zak];omega)];exact r
  ·rw [c,if_neg (by simp only [zak];omega)];exact k
theorem tO.puts {cs:List AV} {ps:List aO} (L:List cW) (h:tO cs ps) (b:∀ p∈L,p.dr < ps.length∧p.sl < 2):tO (apm cs L) (tP ps L):=by
 induction L generalizing cs ps with
 | nil=>exact h
 | cons p L d =>
  have a:=b p (by simp);show tO (apm (wrA cs p) L) (tP (xO ps p) L);exact d (h.put a.1 a.2) fun q c=>by rw [aiS];exact b q (by simp [c])
theorem apn:∀ (L:List cW) (i:Nat) (p:cW),L[i]? = some p→(eH L)[i*4]? = some (aB p.dr)∧(eH L)[i*4+1]? = some (aB p.row)∧(eH L)[i*4+2]? = some (aB p.sl)∧(eH L)[i*4+3]? = some (bE p.bs.length (aJ p.bs))
 | [],i,p,h=>by simp at h
 | q::L,0,p,h=>by simp at h;subst h;exact ⟨rfl,rfl,rfl,rfl⟩
 | q::L,i+1,p,h=>by
  have a:=apn L i p (by simpa using h);have e:eH (q::L)=aB q.dr::aB q.row::aB q.sl::bE q.bs.length (aJ q.bs)::eH L:=rfl;rw [e,show (i+1)*4=i*4+1+1+1+1 by omega];simpa using a
def awG (k r c w ver:Int) (p:aO) (i:Nat):List UInt8:=if eX k r c w p.1 (i:Nat) 2 ver=true then (bN k r p.1).data else []
def awH (k r c w ver:Int) (p:aO) (i:Nat):List UInt8:=if eX k r c w p.2 (i:Nat) 2 ver=true then (bN k r p.2).data else awG k r c w ver p i
def aiT (k r c w ver:Int) (ps:List aO):List (List UInt8):=ps.mapIdx fun i p=>awH k r c w ver p i
def awI (k r c w ver:Int) (ps:List aO):Bool:=(aiT k r c w ver ps).all (fun b=>decide (b.length≠0)) && decide (awC k.toNat r.toNat c.toNat (aiT k r c w ver ps)=(aiT k r c w ver ps).drop k.toNat)
theorem awJ {k r c w:Int} {bs:List UInt8} (d:bG k r c w=true) (h:dP k r c w bs=true):(dW k r c w bs).dv=jA (bN k r bs).data∧(((bN k r bs).data.length:Nat):Int)=c:=by
 have b:=(aav h).data;have a:=fG d;refine ⟨?_,b⟩;rw [air h];unfold jA;rw [if_neg (by omega)]
structure ayP (k r c w:Int) (ps:List aO) (wl:List Bool):Prop where
 puts:∀ p∈iV k r c w ps 0,p.dr < ps.length∧p.sl < 2
 step:∀ n,n≤(iV k r c w ps 0).length→jG k r c w (tP ps ((iV k r c w ps 0).take n))=0∧cY k r c w (tP ps ((iV k r c w ps 0).take n))=cY k r c w ps∧iU k r c w (tP ps ((iV k r c w ps 0).take n))=iU k r c w ps
 all:ang k r c w (cY k r c w ps) (tP ps (iV k r c w ps 0))=0∧at6 k r c w (cY k r c w ps) (tP ps (iV k r c w ps 0))=[]
 wiped:(auw wl ps.length:Int)≤r→awI k r c w (cY k r c w ps) (tP ps (iV k r c w ps 0))=true→jG k r c w (ahY wl (tP ps (iV k r c w ps 0)) ps.length)=0∧cY k r c w (ahY wl (tP ps (iV k r c w ps 0)) ps.length)=cY k r c w ps∧iU k r c w (ahY wl (tP ps (iV k r c w ps 0)) ps.length)=iU k r c w ps
theorem awK {k r c w:Int} {ps:List aO} (b:cS k r c w ps=0) (h:jG k r c w ps=0):cY k r c w ps≠0∧¬ jF k r c w ps 2 (cY k r c w ps) < k.toNat∧nF k r c w (iU k r c w ps)=0:=by
 unfold jG at h;rw [if_pos b] at h;split at h
 ·contradiction
 ·rename_i d;split at h
  ·contradiction
  ·rename_i a;exact ⟨d,a,h⟩
theorem awL {k r c w:Int} {ps:List aO} (d:cS k r c w ps=0) (h:jG k r c w ps=0):(dT (iU k r c w ps)).length≤1000:=by
 have b:=(awK d h).2.2;obtain ⟨a,_⟩:=uU d;have i:=aiI (ps:=ps) a;have j:=kJ a;have g:=kW.1 a;unfold nF at b;rw [if_pos a] at b;split at b
 ·split at b
  ·rename_i e;unfold tK at e;rw [aAq,decide_eq_true_eq] at e;have f:k.toNat*c.toNat≤768:=by
    have:((k.toNat*c.toNat:Nat):Int)=k*c:=by rw [Int.natCast_mul,aB4 (by omega),aB4 (by omega)]
    omega
   unfold dT;rw [afT];omega
  ·contradiction
 ·contradiction
theorem awM (n:Int) (c:0≤n) (d:n≤1073741824):((dF (bQ n 4):Nat):Int)=n:=by
 obtain ⟨m,rfl⟩:∃ m:Nat,n=(m:Int):=⟨n.toNat,by omega⟩
 have b:∀ j,(((m:Nat):Int) / 2 ^ j).toNat=m / 2 ^ j:=fun j=>by
  rw [show (2:Int) ^ j=((2 ^ j:Nat):Int) by simp,←Int.natCast_ediv,Int.toNat_natCast]
 have e:bQ (m:Int) 4=[azQ (m / 2 ^ 24),azQ (m / 2 ^ 16),azQ (m / 2 ^ 8),azQ (m / 2 ^ 0)]:=by
  simp only [bQ,b]
 rw [e];have a:∀ x:Nat,(azQ x).toNat=x % 256:=fun x=>by simp
 simp only [dF,List.foldl_cons,List.foldl_nil,a];omega
theorem aiU {a b:List UInt8} {n:Int} {o:Nat} (c:0≤n) (e:n≤1073741824) (d:a.length=o):gO (a++(bQ n 4++b)) o=n:=by
 unfold gO;rw [List.drop_left' d,List.take_left' (fX n 4)];exact awM n c e
theorem apo:∀ (l:List Int) (j:Nat),(fM l).drop (4*j)=fM (l.drop j)
 | l,0=>by simp
 | [],j+1=>by simp [fM]
 | a::l,j+1=>by
  have e:fM (a::l)=bQ a 4++fM l:=rfl;rw [e,show 4*(j+1)=(bQ a 4).length+4*j by rw [fX];omega,←aBe,List.drop_left' rfl,apo l j];rfl
theorem awN {a:List UInt8} {l:List Int} {d:List UInt8} (i:a.length=12) (m:∀ v∈l,0≤v∧v≤1073741824):jS (a++(fM l++d)) l.length=l:=by
 refine aAi fun j => ?_
 unfold jS;by_cases f:j < l.length
 ·rw [azo,aBS f,az6];obtain ⟨z,c⟩:∃ z,l[j]? = some z:=⟨_,azm f⟩
  have g:l.drop j=z::l.drop (j+1):=by
   rw [List.drop_eq_getElem_cons f];congr 1;rw [azm f] at c;injection c
  have b:((fM l).take (4*j)).length=4*j:=by rw [List.length_take,aay];omega
  have h:a++(fM l++d)=(a++(fM l).take (4*j))++(bQ z 4++(fM (l.drop (j+1))++d)):=by
   have:=List.take_append_drop (4*j) (fM l);rw [apo,g] at this;have e:fM (z::l.drop (j+1))=bQ z 4++fM (l.drop (j+1)):=rfl;rw [e] at this
   conv=>lhs;rw [←this]
   simp only [azW]
  obtain ⟨k,n⟩:=m z (az8 c);rw [h,aiU k n (by rw [aA2,b,i]),c]
 ·rw [ay6 (by simp;omega),ay6 (by omega)]
theorem aiV {k r c w:Int} {s:jK} (b:bG k r c w=true) (hs:wE k r c w s):((gR s).length:Int)=eE k r c:=by
 have d:=(xK hs.vec).1;have a:=hs.data;unfold gR eE;simp only [aA2,zak,fX,aay];omega
theorem apq {k r c w:Int} {s:jK} (j:bG k r c w=true) (hs:wE k r c w s):bN k r (gR s)=s:=by
 obtain ⟨p,e⟩:=xK hs.vec;have o:=fG j;have g:=e _ (az8 hs.ce);have d:0≤s.st∧s.st≤1073741824:=by
  rw [hs.st];exact afW s.vec 0 (by omega) fun v b=>(e v b).2
 have i:=hs.ix0;have h:=hs.ix1;have f:=hs.kd;obtain ⟨kd,ix,ce,st,vec,data⟩:=s;simp only at *
 have m:(k+r).toNat=vec.length:=by omega
 unfold bN gR;rw [m];congr 1
 ·show ((azQ kd.toNat).toNat:Int)=kd;rcases f with rfl | rfl <;> rfl
 ·show ((azQ ix.toNat).toNat:Int)=ix;have l:(azQ ix.toNat).toNat=ix.toNat % 256:=by simp
  rw [l];omega
 ·exact aiU (a:=[84,50,azQ kd.toNat,azQ ix.toNat]) (n:=ce) (by omega) g.2 rfl
 ·rw [←azW];exact aiU d.1 d.2 (by simp [fX])
 ·rw [←azW,←azW];exact awN (by simp [fX]) fun v b=>by have:=e v b;omega
 ·rw [←azW,←azW,←azW];exact List.drop_left' (by simp [fX,aay];omega)
theorem awO {k r c w:Int} {s:jK} (b:bG k r c w=true) (hs:wE k r c w s):dP k r c w (gR s)=true:=by
 unfold dP;rw [decide_eq_true (aiV b hs),apq b hs];have a:tA k r c w s=true:=by
  unfold tA dS;rw [decide_eq_true hs.vec,decide_eq_true hs.st,decide_eq_true ⟨hs.ix0,hs.ix1⟩,decide_eq_true hs.ce,decide_eq_true hs.data];rcases hs.kd with h | h <;> simp [h]
 rw [a];rfl
theorem awP {k r c w:Int} {s:jK} (a:bG k r c w=true) (hs:wE k r c w s):iY k r c (gR s).length=true:=by
 unfold iY;rw [decide_eq_true (aiV a hs),Bool.or_true]
def adS (k r c w:Int) (a:List aO):Prop:=∀ (i:Nat) (q:aO),a[i]? = some q→wN k r c w q.1 i=true∧wN k r c w q.2 i=true
theorem aiW {k r c w:Int} {bs:List UInt8} {i:Nat} {v:Int}:eX k r c w bs (i:Nat) 2 v=true↔dP k r c w bs=true∧(bN k r bs).ix=(i:Nat)∧(bN k r bs).kd=2∧(bN k r bs).ce=v:=by
 unfold eX jY eF;simp only [aAq,decide_eq_true_eq];constructor
 ·rintro ⟨⟨a,e⟩,d,b⟩;rw [acC a] at d b;exact ⟨a,e,d,b⟩
 ·rintro ⟨a,e,d,b⟩;refine ⟨⟨a,e⟩, ?_, ?_⟩
  ·rw [acC a];exact d
  ·rw [acC a];exact b
theorem afZ {k r c w:Int} {bs:List UInt8} {i:Nat} (o:bG k r c w=true) (d:wN k r c w bs i=true) (f:dP k r c w bs=true) (n:(bN k r bs).kd=2):(bN k r bs).ix=(i:Nat)∧(bN k r bs).st=(bN k r bs).ce∧∀ v∈(bN k r bs).vec,v=(bN k r bs).ce:=by
 have hs:=aav f;have m:=(xK hs.vec).1;have q:=fG o;unfold wN at d;rw [f,decide_eq_true n] at d;simp only [aAx,Bool.not_true,Bool.false_or,aAu,aAq,decide_eq_true_eq] at d;have j:(bN k r bs).vec≠[]:=fun e=>by rw [e] at m;simp at m;omega
 obtain ⟨z,p⟩:=List.exists_mem_of_ne_nil _ j;refine ⟨(d z p).2, ?_,fun v g=>(d v g).1⟩;rw [hs.st];have s:1≤(bN k r bs).ce:=((xK hs.vec).2 _ (az8 hs.ce)).1;have key:∀ (l:List Int) (a:Int),(∀ v∈l,v=(bN k r bs).ce)→a≤(bN k r bs).ce→(l≠[]∨a=(bN k r bs).ce)→l.foldl max a=(bN k r bs).ce:=by
  intro l
  induction l with
  | nil=>intro a _ _ h;rcases h with h | h;exact absurd rfl h;exact h
  | cons b l t =>
   intro a f n _;have u:=f b (by simp);simp only [List.foldl_cons];exact t _ (fun v g=>f v (by simp [g])) (by omega) (.inr (by omega))
 exact key _ 0 (fun v g=>(d v g).1) (by omega) (.inl j)
theorem apr {k r c w:Int} {bs:List UInt8} {i:Nat} {v:Int} (g:bG k r c w=true) (e:wN k r c w bs i=true) (m:1≤v):kY k r c w bs (i:Nat)=v↔eX k r c w bs (i:Nat) 2 v=true:=by
 rw [aiW];unfold kY acg eF;constructor
 ·intro h;split at h
  ·rename_i a;simp only [aAq,decide_eq_true_eq] at a;exact ⟨a.1.1,a.1.2,a.2.1,h⟩
  ·omega
 ·rintro ⟨b,j,d,f⟩;obtain ⟨_,_,l⟩:=afZ g e b d;rw [if_pos]
  ·exact f
  ·rw [b,decide_eq_true j,decide_eq_true d];simp only [aBk,aAu,decide_eq_true_eq];exact l
theorem adT {k r c w:Int} {q:aO} {i:Nat} {v:Int} (d:bG k r c w=true):(kA k r c w q (i:Nat) 2 v).length≠0↔eX k r c w q.1 (i:Nat) 2 v=true∨eX k r c w q.2 (i:Nat) 2 v=true:=by
 have e:∀ bs,eX k r c w bs (i:Nat) 2 v=true→(bN k r bs).data.length≠0:=fun bs h=>by
  have:=(awJ d (adK h)).2;have:=fG d;omega
 unfold kA;by_cases a:eX k r c w q.1 (i:Nat) 2 v=true
 ·rw [if_pos a];exact ⟨fun _ => .inl a,fun _=>e _ a⟩
 ·rw [if_neg a];by_cases b:eX k r c w q.2 (i:Nat) 2 v=true
  ·rw [if_pos b];exact ⟨fun _ => .inr b,fun _=>e _ b⟩
  ·rw [if_neg b];exact ⟨fun h=>absurd rfl h,fun h=>by rcases h with h | h;exact absurd h a;exact absurd h b⟩
theorem af0 {k r c w:Int} {b:List aO} (a:bG k r c w=true) (f:adS k r c w b) {i:Nat} {q:aO} (e:b[i]? = some q) {v:Int} (d:1≤v):kZ (eW k r c w b) i v=true↔(kA k r c w q (i:Nat) 2 v).length≠0:=by
 obtain ⟨g,h⟩:=f i q e;rw [adT a,←apr a g d,←apr a h d];unfold kZ;rw [adw e];simp only [Bool.or_eq_true,decide_eq_true_eq]
theorem aps {k r c w:Int} {a:List aO} (s:bG k r c w=true) (T:(a.length:Int)=k+r) (J:adS k r c w a) {v:Int} {i:Nat} {q:aO} (p:a[i]? = some q):(eR k r c w a 2 v).getD i []=kA k r c w q (i:Nat) 2 v:=by
 have hi:=(ay8.1 p).1;cases b:dZ k r c w a 2 v with
 | some l =>
  rw [acv b p];obtain ⟨N,_⟩:=aaw b;obtain ⟨j,M,e⟩:=adI _ _ b;obtain ⟨I,bs,G,d,rfl⟩:=afK e;have t:a[j]? = some (a.getD j ([],[])):=by rw [azs,azm M];rfl
  obtain ⟨u,F⟩:=J j _ t;have D:wN k r c w bs j=true:=by rcases G with rfl | rfl;exact u;exact F
  unfold iT at d;simp only [aAq,decide_eq_true_eq] at d;obtain ⟨o,n,U,g⟩:=d;rw [acC o] at n g;obtain ⟨_,O,R⟩:=afZ s D o n;have g:(bN k r bs).st=v:=g;have m:(bN k r bs).vec.getD i 0=v:=by
   obtain ⟨z,m⟩:∃ z,(bN k r bs).vec[i]? = some z:=⟨_,azm (by omega)⟩
   rw [azs,m];show z=v;rw [R z (az8 m),←O,g]
  rw [m]
 | none =>
  have P:(eR k r c w a 2 v).getD i []=[]:=by
   unfold eR;rw [b];simp only;rw [azs,azo,aBS hi];rfl
  rw [P]
  symm
  refine az1 ?_;refine Decidable.by_contra fun E => ?_
  have K:=(adT s).1 E;obtain ⟨u,F⟩:=J i q p;have B:a.getD i ([],[])=q:=by rw [azs,p];rfl
  have f:∀ bs,wN k r c w bs i=true→eX k r c w bs (i:Nat) 2 v=true→iT k r c w bs (i:Nat) 2 v=true:=fun bs Q h=>by
   obtain ⟨e,I,d,o⟩:=aiW.1 h;obtain ⟨_,n,_⟩:=afZ s Q e d;unfold iT;rw [e,acC e];simp only [aBk,aAq,decide_eq_true_eq];exact ⟨d,I,by show (bN k r bs).st=v;rw [n,o]⟩
  have A:∃ l,rZ k r c w q (i:Nat) 2 v=some l:=by
   unfold rZ;split
   ·exact ⟨_,rfl⟩
   ·rename_i S;rcases K with h | h
    ·exact absurd (f _ u h) S
    ·rw [if_pos (f _ F h)];exact ⟨_,rfl⟩
  obtain ⟨l,y⟩:=A;have L:∃ H,nZ k r c w a 2 v (i+1)=some H:=by
   unfold nZ;rw [B,y];cases nZ k r c w a 2 v i with
   | none=>exact ⟨_,rfl⟩
   | some x=>exact ⟨_,rfl⟩
  obtain ⟨H,C⟩:=L;have:=afJ C a.length (by omega);unfold dZ at b;rw [this] at b;cases b
theorem apt {k r c w:Int} {a:List aO} (m:bG k r c w=true) (x:adS k r c w a) {v:Int} {l:List Int} (t:dZ k r c w a 2 v=some l):∀ z∈l,z=v:=by
 obtain ⟨j,o,p⟩:=adI _ _ t;obtain ⟨A,bs,f,g,rfl⟩:=afK p;have d:a[j]? = some (a.getD j ([],[])):=by rw [azs,azm o];rfl
 obtain ⟨n,y⟩:=x j _ d;have e:wN k r c w bs j=true:=by rcases f with rfl | rfl;exact n;exact y
 unfold iT at g;simp only [aAq,decide_eq_true_eq] at g;obtain ⟨i,h,B,b⟩:=g;rw [acC i] at h b;obtain ⟨_,q,u⟩:=afZ m e i h;have b:(bN k r bs).st=v:=b;intro z s;rw [u z s,←q,b]
structure tQ (k r c w:Int) (ps:List aO) (W:Int):Prop where
 may:bG k r c w=true
 row:dE k r c ps=true
 pure:adS k r c w ps
 ver:eL W=true
 told:∃ l,dZ k r c w ps 2 W=some l
abbrev oG (k r c w:Int) (ps:List aO) (W:Int) (i:Nat):List UInt8:=gR (mF k r c w ps 2 W i)
abbrev thT (k r c w:Int) (ps:List aO) (W:Int) (i:Nat):List UInt8:=(eR k r c w ps 2 W).getD i []
section
variable {k r c w W:Int} {ps:List aO}
theorem tQ.len (h:tQ k r c w ps W):(ps.length:Int)=k+r:=(qR h.row).1
theorem tQ.v1 (h:tQ k r c w ps W):1≤W:=by have:=h.ver;unfold eL at this;rw [decide_eq_true_eq] at this;exact this.1
theorem tQ.new (h:tQ k r c w ps W) {i:Nat} (hi:i < ps.length):dP k r c w (oG k r c w ps W i)=true∧bN k r (oG k r c w ps W i)=mF k r c w ps 2 W i∧(mF k r c w ps 2 W i).ce=W∧iY k r c (oG k r c w ps W i).length=true∧wN k r c w (oG k r c w ps W i) i=true:=by
 obtain ⟨l,d⟩:=h.told;have g:=h.len;have a:=aiP (w:=w) h.may (.inr rfl) d (i:=i) (by omega);have b:=apq h.may a;have e:(mF k r c w ps 2 W i).ce=W:=apt h.may h.pure d _ (by have:=az8 a.ce;unfold mF at this ⊢;rw [d] at this ⊢;exact this);refine ⟨awO h.may a,b,e,awP h.may a,awE fun v f => ?_⟩;rw [b] at f ⊢;refine ⟨?_,rfl⟩;rw [e];unfold mF at f;rw [d] at f;exact apt h.may h.pure d v f
theorem tQ.hit (h:tQ k r c w ps W) {i:Nat} (hi:i < ps.length) {v:Int}:eX k r c w (oG k r c w ps W i) (i:Nat) 2 v=true↔v=W:=by
 obtain ⟨d,a,b,_,_⟩:=h.new hi;rw [aiW,a,b];exact ⟨fun h=>h.2.2.2.symm,fun h=>⟨d,rfl,rfl,h.symm⟩⟩
structure nG (k r c w:Int) (ps:List aO) (W:Int) (qs:List aO):Prop where
 len:qs.length=ps.length
 at_:∀ (i:Nat) (p:aO),ps[i]? = some p→∃ q,qs[i]? = some q∧(q=p∨((thT k r c w ps W i).length=0∧(q.1=p.1∨q.1=oG k r c w ps W i)∧(q.2=p.2∨q.2=oG k r c w ps W i)∧(q.1=oG k r c w ps W i∨q.2=oG k r c w ps W i)))
theorem nG.back {d:List aO} (f:nG k r c w ps W d) {i:Nat} {q:aO} (e:d[i]? = some q):∃ p,ps[i]? = some p∧(q=p∨((thT k r c w ps W i).length=0∧(q.1=p.1∨q.1=oG k r c w ps W i)∧(q.2=p.2∨q.2=oG k r c w ps W i)∧(q.1=oG k r c w ps W i∨q.2=oG k r c w ps W i))):=by
 have hi:=(ay8.1 e).1;have j:=f.len;have a:ps[i]? = some (ps[i]'(by omega)):=azm _;obtain ⟨h,b,g⟩:=f.at_ i _ a;rw [e] at b;cases b;exact ⟨_,a,g⟩
def af1 (k r c w:Int) (ps:List aO) (W:Int) (p:cW):Prop:=p.dr < ps.length∧p.sl < 2∧p.bs=oG k r c w ps W p.dr∧(thT k r c w ps W p.dr).length=0
theorem awQ {q p:aO} {sl:Nat} {b:List UInt8} (h:(q.1=p.1∨q.1=b)∧(q.2=p.2∨q.2=b)):((wO q sl b).1=p.1∨(wO q sl b).1=b)∧((wO q sl b).2=p.2∨(wO q sl b).2=b)∧((wO q sl b).1=b∨(wO q sl b).2=b):=by
 unfold wO;split
 ·exact ⟨.inr rfl,h.2,.inl rfl⟩
 ·exact ⟨h.1,.inr rfl,.inr rfl⟩
theorem apu (a:List aO) (p:cW) (i:Nat):(xO a p)[i]? = if p.dr=i then (if p.dr < a.length then some (wO (a.getD p.dr ([],[])) p.sl p.bs) else none) else a[i]? := by
 unfold xO;rw [aAn]
theorem nG.put {b:List aO} (f:nG k r c w ps W b) {p:cW} (l:af1 k r c w ps W p):nG k r c w ps W (xO b p):=by
 obtain ⟨t,u,o,n⟩:=l;refine ⟨by rw [aiS];exact f.len,fun i a j => ?_⟩;obtain ⟨q,h,g⟩:=f.at_ i a j;rw [apu];by_cases e:p.dr=i
 ·subst e;have d:b.getD p.dr ([],[])=q:=by rw [azs,h];rfl
  rw [if_pos rfl,if_pos (by have:=f.len;omega),d,o];refine ⟨_,rfl,.inr ⟨n, ?_⟩⟩;refine awQ ?_;rcases g with rfl | ⟨_,s,m,_⟩
  ·exact ⟨.inl rfl,.inl rfl⟩
  ·exact ⟨s,m⟩
 ·rw [if_neg e];exact ⟨q,h,g⟩
theorem nG.puts:∀ (L:List cW) {a:List aO},nG k r c w ps W a→(∀ p∈L,af1 k r c w ps W p)→nG k r c w ps W (tP a L)
 | [],a,h,_=>h
 | p::L,a,h,hL=>nG.puts L (h.put (hL p (by simp))) fun q b=>hL q (by simp [b])
def zB (k r c w:Int) (ps:List aO) (W:Int) (a:List aO) (i:Nat):Prop:=∃ q,a[i]? = some q∧(q.1=oG k r c w ps W i∨q.2=oG k r c w ps W i)
theorem zB.put {a:List aO} {i:Nat} (h:zB k r c w ps W a i) {p:cW} (d:af1 k r c w ps W p):zB k r c w ps W (xO a p) i:=by
 obtain ⟨q,b,f⟩:=h;have hi:=(ay8.1 b).1;unfold zB;rw [apu];by_cases e:p.dr=i
 ·subst e;rw [if_pos rfl,if_pos hi,d.2.2.1];refine ⟨_,rfl, ?_⟩;unfold wO;split
  ·exact .inl rfl
  ·exact .inr rfl
 ·rw [if_neg e];exact ⟨q,b,f⟩
theorem zB.puts:∀ (L:List cW) {a:List aO} {i:Nat},zB k r c w ps W a i→(∀ p∈L,af1 k r c w ps W p)→zB k r c w ps W (tP a L) i
 | [],a,i,h,_=>h
 | p::L,a,i,h,hL=>zB.puts L (h.put (hL p (by simp))) fun q b=>hL q (by simp [b])
theorem nG.row (f:tQ k r c w ps W) {l:List aO} (j:nG k r c w ps W l):dE k r c l=true:=by
 obtain ⟨o,d⟩:=qR f.row;unfold dE;rw [j.len,decide_eq_true o,aBk,aAu];intro q s;obtain ⟨i,hi⟩:=aBj s;obtain ⟨p,h,n⟩:=j.back hi;have e:=(ay8.1 h).1;have a:=d p (az8 h);have b:=(f.new e).2.2.2.1;unfold kD at a ⊢;rw [aAq] at a ⊢;rcases n with rfl | ⟨_,t,m,_⟩
 ·exact a
 ·constructor
  ·rcases t with g | g <;> rw [g];exact a.1;exact b
  ·rcases m with g | g <;> rw [g];exact a.2;exact b
theorem nG.pure (e:tQ k r c w ps W) {h:List aO} (m:nG k r c w ps W h):adS k r c w h:=by
 intro i q n;obtain ⟨p,f,j⟩:=m.back n;have d:=(ay8.1 f).1;have b:=e.pure i p f;have a:=(e.new d).2.2.2.2;rcases j with rfl | ⟨_,o,l,_⟩
 ·exact b
 ·constructor
  ·rcases o with g | g <;> rw [g];exact b.1;exact a
  ·rcases l with g | g <;> rw [g];exact b.2;exact a
theorem nG.dat (a:tQ k r c w ps W) {o:List aO} (z:nG k r c w ps W o) {i:Nat} {q:aO} (u:o[i]? = some q):(thT k r c w ps W i=kA k r c w q (i:Nat) 2 W∧ps[i]? = some q)∨((thT k r c w ps W i).length=0∧kA k r c w q (i:Nat) 2 W=tab c.toNat (iZ k r c w ps 2 W i)∧zB k r c w ps W o i):=by
 obtain ⟨p,m,x⟩:=z.back u;have j:=(ay8.1 m).1;have b:=aps a.may a.len a.pure (v:=W) m;rcases x with rfl | ⟨s,y,A,t⟩
 ·exact .inl ⟨b,m⟩
 ·refine .inr ⟨s, ?_,⟨q,u,t⟩⟩;have n:¬ (eX k r c w p.1 (i:Nat) 2 W=true∨eX k r c w p.2 (i:Nat) 2 W=true):=fun h=>by
   have:=(adT a.may).2 h;rw [←b] at this;exact this s
  have l:=(a.new j).2.1;have e:(bN k r (oG k r c w ps W i)).data=tab c.toNat (iZ k r c w ps 2 W i):=by rw [l];rfl
  have f:eX k r c w (oG k r c w ps W i) (i:Nat) 2 W=true:=(a.hit j).2 rfl;unfold kA;split
  ·rename_i d;rcases y with g | g
   ·rw [g] at d;exact absurd (.inl d) n
   ·rw [g];exact e
  ·rename_i d;rcases t with g | g
   ·rw [g] at d;exact absurd f d
   ·rw [g,if_pos f];exact e
theorem nG.other (a:tQ k r c w ps W) {e:List aO} (n:nG k r c w ps W e) {v:Int} (l:1≤v) (d:v≠W) {i:Nat} (h:kZ (eW k r c w e) i v=true):kZ (eW k r c w ps) i v=true:=by
 have hi:i < e.length:=by
  refine Decidable.by_contra fun hi => ?_
  unfold kZ at h;rw [ay6 (by rw [aci];omega)] at h;cases h
 have m:e[i]? = some e[i]:=azm hi;obtain ⟨p,j,f⟩:=n.back m;have b:=(ay8.1 j).1;rw [af0 a.may (n.pure a) m l,adT a.may] at h;rw [af0 a.may a.pure j l,adT a.may];rcases f with f | ⟨s,q,o,t⟩
 ·rw [f] at h;exact h
 ·rcases h with h | h
  ·rcases q with g | g
   ·rw [g] at h;exact .inl h
   ·rw [g] at h;exact absurd ((a.hit b).1 h) d
  ·rcases o with g | g
   ·rw [g] at h;exact .inr h
   ·rw [g] at h;exact absurd ((a.hit b).1 h) d
theorem nG.same (a:tQ k r c w ps W) {b:List aO} (d:nG k r c w ps W b) {i:Nat} (h:kZ (eW k r c w ps) i W=true):kZ (eW k r c w b) i W=true:=by
 have hi:i < ps.length:=by
  refine Decidable.by_contra fun hi => ?_
  unfold kZ at h;rw [ay6 (by rw [aci];omega)] at h;cases h
 have j:=d.len;have e:ps[i]? = some ps[i]:=azm hi;have f:b[i]? = some (b[i]'(by omega)):=azm _;rw [af0 a.may a.pure e a.v1,←aps a.may a.len a.pure e] at h;rw [af0 a.may (d.pure a) f a.v1];rcases d.dat a f with ⟨g,_⟩ | ⟨g,_⟩
 ·rw [←g];exact h
 ·exact absurd g h
end
section
variable {k r c w W:Int} {ps:List aO}
end
section
variable {k r c w W:Int} {ps:List aO}
end
section
variable {k r c w W:Int} {ps:List aO}
end
end Go.Proofs.YtaekhhlgnbhnpaaGreat