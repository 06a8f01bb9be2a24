import Derived.Test.YtaekhhlgnbhnpaaGreatNzcG22
import Derived.Test.YtaekhhlgnbhnpaaGreatNzcG21
import Derived.Test.YtaekhhlgnbhnpaaGreatNzcG18
import Derived.Test.YtaekhhlgnbhnpaaGreatNzcG12
import Derived.Test.YtaekhhlgnbhnpaaGreatNzcG20
set_option linter.unusedVariables false
set_option linter.unusedSimpArgs false
set_option maxRecDepth 10000
open Go.Proofs.Tryz
open Bool renaming true_and→aBh
open Go.IntKind renaming i64→azv
open Go.Proofs.Tryz renaming prog→ayS
open Int renaming toNat_natCast→aA8,natCast_mul→aCd,toNat_of_nonneg→aB0
open List renaming take_of_length_le→aA7,getElem?_eq_getElem→azj,mem_of_getElem?→az5,take_add_one→aA6,append_assoc→azT,ext_getElem?→aAf,getElem?_map→azl,getElem?_range→aBO,getD_eq_getElem?_getD→azp,getElem?_eq_none→ay3,getElem?_append_left→azd,getElem?_append_right→aze,length_append→aAZ,append_nil→aBi,getElem?_drop→aAs,length_drop→aA9,all_eq_true→aAr,mem_cons→az4,not_mem_nil→aBT,getElem?_eq_some_iff→ay5,range→aAm,mem_range→aAw
open Nat renaming mul_one→azD,one_ne_zero→aBj,zero_ne_one→aBd,mul_le_mul→aBZ,one_mul→aBW,reduceEqDiff→aBS,add_mul→azX
open Option renaming map_some→az3,bind_some→aAh,getD_some→aAB,getD_none→aAA,map_none→aBa
open UInt8 renaming ofNat→azN
namespace Go.Proofs.YtaekhhlgnbhnpaaGreat
open Go Go.Tw Go.Proofs Go.Gf
theorem afH {n:Int} (h:0≤n):∃ N:Nat,n=(N:Int):=⟨n.toNat,by omega⟩
theorem awY (l:List bJ) (y:bJ):dO (l++[y])=dO l++(cR y.1 2++cR y.2 4):=by simp [dO]
theorem aiw {m:aF} (bs:List UInt8) (n:Nat) (f:Bool) (h:bs.length=n):f9 ayS 5 1 m (.tree n n (aL bs) f)=some (aL bs,n):=by
 rw [acz (by rw [iB];omega),azD,aA7 (by rw [iB];omega)]
theorem aph (v:AV) (l:List bJ) (j:qR v l) (g:l.length≤1000) (K:∀ x∈l,(0≤x.1∧x.1≤1073741824)∧0≤x.2∧x.2≤1073741824):aR ayS 249 [v] ⟨bD (l.length*6) (aL (dO l)),[]⟩:=by
 refine d6 ?_;obtain ⟨x,j⟩:=j;have W:=j.plain;replace K:=Hid.mk K;replace g:=Hid.mk g;refine bI Tryz.func249 aB (h:=?_);unfold Tryz.f249;simp only [↓pre,simprocAttr];rw [bS];refine bU (fun q e m=>∃ i lv,q+i=l.length∧e 0=v∧e 3=lv∧e 4=aC (i:Nat)∧Hid (Own m 5 1 lv (i*6) (aL (dO (l.take i))))) l.length ⟨0,aN,by omega,rfl,rfl,rfl,⟨fC⟩⟩ ?_;rintro q e m ⟨i,lv,w,C,M,D,N⟩;replace w:=Hid.mk w;by_cases f:i < l.length
 ·have b:((i:Nat):Int) < ((l.length:Nat):Int):=by omega
  have S:=bY (n:=i) (by have:=g.out;omega);obtain ⟨y,t⟩:∃ y,l[i]? = some y:=⟨_,azj f⟩
  obtain ⟨I,L⟩:=xA l x i y t;have d:=K.out y (az5 t);have p:l.take (i+1)=l.take i++[y]:=by rw [aA6,t];rfl
  obtain ⟨A,E⟩:=afH d.1.1;obtain ⟨B,z⟩:=afH d.2.1;have H:=afG A 2 (by omega) (by omega);have J:=afG B 4 (by omega) (by omega);have c:=awY (l.take i) y;rw [←p,E,z] at c;rw [E] at I;rw [z] at L;have T:=fun m:aF=>aiw (m:=m) (cR (A:Nat) 2) 2 true (kV _ _)
  have Q:=fun m:aF=>aiw (m:=m) (cR (B:Nat) 4) 4 true (kV _ _)
  have G:=kV ((A:Nat):Int) 2;have F:=kV ((B:Nat):Int) 4;generalize cR ((A:Nat):Int) 2=Y at *
  generalize cR ((B:Nat):Int) 4=X at *
  simp only [aC] at I L H J;replace t:=Hid.mk t;replace E:=Hid.mk E;replace z:=Hid.mk z;replace d:=Hid.mk d;replace p:=Hid.mk p;replace c:=Hid.mk c;replace G:=Hid.mk G;replace F:=Hid.mk F;simp only [↓pre,zag,acL,simprocAttr,C,M,D,b,j.len',j.addr',f,I]
  (first | refine aH (H) (by first | rfl | simp only [aA,aD, *]) ?_ | refine aG (H) (by first | rfl | simp only [aA,aD, *]) (by intro k;first | rfl | simp only [ *,zaa]) ?_);simp only [↓pre,zab,acL,bE,simprocAttr]
  refine pA (kd := .flat) (sz:=1) (y:=1) (zl:=[.int .u8 0]) (by kernel_rfl) N.out (by kernel_rfl) (by kernel_rfl) (by kernel_rfl) rfl (T _) (by rw [iB,azD];exact G.out) (by have:=g.out;omega) (by have:=g.out;omega) ?_;intro U V o R;replace o:=Hid.mk o;simp only [↓pre,zae,acL,simprocAttr,C,D,f,j.addr',L]
  (first | refine aH (J) (by first | rfl | simp only [aA,aD, *]) ?_ | refine aG (J) (by first | rfl | simp only [aA,aD, *]) (by intro k;first | rfl | simp only [ *,zaa]) ?_);simp only [↓pre,zab,acL,bE,simprocAttr]
  refine pA (kd := .flat) (sz:=1) (y:=1) (zl:=[.int .u8 0]) (by kernel_rfl) o.out (by kernel_rfl) (by kernel_rfl) (by kernel_rfl) rfl (Q _) (by rw [iB,azD];exact F.out) (by have:=g.out;omega) (by have:=g.out;omega) ?_;intro u O s P;have r:Own O 5 1 u ((i+1)*6) (aL (dO (l.take (i+1)))):=by
   rw [c.out,rQ,rQ,←azT,show (i+1)*6=i*6+2+4 by omega];exact s
  replace r:=Hid.mk r;clear s;simp only [↓pre,zab,simprocAttr,C,D,S];exact ⟨q - 1,by have:=w.out;omega,i+1,u,by have:=w.out;omega,rfl,rfl,r⟩
 ·have b:¬ ((i:Nat):Int) < ((l.length:Nat):Int):=by omega
  have hi:i=l.length:=by have:=w.out;omega
  have a:=N.out;rw [hi,List.take_length] at a;replace a:=Hid.mk a;simp only [↓pre,zag,acL,simprocAttr,C,M,D,b,j.len'];exact ⟨0,vK a.out 0⟩
theorem awZ (bs:List UInt8):aY bs.length (fun j=>bs.getD j 0)=aL bs:=by
 unfold aY tab aL;congr 1;refine aAf fun i => ?_
 rw [azl];by_cases h:i < bs.length
 ·rw [aBO h,azj h,az3,azp,azj h];rfl
 ·rw [ay3 (by simpa using h),ay3 (by omega)];rfl
theorem aw0 {bs:List UInt8} {W:Nat} (h:bs.length≤W):aY W (fun j=>if j < bs.length then bs.getD j 0 else 0)=aL (pQ bs W):=by
 unfold aY tab aL pQ;congr 1;refine aAf fun i => ?_
 rw [azl];by_cases b:i < W
 ·rw [aBO b,az3];by_cases a:i < bs.length
  ·rw [if_pos a,azd a,azp,azj a];rfl
  ·rw [if_neg a,aze (by omega),List.getElem?_replicate,if_pos (by omega)]
 ·rw [ay3 (by simpa using b),ay3 (by simp;omega)];rfl
theorem api (k r c w:Int) (p:bG k r c w=true) (v:AV) (bs:List UInt8) (x:List AV) (q:aZ v bs.length (aL bs++x)) (i:bs.length≤(wI k c).toNat):aR ayS 248 [aA k r c w,v] ⟨.tree (wI k c).toNat (wI k c).toNat (aL (pQ bs (wI k c).toNat)) true,[]⟩:=by
 refine d6 ?_;have l:=sS k r c w p;have t:=g9 p;obtain ⟨W,o⟩:∃ W:Nat,wI k c=(W:Int):=⟨(wI k c).toNat,by unfold wI;omega⟩
 have e:(wI k c).toNat=W:=by omega
 have s:W≤768:=by unfold wI at o;omega
 rw [e] at i ⊢;rw [o] at l;have u:=q.plain;have g:=fun m=>rN m (n:=W) (by omega)
 have a:=fun (m:aF) (b:Nat) (f:Bool) hb=>ao8 (m:=m) (b:=b) (f:=f) (w:=W) hb (F:=fun j=>bs.getD j 0) (x:=x) (v:=v) (n:=bs.length) (by rw [awZ];exact q) i
 rw [aw0 i] at a;have d:=a (aF.empty.push ⟨aY W fun _=>0,5,.flat,true⟩) aF.empty.next true (by rw [aT,if_pos rfl]);replace a:=Hid.mk a;refine bI Tryz.func248 aB (h:=?_);unfold Tryz.f248;simp only [↓pre,zab,amu,simprocAttr,aA]
 (first | refine aH (l) (by first | rfl | simp only [aA,aD, *]) ?_ | refine aG (l) (by first | rfl | simp only [aA,aD, *]) (by intro k;first | rfl | simp only [ *,zaa]) ?_);simp only [↓pre,zae,amu,ada,simprocAttr,g,d]
 exact ⟨0,by rw [uC (by rw [aO,if_pos rfl]),List.drop_zero]⟩
theorem aw1 (k r c w len dep:Int) (v:AV) (l:List bJ) (f:qR v l) (H:kW k r c w len dep l=0):aR ayS 200 [aA k r c w,.agg [aC len,aC dep,v]] ⟨.tree (wI k c).toNat (wI k c).toNat (aL (lM k c len dep l)) true,[]⟩:=by
 refine d6 ?_;obtain ⟨s,L,i,E,q⟩:=abM H;obtain ⟨S,_⟩:=adb H;have V:=g9 S;have a2:=yE V.1 V.2;have I:l.length≤126:=by unfold dI at E;omega
 obtain ⟨A,rfl⟩:=afH s;obtain ⟨D,rfl⟩:=afH (n:=dep) (by omega);have M:=afG A 4 (by omega) (by omega);have O:=afG l.length 2 (by omega) (by omega);have X:=aph v l f (by omega) (fun x hx=>by have:=q x hx;have:=jA.1 S;omega);have d:(oW (A:Nat) (D:Nat) l.length++dO l).length≤(wI k c).toNat:=by
  unfold oW;simp only [aAZ,kV,rP];unfold dI at E;unfold wI;omega
 have R:=fun v f=>api k r c w S v (oW (A:Nat) (D:Nat) l.length++dO l) [] f d
 obtain ⟨x,f⟩:=f;have f1:=b6 f;have q1:=bQ f;have hp:=f.plain;have a:oW ((A:Nat):Int) ((D:Nat):Int) l.length=cR (A:Nat) 4++([azN D]++cR ((l.length:Nat):Int) 2):=by
  unfold oW;rw [aiv D 0];simp [cR]
 have b:lM k c ((A:Nat):Int) ((D:Nat):Int) l=pQ (oW (A:Nat) (D:Nat) l.length++dO l) (wI k c).toNat:=rfl;rw [b];have C:=kV ((A:Nat):Int) 4;have u:=kV ((l.length:Nat):Int) 2;have s2:=fun m:aF=>aiw (m:=m) (cR ((l.length:Nat):Int) 2) 2 true u
 have Z:=dY (l.length*6) (aL (dO l));have s3:=fun m:aF=>aZ.src (P:=ayS) (el:=5) (sz:=1) (m:=m) Z (by rw [iB,rP];omega)
 rw [azD,aA7 (by rw [iB,rP];exact Nat.le_refl _)] at s3;have t3:=cH Z;have p:(aL (dO l)).length=l.length*6:=by rw [iB,rP]
 generalize bD (l.length*6) (aL (dO l))=TV at *
 have z:∀ m:aF,gA ayS 5 m (.tree 4 4 (aL (cR (A:Nat) 4)) true) (.tree 1 1 [.val (.int .u8 ((azN D).toNat:Int))] true)=some ⟨.sl m.next 0 5 5 false,m.push ⟨aL (cR (A:Nat) 4)++[.val (.int .u8 ((azN D).toNat:Int))],5,.flat,true⟩,none⟩:=fun m=>by
  have g1:cE ayS 5=some 1:=by kernel_rfl
  have g2:lB ayS 5=some 1:=by kernel_rfl
  have g3:gN ayS 5=some [.int .u8 0]:=by kernel_rfl
  have g4:bP ayS 5 = .flat:=by kernel_rfl
  have J:(aL (cR ((A:Nat):Int) 4)).length=4:=by rw [iB,C]
  simp only [gA,g1,g2,g3,g4,mN,eE,aAh];simp [bL,J,aA7]
 generalize F:cR ((A:Nat):Int) 4=T at *
 generalize B:cR ((l.length:Nat):Int) 2=NL at *
 generalize oW ((A:Nat):Int) ((D:Nat):Int) l.length=G at *
 have e:∀ m:aF,Own (m.push ⟨aL T++[.val (.int .u8 ((azN D).toNat:Int))],5,.flat,true⟩) 5 1 (.sl m.next 0 5 5 false) 5 (aL T++[.val (.int .u8 ((azN D).toNat:Int))]):=fun m=>⟨.inr ⟨m.next,rfl,by rw [aT,if_pos rfl],by rw [bM];omega,by omega⟩,by rw [aAZ,iB,C];rfl⟩
 simp only [aC] at M O;replace q:=Hid.mk q;replace d:=Hid.mk d;replace e:=Hid.mk e;replace C:=Hid.mk C;replace u:=Hid.mk u;replace a:=Hid.mk a;replace p:=Hid.mk p;replace H:=Hid.mk H;replace F:=Hid.mk F;replace B:=Hid.mk B;replace i:=Hid.mk i;replace b:=Hid.mk b;replace R:=Hid.mk R;refine bI Tryz.func200 aB (h:=?_);unfold Tryz.f200;simp only [↓pre,zab,abi,simprocAttr,aA,f1]
 (first | refine aH (M) (by first | rfl | simp only [aA,aD, *]) ?_ | refine aG (M) (by first | rfl | simp only [aA,aD, *]) (by intro k;first | rfl | simp only [ *,zaa]) ?_);simp only [↓pre,zae,abi,bE,simprocAttr,z,f.len'];(first | refine aH (O) (by first | rfl | simp only [aA,aD, *]) ?_ | refine aG (O) (by first | rfl | simp only [aA,aD, *]) (by intro k;first | rfl | simp only [ *,zaa]) ?_);simp only [↓pre,zae,abi,bE,simprocAttr]
 refine pA (kd := .flat) (sz:=1) (y:=1) (zl:=[.int .u8 0]) (by kernel_rfl) (e.out _) (by kernel_rfl) (by kernel_rfl) (by kernel_rfl) rfl (s2 _) (by rw [iB,azD];exact u.out) (by omega) (by omega) ?_;intro a3 m1 o a1;replace o:=Hid.mk o;simp only [↓pre,zab,abi,simprocAttr]
 (first | refine aH (X) (by first | rfl | simp only [aD, *]) ?_ | refine aG (X) (by first | rfl | simp only [aA,aD, *]) (by intro k;first | rfl | simp only [ *,zaa]) ?_);simp only [↓pre,zab,abi,bE,simprocAttr,t3]
 refine pA (kd := .flat) (sz:=1) (y:=1) (zl:=[.int .u8 0]) (by kernel_rfl) o.out (by kernel_rfl) (by kernel_rfl) (by kernel_rfl) rfl (s3 _) (by rw [azD];exact p.out) (by omega) (by omega) ?_;intro N m2 g a0;have j:aL T++[.val (.int .u8 ((azN D).toNat:Int))]++aL NL++aL (dO l)=aL (G++dO l):=by
  rw [a.out];simp [aL,bA]
 have t:5+2+l.length*6=(G++dO l).length:=by
  rw [a.out];rw [aAZ,aAZ,aAZ,rP,C.out,u.out,List.length_cons,List.length_nil]
 rw [j,t] at g;obtain ⟨Y,m3,Q,U,_⟩:=(zV g (.inl rfl)).fz;have c5:=R.out Y (by rw [aBi];exact U);have K:fzs m2 [.agg [.val (.int .i64 k),.val (.int .i64 r),.val (.int .i64 c),.val (.int .i64 w)],N]=some ([.agg [.val (.int .i64 k),.val (.int .i64 r),.val (.int .i64 c),.val (.int .i64 w)],Y],m3):=by simp [fzs,fz,Q]
 have W:=l7 (wI k c).toNat (aL (pQ (G++dO l) (wI k c).toNat)) true;have s5:=cH W;generalize AV.tree (wI k c).toNat (wI k c).toNat (aL (pQ (G++dO l) (wI k c).toNat)) true=WV at *
 simp only [aA,aC] at c5;replace g:=Hid.mk g;replace j:=Hid.mk j;replace t:=Hid.mk t;simp only [↓pre,zab,abi,simprocAttr];refine zO c5 K ?_;simp only [↓pre,simprocAttr,sx,s5];exact ⟨0,acA W⟩
theorem aw2 {bs:List UInt8} {i:Nat} {a:UInt8} (h:bs[i]? = some a):dL ((bs.drop i).take 1)=a.toNat:=by
 have:(bs.drop i).take 1=[a]:=by
  have b:(bs.drop i)[0]? = some a:=by rw [aAs];simpa using h
  cases c:bs.drop i with
  | nil=>rw [c] at b;cases b
  | cons y ys=>rw [c] at b;cases b;rfl
 rw [this];simp [dL]
theorem apj {k r c w len dep:Int} {l:List bJ} (a:bG k r c w=true):decide (kW k r c w len dep l=0)=rR k r c w len dep l:=by
 unfold kW;rw [if_pos a];cases rR k r c w len dep l <;> rfl
def eQ:Nat→Bool:=fun d=>d != 4 && d != 6 && d != 40 && d != 45 && d != 53
set_option maxHeartbeats 1000000 in
theorem aw3 (k r c w:Int) (W:bG k r c w=true) (v:AV) (bs:List UInt8) (x:List AV) (u:aZ v bs.length (aL bs++x)) (G:(bs.length:Int)=wI k c):aR ayS 117 [aA k r c w,v] ⟨.tup [abO k r c w bs,aC (mX k r c w bs)],[]⟩:=by
 refine d6 ?_;have hp:=u.plain;have Q:=nA k r c w;have R:=sS k r c w W;have T:=acT k r c w W;rw [W] at Q;have hw:=g9 W;have F:bs.length≤768∧32≤bs.length:=by unfold wI at G;omega
 have j:mX k r c w bs=if rT k r c w bs=true then 0 else 150:=by unfold mX;rw [if_pos W,if_pos G]
 have g:∀ E,mX k r c w bs=E→E≠0→∀ m,fzT 0 m (.tup [.agg [.val (.int .i64 0),.val (.int .i64 0),.val (.slice none 0 0)],.val (.int .i64 E)])=some (.tup [abO k r c w bs,aC E]):=fun E j h0 m=>by
  unfold abO;rw [j,if_neg h0];exact avH E 0 m
 obtain ⟨v1,s1,r1⟩:=u.slice (P:=ayS) (t:=52) (sz:=1) (lo:=none) (hi:=some 4) (by kernel_rfl) (by simp) (by simp only [aAB];omega);obtain ⟨v3,s3,r3⟩:=u.slice (P:=ayS) (t:=52) (sz:=1) (lo:=some 5) (hi:=some 7) (by kernel_rfl) (by simp) (by simp only [aAB];omega);obtain ⟨v4,s4,r4⟩:=u.slice (P:=ayS) (t:=52) (sz:=1) (lo:=some 7) (hi:=none) (by kernel_rfl) (by simp only [aAB,aAA];omega) (by simp);simp only [aAB,aAA,azD,Nat.sub_zero,List.drop_zero] at r1 r3 r4;rw [qK _ x 5 (by omega)] at r3;rw [qK _ x 7 (by omega),←aA9] at r4;have O:=afF v1 4 bs x r1 (by omega) (by omega);have M:=afF v3 2 (bs.drop 5) x r3 (by rw [aA9];omega) (by omega);have a6:=r1.plain;have a5:=r3.plain;have a4:=r4.plain;obtain ⟨a,V⟩:∃ a,bs[4]? = some a:=⟨_,azj (by omega)⟩
 have S:=iE (x:=x) V;have q:((a.toNat:Nat):Int)=dQ bs:=by unfold dQ;rw [aw2 V]
 have L:4 < bs.length:=by omega
 have C:pN bs < 65536:=z6 2 (bs.drop 5);rw [show dL ((bs.drop 5).take 2)=pN bs from rfl] at M;rw [show ((dL (bs.take 4):Nat):Int)=cK bs from rfl] at O;have U:jW (.val (.int .i64 4))=some 4:=rfl;have n5:jW (.val (.int .i64 5))=some 5:=rfl;have Z:jW (.val (.int .i64 7))=some 7:=rfl;have wa:azv.wrap ((a.toNat:Nat):Int)=((a.toNat:Nat):Int):=cD (by have:=a.toNat_lt;omega);rw [q] at wa;have a3:=fun m=>u.slOk (P:=ayS) (m:=m) (t:=52)
 have i:=fun d c m lo hi mx=>u.sliceX (P:=ayS) (m:=m) (t:=52) (d:=d) (c:=c) (lo:=lo) (hi:=hi) (mx:=mx)
 have p:¬ ((bs.length:Nat):Int)=wI k c→False:=fun h=>h G
 rw [←G] at R;by_cases e:7+6*pN bs≤bs.length
 ·have f:¬ dI k c < ((pN bs:Nat):Int):=by unfold dI;unfold wI at G;omega
  have K:=apf v4 (bs.drop 7) x (pN bs) r4 (by rw [aA9];omega) (by rw [aA9];omega);rw [show dP (bs.drop 7) (pN bs)=cY bs from rfl] at K;have B:(cY bs).length=pN bs:=abN _ _;have D:qR (bD (pN bs) (cA (cY bs))) (cY bs):=⟨[],by rw [aBi,B];exact dY _ _⟩
  have I:=awX k r c w (cK bs) (dQ bs) W _ _ D (by omega);have pt:=(dY (pN bs) (cA (cY bs))).plain;have H:bD (pN bs) (cA (cY bs)) = .val (.slice none 0 0)∨bD (pN bs) (cA (cY bs)) = .tree (pN bs) (pN bs) (cA (cY bs)) false:=by unfold bD;split;exact .inl rfl;exact .inr rfl
  have b:rT k r c w bs=(rR k r c w (cK bs) (dQ bs) (cY bs) && decide (lM k c (cK bs) (dQ bs) (cY bs)=bs)):=by unfold rT;rw [decide_eq_true e,apj W];rfl
  by_cases n:rR k r c w (cK bs) (dQ bs) (cY bs)=true
  ·have A:kW k r c w (cK bs) (dQ bs) (cY bs)=0:=by have:=apj (len:=cK bs) (dep:=dQ bs) (l:=cY bs) W;rw [n] at this;exact of_decide_eq_true this
   have c6:=aw1 k r c w (cK bs) (dQ bs) _ _ D A;rw [n,aBh] at b;rw [n] at I;have X:(lM k c (cK bs) (dQ bs) (cY bs)).length=(wI k c).toNat:=by
    unfold lM;refine afo ?_;obtain ⟨_,_,_,a2,_⟩:=abM A;unfold oW;simp only [aAZ,kV,rP];unfold dI at a2;unfold wI;omega
   have N:aZ (.tree (wI k c).toNat (wI k c).toNat (aL (lM k c (cK bs) (dQ bs) (cY bs))) true) (lM k c (cK bs) (dQ bs) (cY bs)).length (aL (lM k c (cK bs) (dQ bs) (cY bs))++[]):=by rw [X,aBi];exact l7 _ _ _
   have o:rT k r c w bs=true→∀ m,fzT 0 m (.tup [.agg [.val (.int .i64 (cK bs)),.val (.int .i64 (dQ bs)),bD (pN bs) (cA (cY bs))],.val (.int .i64 0)])=some (.tup [abO k r c w bs,aC 0]):=fun h m=>by
    have:=eW (aow (cK bs) (dQ bs) (cY bs)) (bN (.int .i64 0)) 0 m;unfold abO;rw [j,h,if_pos rfl,if_pos rfl];unfold rU at this ⊢;rw [B] at this ⊢;exact this
   have tM:=cH N;generalize AV.tree (wI k c).toNat (wI k c).toNat (aL (lM k c (cK bs) (dQ bs) (cY bs))) true=MV at *
   generalize lM k c (cK bs) (dQ bs) (cY bs)=MB at *
   have a0:=fun (d c:Bool) (m:aF)=>wS (d:=d) (c:=c) (m:=m) N
   have a1:=fun (d c:Bool) (m:aF)=>wS (d:=d) (c:=c) (m:=m) u
   replace D:=Hid.mk D;replace n:=Hid.mk n;replace A:=Hid.mk A;replace e:=Hid.mk e;replace B:=Hid.mk B;replace X:=Hid.mk X;replace N:=Hid.mk N;replace hw:=Hid.mk hw;replace F:=Hid.mk F;replace C:=Hid.mk C;replace V:=Hid.mk V;replace G:=Hid.mk G;replace p:=Hid.mk p;by_cases s:MB=bs
   ·rw [decide_eq_true s] at b;have Y:∀ x y,dR ayS .neq 9 x y (oT MB) (oT bs)=some (.val (.bool false)):=fun x y=>by rw [adn,decide_eq_true s];rfl
    rw [b,if_pos rfl] at j;rw [j];replace o:=Hid.mk (o b);replace b:=Hid.mk b;replace j:=Hid.mk j;replace g:=Hid.mk g;replace s:=Hid.mk s;rcases H with z | z
    all_goals rw [z] at K I c6 o
    all_goals clear pt
    all_goals replace z:=Hid.mk z
    all_goals (
     refine bI Tryz.func117 eQ (h:=?_);unfold Tryz.f117;simp only [↓pre,zah,iU,eQ,aM,a8,simprocAttr,aA,bne]
     (first | refine aH (Q) (by first | rfl | simp only [aA,aD, *]) ?_ | refine aG (Q) (by first | rfl | simp only [aA,aD, *]) (by intro k;first | rfl | simp only [ *,zaa]) ?_);simp only [↓pre,zaj,iU,eQ,simprocAttr,bne,u.len'];(first | refine aH (R) (by first | rfl | simp only [aA,aD, *]) ?_ | refine aG (R) (by first | rfl | simp only [aA,aD, *]) (by intro k;first | rfl | simp only [ *,zaa]) ?_);simp only [↓pre,zaj,eQ,aBa,simprocAttr,bne,dB,U,i,s1];(first | refine aH (O) (by first | rfl | simp only [aD, *]) ?_ | refine aG (O) (by first | rfl | simp only [aD, *]) (by intro k;first | rfl | simp only [ *,zaa]) ?_);simp only [↓pre,zaj,iU,eQ,bE,aM,simprocAttr,bne,U,u.addr',L,S,q,wa]
     refine oN (by kernel_rfl) ?_;simp only [↓pre,zaj,iU,eQ,simprocAttr,bne,aJ];refine dE (by kernel_rfl) ?_;simp only [↓pre,zah,eQ,aBa,simprocAttr,bne,dB,n5,Z,i,s3]
     (first | refine aH (M) (by first | rfl | simp only [aD, *]) ?_ | refine aG (M) (by first | rfl | simp only [aA,aD, *]) (by intro k;first | rfl | simp only [ *,zaa]) ?_);simp only [↓pre,zaj,iU,eQ,simprocAttr,bne];(first | refine aH (T) (by first | rfl | simp only [aA,aD, *]) ?_ | refine aG (T) (by first | rfl | simp only [aA,aD, *]) (by intro k;first | rfl | simp only [ *,zaa]) ?_);simp only [↓pre,zaj,eQ,aBa,simprocAttr,bne,dB,Z,i,s4,f];(first | refine aH (K) (by first | rfl | simp only [aD, *]) ?_ | refine aG (K) (by first | rfl | simp only [aA,aD, *]) (by intro k;first | rfl | simp only [ *,zaa]) ?_);simp only [↓pre,zaj,iU,eQ,aBj,simprocAttr,bne,aJ];(first | refine aH (I) (by first | rfl | simp only [aA,aD, *]) ?_ | refine aG (I) (by first | rfl | simp only [aA,aD, *]) (by intro k;first | rfl | simp only [ *,zaa]) ?_);simp only [↓pre,za,iU,eQ,simprocAttr,bne];(first | refine aH (c6) (by first | rfl | simp only [aA,aD, *]) ?_ | refine aG (c6) (by first | rfl | simp only [aA,aD, *]) (by intro k;first | rfl | simp only [*]) ?_);simp only [↓pre,zaj,iU,eQ,aBd,simprocAttr,bne,aJ,a0,a1,Y]
     exact ⟨0,o.out _⟩
     )
   ·rw [decide_eq_false s] at b;have Y:∀ x y,dR ayS .neq 9 x y (oT MB) (oT bs)=some (.val (.bool true)):=fun x y=>by rw [adn,decide_eq_false s];rfl
    rw [b,if_neg (by decide)] at j;have J:=g 150 j (by decide);rw [j];replace J:=Hid.mk J;replace b:=Hid.mk b;replace j:=Hid.mk j;replace g:=Hid.mk g;replace s:=Hid.mk s;replace o:=Hid.mk o;rcases H with z | z
    all_goals rw [z] at K I c6
    all_goals clear pt
    all_goals replace z:=Hid.mk z
    all_goals (
     refine bI Tryz.func117 eQ (h:=?_);unfold Tryz.f117;simp only [↓pre,zah,iU,eQ,aM,a8,simprocAttr,aA,bne]
     (first | refine aH (Q) (by first | rfl | simp only [aA,aD, *]) ?_ | refine aG (Q) (by first | rfl | simp only [aA,aD, *]) (by intro k;first | rfl | simp only [ *,zaa]) ?_);simp only [↓pre,zaj,iU,eQ,simprocAttr,bne,u.len'];(first | refine aH (R) (by first | rfl | simp only [aA,aD, *]) ?_ | refine aG (R) (by first | rfl | simp only [aA,aD, *]) (by intro k;first | rfl | simp only [ *,zaa]) ?_);simp only [↓pre,zaj,eQ,aBa,simprocAttr,bne,dB,U,i,s1];(first | refine aH (O) (by first | rfl | simp only [aD, *]) ?_ | refine aG (O) (by first | rfl | simp only [aD, *]) (by intro k;first | rfl | simp only [ *,zaa]) ?_);simp only [↓pre,zaj,iU,eQ,bE,aM,simprocAttr,bne,U,u.addr',L,S,q,wa]
     refine oN (by kernel_rfl) ?_;simp only [↓pre,zaj,iU,eQ,simprocAttr,bne,aJ];refine dE (by kernel_rfl) ?_;simp only [↓pre,zah,eQ,aBa,simprocAttr,bne,dB,n5,Z,i,s3]
     (first | refine aH (M) (by first | rfl | simp only [aD, *]) ?_ | refine aG (M) (by first | rfl | simp only [aA,aD, *]) (by intro k;first | rfl | simp only [ *,zaa]) ?_);simp only [↓pre,zaj,iU,eQ,simprocAttr,bne];(first | refine aH (T) (by first | rfl | simp only [aA,aD, *]) ?_ | refine aG (T) (by first | rfl | simp only [aA,aD, *]) (by intro k;first | rfl | simp only [ *,zaa]) ?_);simp only [↓pre,zaj,eQ,aBa,simprocAttr,bne,dB,Z,i,s4,f];(first | refine aH (K) (by first | rfl | simp only [aD, *]) ?_ | refine aG (K) (by first | rfl | simp only [aA,aD, *]) (by intro k;first | rfl | simp only [ *,zaa]) ?_);simp only [↓pre,zaj,iU,eQ,aBj,simprocAttr,bne,aJ];(first | refine aH (I) (by first | rfl | simp only [aA,aD, *]) ?_ | refine aG (I) (by first | rfl | simp only [aA,aD, *]) (by intro k;first | rfl | simp only [ *,zaa]) ?_);simp only [↓pre,za,iU,eQ,simprocAttr,bne];(first | refine aH (c6) (by first | rfl | simp only [aA,aD, *]) ?_ | refine aG (c6) (by first | rfl | simp only [aA,aD, *]) (by intro k;first | rfl | simp only [*]) ?_);simp only [↓pre,zaj,iU,eQ,aBd,simprocAttr,bne,aJ,a0,a1,Y]
     exact ⟨0,J.out _⟩
     )
  ·rw [Bool.not_eq_true] at n;rw [n,Bool.false_and] at b;rw [n] at I;rw [b,if_neg (by decide)] at j;have J:=g 150 j (by decide);rw [j];replace J:=Hid.mk J;replace b:=Hid.mk b;replace j:=Hid.mk j;replace g:=Hid.mk g;replace D:=Hid.mk D;replace n:=Hid.mk n;replace e:=Hid.mk e;replace B:=Hid.mk B;replace hw:=Hid.mk hw;replace F:=Hid.mk F;replace C:=Hid.mk C;replace V:=Hid.mk V;replace G:=Hid.mk G;replace p:=Hid.mk p;rcases H with z | z
   all_goals rw [z] at K I
   all_goals clear pt
   all_goals replace z:=Hid.mk z
   all_goals (
    refine bI Tryz.func117 eQ (h:=?_);unfold Tryz.f117;simp only [↓pre,zah,iU,eQ,aM,a8,simprocAttr,aA,bne]
    (first | refine aH (Q) (by first | rfl | simp only [aA,aD, *]) ?_ | refine aG (Q) (by first | rfl | simp only [aA,aD, *]) (by intro k;first | rfl | simp only [ *,zaa]) ?_);simp only [↓pre,zaj,iU,eQ,simprocAttr,bne,u.len'];(first | refine aH (R) (by first | rfl | simp only [aA,aD, *]) ?_ | refine aG (R) (by first | rfl | simp only [aA,aD, *]) (by intro k;first | rfl | simp only [ *,zaa]) ?_);simp only [↓pre,zaj,eQ,aBa,simprocAttr,bne,dB,U,i,s1];(first | refine aH (O) (by first | rfl | simp only [aD, *]) ?_ | refine aG (O) (by first | rfl | simp only [aD, *]) (by intro k;first | rfl | simp only [ *,zaa]) ?_);simp only [↓pre,zaj,iU,eQ,bE,aM,simprocAttr,bne,U,u.addr',L,S,q,wa]
    refine oN (by kernel_rfl) ?_;simp only [↓pre,zaj,iU,eQ,simprocAttr,bne,aJ];refine dE (by kernel_rfl) ?_;simp only [↓pre,zah,eQ,aBa,simprocAttr,bne,dB,n5,Z,i,s3]
    (first | refine aH (M) (by first | rfl | simp only [aD, *]) ?_ | refine aG (M) (by first | rfl | simp only [aA,aD, *]) (by intro k;first | rfl | simp only [ *,zaa]) ?_);simp only [↓pre,zaj,iU,eQ,simprocAttr,bne];(first | refine aH (T) (by first | rfl | simp only [aA,aD, *]) ?_ | refine aG (T) (by first | rfl | simp only [aA,aD, *]) (by intro k;first | rfl | simp only [ *,zaa]) ?_);simp only [↓pre,zaj,eQ,aBa,simprocAttr,bne,dB,Z,i,s4,f];(first | refine aH (K) (by first | rfl | simp only [aD, *]) ?_ | refine aG (K) (by first | rfl | simp only [aA,aD, *]) (by intro k;first | rfl | simp only [ *,zaa]) ?_);simp only [↓pre,zaj,iU,eQ,aBj,simprocAttr,bne,aJ];(first | refine aH (I) (by first | rfl | simp only [aA,aD, *]) ?_ | refine aG (I) (by first | rfl | simp only [aA,aD, *]) (by intro k;first | rfl | simp only [ *,zaa]) ?_);simp only [↓pre,zaj,iU,eQ,aBd,simprocAttr,bne,aJ]
    exact ⟨0,J.out _⟩
    )
 ·have f:dI k c < ((pN bs:Nat):Int):=by unfold dI;unfold wI at G;omega
  have b:rT k r c w bs=false:=by unfold rT;rw [decide_eq_false e];rfl
  rw [b,if_neg (by decide)] at j;have J:=g 150 j (by decide);rw [j];replace J:=Hid.mk J;replace b:=Hid.mk b;replace j:=Hid.mk j;replace g:=Hid.mk g;replace e:=Hid.mk e;replace hw:=Hid.mk hw;replace F:=Hid.mk F;replace C:=Hid.mk C;replace V:=Hid.mk V;replace G:=Hid.mk G;replace p:=Hid.mk p;refine bI Tryz.func117 eQ (h:=?_);unfold Tryz.f117;simp only [↓pre,zah,iU,eQ,aM,a8,simprocAttr,aA,bne]
  (first | refine aH (Q) (by first | rfl | simp only [aA,aD, *]) ?_ | refine aG (Q) (by first | rfl | simp only [aA,aD, *]) (by intro k;first | rfl | simp only [ *,zaa]) ?_);simp only [↓pre,zaj,iU,eQ,simprocAttr,bne,u.len'];(first | refine aH (R) (by first | rfl | simp only [aA,aD, *]) ?_ | refine aG (R) (by first | rfl | simp only [aA,aD, *]) (by intro k;first | rfl | simp only [ *,zaa]) ?_);simp only [↓pre,zaj,eQ,aBa,simprocAttr,bne,dB,U,i,s1];(first | refine aH (O) (by first | rfl | simp only [aD, *]) ?_ | refine aG (O) (by first | rfl | simp only [aD, *]) (by intro k;first | rfl | simp only [ *,zaa]) ?_);simp only [↓pre,zaj,iU,eQ,bE,aM,simprocAttr,bne,U,u.addr',L,S,q,wa]
  refine oN (by kernel_rfl) ?_;simp only [↓pre,zaj,iU,eQ,simprocAttr,bne,aJ];refine dE (by kernel_rfl) ?_;simp only [↓pre,zah,eQ,aBa,simprocAttr,bne,dB,n5,Z,i,s3]
  (first | refine aH (M) (by first | rfl | simp only [aD, *]) ?_ | refine aG (M) (by first | rfl | simp only [aA,aD, *]) (by intro k;first | rfl | simp only [ *,zaa]) ?_);simp only [↓pre,zaj,iU,eQ,simprocAttr,bne];(first | refine aH (T) (by first | rfl | simp only [aA,aD, *]) ?_ | refine aG (T) (by first | rfl | simp only [aA,aD, *]) (by intro k;first | rfl | simp only [ *,zaa]) ?_);simp only [↓pre,zaj,iU,eQ,aBd,simprocAttr,bne,aJ,f]
  exact ⟨0,J.out _⟩
theorem aw4 (k r c w:Int) (I:bG k r c w=true) (v:AV) (bs:List UInt8) (x:List AV) (z:aZ v bs.length (aL bs++x)) (M:(bs.length:Int)=wI k c) (n:Int):aR ayS 189 [aA k r c w,v,aC n] ⟨abT k c w bs n,[]⟩:=by
 refine d6 ?_;have j:=nA k r c w;have o:=sS k r c w I;have A:=abp k r c w I;rw [I] at j;rw [←M] at o;have O:=g9 I;have t:=sQ O.1 O.2;have hp:=z.plain;unfold abT rW;by_cases P:n < 1∨lI k c < n
 ·rw [if_pos P,if_neg (by decide)];have p:=fun m=>eW (bN (.slice none 0 0)) (bN (.int .i64 20)) 1 m
  replace p:=Hid.mk p;replace t:=Hid.mk t;by_cases F:n < 1
  ·refine bI Tryz.func189 aB (h:=?_);unfold Tryz.f189;simp only [↓pre,zab,mQ,simprocAttr,aA]
   (first | refine aH (j) (by first | rfl | simp only [aA,aD, *]) ?_ | refine aG (j) (by first | rfl | simp only [aA,aD, *]) (by intro k;first | rfl | simp only [ *,zaa]) ?_);simp only [↓pre,zag,mQ,simprocAttr,z.len'];(first | refine aH (o) (by first | rfl | simp only [aA,aD, *]) ?_ | refine aG (o) (by first | rfl | simp only [aA,aD, *]) (by intro k;first | rfl | simp only [ *,zaa]) ?_);simp only [↓pre,zad,simprocAttr,F]
   exact ⟨1,p.out _⟩
  ·have E:lI k c < n:=by omega
   refine bI Tryz.func189 aB (h:=?_);unfold Tryz.f189;simp only [↓pre,zab,mQ,simprocAttr,aA]
   (first | refine aH (j) (by first | rfl | simp only [aA,aD, *]) ?_ | refine aG (j) (by first | rfl | simp only [aA,aD, *]) (by intro k;first | rfl | simp only [ *,zaa]) ?_);simp only [↓pre,zag,mQ,simprocAttr,z.len'];(first | refine aH (o) (by first | rfl | simp only [aA,aD, *]) ?_ | refine aG (o) (by first | rfl | simp only [aA,aD, *]) (by intro k;first | rfl | simp only [ *,zaa]) ?_);simp only [↓pre,zad,mQ,simprocAttr,F];(first | refine aH (A) (by first | rfl | simp only [aA,aD, *]) ?_ | refine aG (A) (by first | rfl | simp only [aA,aD, *]) (by intro k;first | rfl | simp only [ *,zaa]) ?_);simp only [↓pre,zad,simprocAttr,E]
   exact ⟨1,p.out _⟩
 ·rw [if_neg P];have F:¬ n < 1:=by omega
  have E:¬ lI k c < n:=by omega
  obtain ⟨N,R⟩:∃ N:Nat,n=(N:Int):=⟨n.toNat,by omega⟩
  subst R;rw [aA8];have Q:6*N≤bs.length:=by unfold wI at M;unfold lI at E;omega
  have S:bs.length≤768:=by unfold wI at M;omega
  have H:=apf v bs x N z Q (by omega);have e:(dP bs N).length=N:=abN _ _;have f:=dY N (cA (dP bs N));have q:qR (bD N (cA (dP bs N))) (dP bs N):=⟨[],by rw [aBi,e];exact f⟩
  have B:=ape k r c w _ _ q (by omega);have D:(pS k c (dP bs N)).length=(wI k c).toNat:=by
   unfold pS;refine afo ?_;rw [rP,e];omega
  have s:aZ (.tree (wI k c).toNat (wI k c).toNat (aL (pS k c (dP bs N))) true) (pS k c (dP bs N)).length (aL (pS k c (dP bs N))++[]):=by rw [D,aBi];exact l7 _ _ _
  have i:=fun m=>eW (kT f) (bN (.int .i64 0)) 1 m
  have p:=fun m=>eW (bN (.slice none 0 0)) (bN (.int .i64 150)) 1 m
  have W:=f.plain;have st:=cH f;have u:=fun (a:kF w (dP bs N)=true)=>aph _ _ q (by omega) (fun x T=>by
   have:=abU (aAr.1 a x T);have:=jA.1 I;omega)
  rw [e] at u;have l:=dY (N*6) (aL (dO (dP bs N)));have J:=api k r c w I (bD (N*6) (aL (dO (dP bs N)))) (dO (dP bs N)) [] (by rw [rP,e,aBi];exact l) (by rw [rP,e];omega);rw [show pQ (dO (dP bs N)) (wI k c).toNat=pS k c (dP bs N) from rfl] at J;have V:=l.plain;have Y:=cH l;have Z:=cH s;generalize AV.tree (wI k c).toNat (wI k c).toNat (aL (pS k c (dP bs N))) true=X at *
  generalize bD (N*6) (aL (dO (dP bs N)))=TT at *
  generalize bD N (cA (dP bs N))=U at *
  generalize pS k c (dP bs N)=G at *
  have K:=fun (d c:Bool) (m:aF)=>wS (d:=d) (c:=c) (m:=m) s
  have L:=fun (d c:Bool) (m:aF)=>wS (d:=d) (c:=c) (m:=m) z
  replace i:=Hid.mk i;replace p:=Hid.mk p;replace e:=Hid.mk e;replace f:=Hid.mk f;replace t:=Hid.mk t;replace q:=Hid.mk q;replace P:=Hid.mk P;replace Q:=Hid.mk Q;replace D:=Hid.mk D;replace s:=Hid.mk s;replace l:=Hid.mk l;replace O:=Hid.mk O;replace M:=Hid.mk M;by_cases a:kF w (dP bs N)=true
  ·have u:=u a;rw [a] at B;by_cases b:G=bs
   ·rw [show (if kF w (dP bs N)=true∧G=bs then (0:Int) else 150)=0 from if_pos ⟨a,b⟩,if_pos rfl];have C:∀ x y,dR ayS .neq 9 x y (oT G) (oT bs)=some (.val (.bool false)):=fun x y=>by rw [adn,decide_eq_true b];rfl
    replace a:=Hid.mk a;replace b:=Hid.mk b;refine bI Tryz.func189 aB (h:=?_);unfold Tryz.f189;simp only [↓pre,zab,mQ,simprocAttr,aA]
    (first | refine aH (j) (by first | rfl | simp only [aA,aD, *]) ?_ | refine aG (j) (by first | rfl | simp only [aA,aD, *]) (by intro k;first | rfl | simp only [ *,zaa]) ?_);simp only [↓pre,zag,mQ,simprocAttr,z.len'];(first | refine aH (o) (by first | rfl | simp only [aA,aD, *]) ?_ | refine aG (o) (by first | rfl | simp only [aA,aD, *]) (by intro k;first | rfl | simp only [ *,zaa]) ?_);simp only [↓pre,zad,mQ,simprocAttr,F];(first | refine aH (A) (by first | rfl | simp only [aA,aD, *]) ?_ | refine aG (A) (by first | rfl | simp only [aA,aD, *]) (by intro k;first | rfl | simp only [ *,zaa]) ?_);simp only [↓pre,zad,simprocAttr,E];(first | refine aH (H) (by first | rfl | simp only [aD, *]) ?_ | refine aG (H) (by first | rfl | simp only [aA,aD, *]) (by intro k;first | rfl | simp only [ *,zaa]) ?_);simp only [↓pre,zab,mQ,simprocAttr,st];(first | refine aH (B) (by first | rfl | simp only [aA,aD, *]) ?_ | refine aG (B) (by first | rfl | simp only [aD, *]) (by intro k;first | rfl | simp only [ *,zaa]) ?_);simp only [↓pre,zad,mQ,simprocAttr];(first | refine aH (u) (by first | rfl | simp only [aD, *]) ?_ | refine aG (u) (by first | rfl | simp only [aD, *]) (by intro k;first | rfl | simp only [*]) ?_);simp only [↓pre,zab,simprocAttr];(first | refine aH (J) (by first | rfl | simp only [aA,aD, *]) ?_ | refine aG (J) (by first | rfl | simp only [aD, *]) (by intro k;first | rfl | simp only [*]) ?_);simp only [↓pre,zad,simprocAttr,K,L,C]
    exact ⟨1,i.out _⟩
   ·rw [show (if kF w (dP bs N)=true∧G=bs then (0:Int) else 150)=150 from if_neg (fun h=>b h.2),if_neg (by decide)];have C:∀ x y,dR ayS .neq 9 x y (oT G) (oT bs)=some (.val (.bool true)):=fun x y=>by rw [adn,decide_eq_false b];rfl
    replace a:=Hid.mk a;replace b:=Hid.mk b;refine bI Tryz.func189 aB (h:=?_);unfold Tryz.f189;simp only [↓pre,zab,mQ,simprocAttr,aA]
    (first | refine aH (j) (by first | rfl | simp only [aA,aD, *]) ?_ | refine aG (j) (by first | rfl | simp only [aA,aD, *]) (by intro k;first | rfl | simp only [ *,zaa]) ?_);simp only [↓pre,zag,mQ,simprocAttr,z.len'];(first | refine aH (o) (by first | rfl | simp only [aA,aD, *]) ?_ | refine aG (o) (by first | rfl | simp only [aA,aD, *]) (by intro k;first | rfl | simp only [ *,zaa]) ?_);simp only [↓pre,zad,mQ,simprocAttr,F];(first | refine aH (A) (by first | rfl | simp only [aA,aD, *]) ?_ | refine aG (A) (by first | rfl | simp only [aA,aD, *]) (by intro k;first | rfl | simp only [ *,zaa]) ?_);simp only [↓pre,zad,simprocAttr,E];(first | refine aH (H) (by first | rfl | simp only [aD, *]) ?_ | refine aG (H) (by first | rfl | simp only [aA,aD, *]) (by intro k;first | rfl | simp only [ *,zaa]) ?_);simp only [↓pre,zab,mQ,simprocAttr,st];(first | refine aH (B) (by first | rfl | simp only [aA,aD, *]) ?_ | refine aG (B) (by first | rfl | simp only [aD, *]) (by intro k;first | rfl | simp only [ *,zaa]) ?_);simp only [↓pre,zad,mQ,simprocAttr];(first | refine aH (u) (by first | rfl | simp only [aD, *]) ?_ | refine aG (u) (by first | rfl | simp only [aD, *]) (by intro k;first | rfl | simp only [*]) ?_);simp only [↓pre,zab,simprocAttr];(first | refine aH (J) (by first | rfl | simp only [aA,aD, *]) ?_ | refine aG (J) (by first | rfl | simp only [aD, *]) (by intro k;first | rfl | simp only [*]) ?_);simp only [↓pre,zad,simprocAttr,K,L,C]
    exact ⟨1,p.out _⟩
  ·have g:=Bool.not_eq_true _ ▸ a;rw [show (if kF w (dP bs N)=true∧G=bs then (0:Int) else 150)=150 from if_neg (fun h=>a h.1),if_neg (by decide)];rw [g] at B;replace a:=Hid.mk a;replace g:=Hid.mk g;clear u;refine bI Tryz.func189 aB (h:=?_);unfold Tryz.f189;simp only [↓pre,zab,mQ,simprocAttr,aA]
   (first | refine aH (j) (by first | rfl | simp only [aA,aD, *]) ?_ | refine aG (j) (by first | rfl | simp only [aA,aD, *]) (by intro k;first | rfl | simp only [ *,zaa]) ?_);simp only [↓pre,zag,mQ,simprocAttr,z.len'];(first | refine aH (o) (by first | rfl | simp only [aA,aD, *]) ?_ | refine aG (o) (by first | rfl | simp only [aA,aD, *]) (by intro k;first | rfl | simp only [ *,zaa]) ?_);simp only [↓pre,zad,mQ,simprocAttr,F];(first | refine aH (A) (by first | rfl | simp only [aA,aD, *]) ?_ | refine aG (A) (by first | rfl | simp only [aA,aD, *]) (by intro k;first | rfl | simp only [ *,zaa]) ?_);simp only [↓pre,zad,simprocAttr,E];(first | refine aH (H) (by first | rfl | simp only [aD, *]) ?_ | refine aG (H) (by first | rfl | simp only [aA,aD, *]) (by intro k;first | rfl | simp only [ *,zaa]) ?_);simp only [↓pre,zab,mQ,simprocAttr,st];(first | refine aH (B) (by first | rfl | simp only [aA,aD, *]) ?_ | refine aG (B) (by first | rfl | simp only [aD, *]) (by intro k;first | rfl | simp only [ *,zaa]) ?_);simp only [↓pre,zad,simprocAttr]
   exact ⟨1,p.out _⟩
def kH:Nat→Bool:=fun d=>d != 4
theorem aw5 (k r c w:Int) (v:AV) (ps:List bO) (cells:List AV) (n:fV v ps cells):aR ayS 39 [aA k r c w,v] ⟨abP k r c w ps,[]⟩:=by
 refine d6 ?_;have g:=ata k r c w v ps cells n;have F:=yR n.rd;have E:=yS n.rd;have O:=b6 n.rd;have L:=bQ n.rd;have N:=n.rd.plain;have b:i4 k r c w ps≠0→∀ m,fzT 0 m (.tup [.agg [.val (.int .i64 0),.val (.int .i64 0),.val (.slice none 0 0)],.val (.int .i64 0),.val (.int .i64 (i4 k r c w ps))])=some (abP k r c w ps):=fun h m=>by
  unfold abP;rw [if_neg h];exact ac7 (fun x y=>by
   simp only [az4,aBT,or_false] at y;rcases y with rfl | rfl | rfl
   ·exact wW fun c i=>by
     simp only [az4,aBT,or_false] at i;rcases i with rfl | rfl | rfl <;> exact bN _
   ·exact bN _
   ·exact bN _) 0 m
 by_cases i:eJ k r c w ps=0
 ·obtain ⟨C,G⟩:=aoy i;have f:i4 k r c w ps=if gT k r c w ps=0 then 5 else if iZ k r c w ps 2 (gT k r c w ps) < k.toNat then 5 else mX k r c w (fY k r c w ps):=by unfold i4;rw [if_pos i]
  have l:=at5 k r c w v ps cells n i;rw [i] at g;rw [show (j3 k r c w ps).getD 0 0=gT k r c w ps from rfl,show (j3 k r c w ps).getD 1 0=aox k r c w ps from rfl] at l;generalize aox k r c w ps=M at *
  have o:=aoz i;have a:=ait k r c w 2 (gT k r c w ps) v ps cells n C G;have e:i4 k r c w ps=0→abP k r c w ps = .tup [rU (cK (fY k r c w ps)) (dQ (fY k r c w ps)) (cY (fY k r c w ps)),aC (gT k r c w ps),aC 0]:=fun h=>by unfold abP;rw [if_pos h]
  have A:=aoA (ps:=ps) C;have s:fY k r c w ps=mE k r c w ps 2 (gT k r c w ps) k.toNat:=rfl;unfold qQ at a;rw [←s] at a;clear s;generalize gT k r c w ps=W at *
  generalize fY k r c w ps=D at *
  by_cases u:W=0
  ·subst u;rw [if_pos rfl] at f;have b:=b (by rw [f];decide);rw [f] at b;replace b:=Hid.mk b;replace f:=Hid.mk f;clear a o e;refine bI Tryz.func39 kH (h:=?_);unfold Tryz.f39;simp only [↓pre,zah,mP,kH,aM,a8,simprocAttr,aA,bne]
   (first | refine aH (g) (by first | rfl | simp only [aD, *]) ?_ | refine aG (g) (by first | rfl | simp only [aA,aD, *]) (by intro k;first | rfl | simp only [ *,zaa]) ?_);simp only [↓pre,zaj,mP,kH,simprocAttr,bne];(first | refine aH (l) (by first | rfl | simp only [aD, *]) ?_ | refine aG (l) (by first | rfl | simp only [aA,aD, *]) (by intro k;first | rfl | simp only [ *,zaa]) ?_);simp only [↓pre,zaj,mP,kH,simprocAttr,bne,aJ]
   exact ⟨0,b.out _⟩
  ·rw [if_neg u] at f;clear o;by_cases j:iZ k r c w ps 2 W < k.toNat
   ·rw [if_pos j] at f a;have b:=b (by rw [f];decide);rw [f] at b;replace b:=Hid.mk b;replace f:=Hid.mk f;clear e;simp only [aN] at a;refine bI Tryz.func39 kH (h:=?_);unfold Tryz.f39;simp only [↓pre,zah,mP,kH,aM,a8,simprocAttr,aA,bne]
    (first | refine aH (g) (by first | rfl | simp only [aD, *]) ?_ | refine aG (g) (by first | rfl | simp only [aA,aD, *]) (by intro k;first | rfl | simp only [ *,zaa]) ?_);simp only [↓pre,zaj,mP,kH,simprocAttr,bne];(first | refine aH (l) (by first | rfl | simp only [aD, *]) ?_ | refine aG (l) (by first | rfl | simp only [aA,aD, *]) (by intro k;first | rfl | simp only [ *,zaa]) ?_);simp only [↓pre,zaj,mP,kH,simprocAttr,bne,u];(first | refine aH (a) (by first | rfl | simp only [aD, *]) ?_ | refine aG (a) (by first | rfl | simp only [aA,aD, *]) (by intro k;first | rfl | simp only [ *,zaa]) ?_);simp only [↓pre,zaj,mP,kH,simprocAttr,bne,aJ]
    exact ⟨0,b.out _⟩
   ·rw [if_neg j] at f a;have d:=aw3 k r c w C (bD (k.toNat*c.toNat) (aL D)) D [] (aij D _ A) (by rw [A];unfold wI;have:=jA.1 C;rw [aCd,aB0 (by omega),aB0 (by omega)]);unfold abO at d;have J:=(dY (k.toNat*c.toNat) (aL D)).plain;rw [←f] at d;replace j:=Hid.mk j;by_cases z:i4 k r c w ps=0
    ·rw [z,if_pos rfl] at d;have e:=e z;have p:=fun m=>ac7 (fun x (y:x∈[rU (cK D) (dQ D) (cY D),aC W,aC 0])=>by
      simp only [az4,aBT,or_false] at y;rcases y with rfl | rfl | rfl
      ·exact aow _ _ _
      ·exact bN _
      ·exact bN _) 0 m
     rw [←e] at p;unfold rU at d;rw [e] at p;unfold rU at p;rw [e];unfold rU;replace e:=Hid.mk e;replace f:=Hid.mk f;replace b:=Hid.mk b;generalize cK D=K at *
     generalize dQ D=H at *
     generalize cY D=q at *
     have t:bD q.length (cA q) = .val (.slice none 0 0)∨bD q.length (cA q) = .tree q.length q.length (cA q) false:=by unfold bD;split;exact .inl rfl;exact .inr rfl
     rcases t with B | B
     all_goals rw [B] at d p ⊢
     all_goals replace B:=Hid.mk B
     all_goals replace p:=Hid.mk p
     all_goals (
      refine bI Tryz.func39 kH (h:=?_);unfold Tryz.f39;simp only [↓pre,zah,mP,kH,aM,a8,simprocAttr,aA,bne]
      (first | refine aH (g) (by first | rfl | simp only [aD, *]) ?_ | refine aG (g) (by first | rfl | simp only [aA,aD, *]) (by intro k;first | rfl | simp only [ *,zaa]) ?_);simp only [↓pre,zaj,mP,kH,simprocAttr,bne];(first | refine aH (l) (by first | rfl | simp only [aD, *]) ?_ | refine aG (l) (by first | rfl | simp only [aA,aD, *]) (by intro k;first | rfl | simp only [ *,zaa]) ?_);simp only [↓pre,zaj,mP,kH,simprocAttr,bne,u];(first | refine aH (a) (by first | rfl | simp only [aD, *]) ?_ | refine aG (a) (by first | rfl | simp only [aA,aD, *]) (by intro k;first | rfl | simp only [ *,zaa]) ?_);simp only [↓pre,zaj,mP,kH,sJ,simprocAttr,bne];(first | refine aH (d) (by first | rfl | simp only [aD, *]) ?_ | refine aG (d) (by first | rfl | simp only [aA,aD, *]) (by intro k;first | rfl | simp only [ *,zaa]) ?_);simp only [↓pre,zaj,mP,kH,aM,aBd,simprocAttr,bne,aJ]
      exact ⟨0,p.out _⟩
     )
    ·rw [if_neg z] at d;have b:=b z;replace b:=Hid.mk b;replace f:=Hid.mk f;replace e:=Hid.mk e;generalize i4 k r c w ps=I at *
     unfold oX aN at d;refine bI Tryz.func39 kH (h:=?_);unfold Tryz.f39;simp only [↓pre,zah,mP,kH,aM,a8,simprocAttr,aA,bne]
     (first | refine aH (g) (by first | rfl | simp only [aD, *]) ?_ | refine aG (g) (by first | rfl | simp only [aA,aD, *]) (by intro k;first | rfl | simp only [ *,zaa]) ?_);simp only [↓pre,zaj,mP,kH,simprocAttr,bne];(first | refine aH (l) (by first | rfl | simp only [aD, *]) ?_ | refine aG (l) (by first | rfl | simp only [aA,aD, *]) (by intro k;first | rfl | simp only [ *,zaa]) ?_);simp only [↓pre,zaj,mP,kH,simprocAttr,bne,u];(first | refine aH (a) (by first | rfl | simp only [aD, *]) ?_ | refine aG (a) (by first | rfl | simp only [aA,aD, *]) (by intro k;first | rfl | simp only [ *,zaa]) ?_);simp only [↓pre,zaj,mP,kH,sJ,simprocAttr,bne];(first | refine aH (d) (by first | rfl | simp only [aD, *]) ?_ | refine aG (d) (by first | rfl | simp only [aA,aD, *]) (by intro k;first | rfl | simp only [ *,zaa]) ?_);simp only [↓pre,zaj,mP,kH,aM,aBd,simprocAttr,bne,aJ,z]
     exact ⟨0,b.out _⟩
 ·have f:i4 k r c w ps=eJ k r c w ps:=by unfold i4;rw [if_neg i]
  have b:=b (by rw [f];exact i);rw [f] at b;replace b:=Hid.mk b;replace f:=Hid.mk f;refine bI Tryz.func39 kH (h:=?_);unfold Tryz.f39;simp only [↓pre,zah,mP,kH,aM,a8,simprocAttr,aA,bne]
  (first | refine aH (g) (by first | rfl | simp only [aD, *]) ?_ | refine aG (g) (by first | rfl | simp only [aA,aD, *]) (by intro k;first | rfl | simp only [ *,zaa]) ?_);simp only [↓pre,zaj,mP,kH,simprocAttr,bne,aJ,i]
  exact ⟨0,b.out _⟩
theorem aix (k r c w:Int) (v:AV) (L:List (List UInt8)) (cells:List AV) (g:fQ v L cells):aR ayS 122 [dD k r c w v] ⟨aC (fA k r c w L),[]⟩:=by
 have hp:=g.rd.plain;have P:=b6 g.rd;have ho:=bQ g.rd;have u:=nA k r c w;unfold fA dD;cases H:bG k r c w with
 | false =>
  rw [H] at u;simp only [Bool.false_eq_true,if_false];refine aX Tryz.func122 aB (h:=?_);unfold Tryz.f122;simp only [↓pre,zab,uE,simprocAttr,P]
  (first | refine aH (u) (by first | rfl | simp only [aA,aD, *]) ?_ | refine aG (u) (by first | rfl | simp only [aA,aD, *]) (by intro k;first | rfl | simp only [ *,zaa]) ?_);simp only [↓pre,zab,aV,iS,simprocAttr]
 | true =>
  rw [H] at u;simp only [if_true];have p:=gX H;have z:=ail H;have s:=qI k r c w H;have hs:=vE k r c w H;have w1:azv.wrap ((k+r)*w)=(k+r)*w:=eD (by omega) (by omega);have V:azv.wrap ((k+r)*w*2)=(k+r)*w*2:=eD (by omega) (by omega);by_cases y:(L.length:Int)=(k+r)*w*2
  ·generalize f:(if tE k r c w L=true then (0:Int) else 90)=E;have B:∀ b:List UInt8,b∈L→eV k r c b.length=false→E=90:=fun b z h=>by
    rw [←f,if_neg];intro t;unfold tE at t;rw [Bool.and_eq_true,aAr] at t;rw [t.2 b z] at h;cases h
   have o:(∀ b∈L,eV k r c b.length=true)→E=0:=fun h=>by
    rw [←f,if_pos];unfold tE;rw [decide_eq_true y,aBh,aAr];exact h
   have A:∀ n:Nat,eV k r c n=(decide ((n:Int)=0) || decide ((n:Int)=d8 k r c)):=fun _=>rfl
   obtain ⟨N,O⟩:∃ N:Nat,L.length=N:=⟨_,rfl⟩
   have a0:N≤8192:=by omega
   replace p:=Hid.mk p;replace z:=Hid.mk z;replace f:=Hid.mk f;replace B:=Hid.mk B;replace o:=Hid.mk o;replace O:=Hid.mk O;have Z:=O.out;refine aX Tryz.func122 aB (h:=?_);unfold Tryz.f122;simp only [↓pre,zab,uE,simprocAttr,P]
   (first | refine aH (u) (by first | rfl | simp only [aA,aD, *]) ?_ | refine aG (u) (by first | rfl | simp only [aA,aD, *]) (by intro k;first | rfl | simp only [ *,zaa]) ?_);simp only [↓pre,zag,uE,simprocAttr,g.rd.len',y];(first | refine aH (s) (by first | rfl | simp only [aA,aD, *]) ?_ | refine aG (s) (by first | rfl | simp only [aA,aD, *]) (by intro k;first | rfl | simp only [ *,zaa]) ?_);simp only [↓pre,zad,uE,simprocAttr,w1,V]
   rw [bS];refine bU (fun q e m=>∃ i,q+i=N∧e 1 = .tptr 0 [aC k,aC r,aC c,aC w,v]∧e 3=aC (i:Nat)∧Hid (∀ j b,j < i→L[j]? = some b→eV k r c b.length=true)) N ⟨0,by omega,rfl,rfl,⟨fun j b h=>by omega⟩⟩ ?_;rintro q e m ⟨i,G,J,I,W⟩;replace G:=Hid.mk G;by_cases X:i < N
   ·have d:((i:Nat):Int) < (k+r)*w*2:=by omega
    have U:=bY (n:=i) (by omega);obtain ⟨b,F⟩:∃ b,L[i]? = some b:=⟨_,azj (by omega)⟩
    obtain ⟨a,x,T,l⟩:=g.at_ i b F;have D:i < L.length:=by omega
    have fa:=b6 l;have oa:=bQ l;have step:eV k r c b.length=true→∀ j M,j < i+1→L[j]? = some M→eV k r c M.length=true:=fun h j M R C=>by
     by_cases S:j=i
     ·subst S;rw [F] at C;cases C;exact h
     ·exact W.out j M (by omega) C
    replace step:=Hid.mk step;by_cases K:(b.length:Int)=0
    ·simp only [↓pre,zag,uE,simprocAttr,g.rd.len',J,I,y,d,g.rd.addr',D,T,l.len',K,U];exact ⟨q - 1,by have:=G.out;omega,i+1,by have:=G.out;omega,rfl,⟨step.out (by rw [A,decide_eq_true K];rfl)⟩⟩
    ·by_cases t:(b.length:Int)=d8 k r c
     ·have hz:¬ d8 k r c=0:=fun h=>K (t.trans h)
      simp only [↓pre,zag,uE,simprocAttr,g.rd.len',J,I,y,d,g.rd.addr',D,T,l.len',t,hz]
      (first | refine aH (hs) (by first | rfl | simp only [aA,aD, *]) ?_ | refine aG (hs) (by first | rfl | simp only [aA,aD, *]) (by intro k;first | rfl | simp only [ *,zaa]) ?_);simp only [↓pre,zad,simprocAttr,J,I,U]
      exact ⟨q - 1,by have:=G.out;omega,i+1,by have:=G.out;omega,rfl,⟨step.out (by rw [A,decide_eq_true t,Bool.or_true])⟩⟩
     ·have Q:=B.out b (az5 F) (by rw [A,decide_eq_false K,decide_eq_false t];rfl);subst Q;simp only [↓pre,zag,uE,simprocAttr,g.rd.len',J,I,y,d,g.rd.addr',D,T,l.len',K]
      (first | refine aH (hs) (by first | rfl | simp only [aA,aD, *]) ?_ | refine aG (hs) (by first | rfl | simp only [aA,aD, *]) (by intro k;first | rfl | simp only [ *,zaa]) ?_);simp only [↓pre,zad,simprocAttr,t]
   ·have d:¬ ((i:Nat):Int) < (k+r)*w*2:=by omega
    have Q:=o.out fun b z=>by
     obtain ⟨j,R⟩:=List.getElem?_of_mem z;have:=(ay5.1 R).1;exact W.out j b (by omega) R
    subst Q;simp only [↓pre,zag,uE,simprocAttr,g.rd.len',J,I,y,d]
  ·have Y:tE k r c w L=false:=by unfold tE;rw [decide_eq_false y];rfl
   rw [Y,if_neg (by decide)];replace p:=Hid.mk p;replace z:=Hid.mk z;refine aX Tryz.func122 aB (h:=?_);unfold Tryz.f122;simp only [↓pre,zab,uE,simprocAttr,P]
   (first | refine aH (u) (by first | rfl | simp only [aA,aD, *]) ?_ | refine aG (u) (by first | rfl | simp only [aA,aD, *]) (by intro k;first | rfl | simp only [ *,zaa]) ?_);simp only [↓pre,zag,uE,simprocAttr,g.rd.len'];(first | refine aH (s) (by first | rfl | simp only [aA,aD, *]) ?_ | refine aG (s) (by first | rfl | simp only [aA,aD, *]) (by intro k;first | rfl | simp only [ *,zaa]) ?_);simp only [↓pre,zad,uE,simprocAttr,w1,V,y]
theorem aw6 (k r c w:Int) (g:bG k r c w=true) (d a s W:Nat) (f:w=(W:Int)) (y:((d:Nat):Int) < k+r) (v:a < W) (hs:s≤1):aR ayS 181 [aA k r c w,aC (d:Nat),aC (a:Nat),aC (s:Nat)] ⟨aC (((d*W+a)*2+s:Nat):Int),[]⟩:=by
 have i:=qI k r c w g;have e:=gX g;have b:=jA.1 g;have x:d*W≤16*256:=aBZ (by omega) (by omega);have t:¬ ((d:Nat):Int) < 0:=by omega
 have o:¬ k+r≤((d:Nat):Int):=by omega
 have q:¬ ((a:Nat):Int) < 0:=by omega
 have u:¬ w≤((a:Nat):Int):=by omega
 have p:¬ ((s:Nat):Int) < 0:=by omega
 have m:¬ (1:Int) < ((s:Nat):Int):=by omega
 have w1:azv.wrap (((d:Nat):Int)*w)=((d*W:Nat):Int):=by rw [f,show ((d:Nat):Int)*(W:Int)=((d*W:Nat):Int) by simp];exact cD (by omega)
 have n:azv.wrap (((d*W:Nat):Int)+((a:Nat):Int))=((d*W+a:Nat):Int):=by rw [show ((d*W:Nat):Int)+(a:Int)=((d*W+a:Nat):Int) by simp];exact cD (by omega)
 have l:azv.wrap (((d*W+a:Nat):Int)*2)=(((d*W+a)*2:Nat):Int):=by rw [show ((d*W+a:Nat):Int)*2=(((d*W+a)*2:Nat):Int) by simp];exact cD (by omega)
 have j:azv.wrap ((((d*W+a)*2:Nat):Int)+((s:Nat):Int))=(((d*W+a)*2+s:Nat):Int):=by rw [show ((((d*W+a)*2:Nat):Int)+((s:Nat):Int))=(((d*W+a)*2+s:Nat):Int) by simp];exact cD (by omega)
 replace e:=Hid.mk e;replace b:=Hid.mk b;replace f:=Hid.mk f;refine aX Tryz.func181 aB (h:=?_);unfold Tryz.f181;simp only [↓pre,zab,amm,simprocAttr,aA,t]
 (first | refine aH (i) (by first | rfl | simp only [aA,aD, *]) ?_ | refine aG (i) (by first | rfl | simp only [aA,aD, *]) (by intro k;first | rfl | simp only [ *,zaa]) ?_);simp only [↓pre,zad,amm,simprocAttr,o,q,u,p,m,w1,n,l,j]
def qX (cells:List AV) (W a n:Nat):List AV:=(aAm n).flatMap fun i=>[cells.getD ((i*W+a)*2) aN,cells.getD ((i*W+a)*2+1) aN]
theorem aiy (cells:List AV) (W a n:Nat):qX cells W a (n+1)=qX cells W a n++[cells.getD ((n*W+a)*2) aN,cells.getD ((n*W+a)*2+1) aN]:=by
 unfold qX;rw [List.range_succ,List.flatMap_append];rfl
theorem aiz (cells:List AV) (W a:Nat):∀ n,(qX cells W a n).length=n*2
 | 0=>rfl
 | n+1=>by rw [aiy,aAZ,aiz cells W a n];simp;omega
theorem apk (cells:List AV) (W a:Nat):∀ (n i:Nat),i < n→(qX cells W a n)[i*2]? = some (cells.getD ((i*W+a)*2) aN)∧(qX cells W a n)[i*2+1]? = some (cells.getD ((i*W+a)*2+1) aN)
 | n+1,i,h=>by
  have b:=aiz cells W a n;rw [aiy];by_cases e:i < n
  ·obtain ⟨d,c⟩:=apk cells W a n i e;exact ⟨by rw [azd (by omega)];exact d,by rw [azd (by omega)];exact c⟩
  ·obtain rfl:i=n:=by omega
   exact ⟨by rw [aze (by omega),b,Nat.sub_self];rfl,by rw [aze (by omega),b,show i*2+1 - i*2=1 by omega];rfl⟩
theorem aw7 {k r c w row:Int} {L:List (List UInt8)} (b:kG k r c w L row=0):bG k r c w=true∧(∃ W a N:Nat,w=(W:Int)∧row=(a:Int)∧k+r=(N:Int)∧a < W∧eI k r w L row=tF L W a N∧(k+r).toNat=N∧∀ i,i < N→(i*W+a)*2+2≤L.length):=by
 have l:fA k r c w L=0:=by
  unfold kG at b;split at b
  ·assumption
  ·assumption
 obtain ⟨d,o,j⟩:=abR l;have m:=gX d;have n:=jA.1 d;have h:0≤row∧row < w:=by
  unfold kG at b;rw [if_pos l] at b;split at b
  ·omega
  ·omega
 obtain ⟨N,f⟩:∃ N:Nat,k+r=(N:Int):=⟨(k+r).toNat,by omega⟩
 obtain ⟨W,g⟩:∃ W:Nat,w=(W:Int):=⟨w.toNat,by omega⟩
 obtain ⟨a,e⟩:∃ a:Nat,row=(a:Int):=⟨row.toNat,by omega⟩
 refine ⟨d,W,a,N,g,e,f,by omega, ?_,by omega,fun i hi=>aoE g f (row:=a) (by omega) hi o⟩;unfold eI;rw [show (k+r).toNat=N by omega,show w.toNat=W by omega,show row.toNat=a by omega]
theorem abV {v:AV} {L:List (List UInt8)} {cells:List AV} (f:fQ v L cells) {j:Nat} (c:j < L.length):∃ x,cells[j]? = some (cells.getD j aN)∧aZ (cells.getD j aN) (L.getD j []).length (aL (L.getD j [])++x):=by
 have d:L[j]? = some (L.getD j []):=by rw [azp,azj c];rfl
 obtain ⟨a,x,b,e⟩:=f.at_ _ _ d;have:cells.getD j aN=a:=by rw [azp,b];rfl
 rw [this];exact ⟨x,b,e⟩
theorem aw8 {v:AV} {L:List (List UInt8)} {cells:List AV} (d:fQ v L cells) {W a N:Nat} (b:∀ i,i < N→(i*W+a)*2+2≤L.length):fV (bD N (qX cells W a N)) (tF L W a N) (qX cells W a N):=⟨by rw [adj];exact dY _ _,fun i p c=>by
 have hi:i < N:=by have:=(ay5.1 c).1;rw [adj] at this;exact this
 rw [avS hi] at c;cases c;obtain ⟨h,g⟩:=apk cells W a N i hi;have:=b i hi;obtain ⟨x,_,e⟩:=abV d (j:=(i*W+a)*2) (by omega);obtain ⟨y,_,f⟩:=abV d (j:=(i*W+a)*2+1) (by omega);exact ⟨_,_,x,y,h,g,e,f⟩⟩
theorem aiA (k r c w row:Int) (v:AV) (L:List (List UInt8)) (cells:List AV) (o:fQ v L cells) (hR:kG k r c w L row=0):∃ rv cs,aR ayS 102 [dD k r c w v,aC row] ⟨rv,[]⟩∧fV rv (eI k r w L row) cs:=by
 obtain ⟨P,W,a,N,M,V,E,T,C,_,d⟩:=aw7 hR;refine ⟨bD N (qX cells W a N),qX cells W a N, ?_,by rw [C];exact aw8 o d⟩;refine d6 ?_;have hp:=o.rd.plain;have hf:=b6 o.rd;have ho:=bQ o.rd;have l:=qI k r c w P;have p:=gX P;have B:=fun i (hi:i < N)=>aw6 k r c w P i a 0 W M (by omega) T (by omega)
 have b:=aiy cells W a;have F:=aiz cells W a;have A:∀ x∈qX cells W a N,eH x:=fun x u=>by
  unfold qX at u;obtain ⟨i,hi,u⟩:=List.mem_flatMap.1 u;have:=d i (aAw.1 hi);obtain ⟨_,_,h1⟩:=abV o (j:=(i*W+a)*2) (by omega);obtain ⟨_,_,h2⟩:=abV o (j:=(i*W+a)*2+1) (by omega);simp only [az4,aBT,or_false] at u;rcases u with rfl | rfl
  ·exact kT h1
  ·exact kT h2
 have Z:qX cells W a 0=[]:=rfl;rw [E] at l;subst V;generalize J:qX cells W a=RP at *
 unfold dD;replace p:=Hid.mk p;replace d:=Hid.mk d;replace b:=Hid.mk b;replace F:=Hid.mk F;replace B:=Hid.mk B;replace E:=Hid.mk E;replace M:=Hid.mk M;replace C:=Hid.mk C;replace A:=Hid.mk A;replace J:=Hid.mk J;refine bI Tryz.func102 aB (h:=?_);unfold Tryz.f102;simp only [↓pre,zab,acD,simprocAttr,hf];rw [bS];refine bU (fun q e m=>∃ i lv,q+i=N∧e 1=aC (a:Nat)∧e 2 = .tptr 0 [aC k,aC r,aC c,aC w,v]∧e 5=lv∧e 6=aC (i:Nat)∧Hid (cG .var m 131 2 lv i (RP i))) N ⟨0,aN,by omega,rfl,rfl,rfl,rfl,⟨by rw [Z];exact fC⟩⟩ ?_;rintro q e m ⟨i,lv,H,e1,G,e5,K,hJ⟩;replace H:=Hid.mk H;by_cases D:i < N
 ·have g:((i:Nat):Int) < ((N:Nat):Int):=by omega
  have wi:=bY (n:=i) (by have:=p.out;have:=E.out;omega);have u:=d.out i D;have O:=B.out i D;have a0:N≤16:=by have:=p.out;have:=E.out;omega
  have Q:W≤256:=by have:=jA.1 P;have:=M.out;omega
  have a1:i*W≤16*256:=aBZ (by omega) Q;rw [Nat.add_zero] at O;have b:=b.out i;obtain ⟨x0,U,t⟩:=abV o (j:=(i*W+a)*2) (by omega);obtain ⟨x1,Y,s⟩:=abV o (j:=(i*W+a)*2+1) (by omega);have wp:azv.wrap ((((i*W+a)*2:Nat):Int)+1)=(((i*W+a)*2+1:Nat):Int):=bY (by omega);have l0:(i*W+a)*2 < L.length:=by omega
  have l1:(i*W+a)*2+1 < L.length:=by omega
  generalize I:(i*W+a)*2=at_ at *
  generalize cells.getD at_ aN=T0 at *
  generalize cells.getD (at_+1) aN=T1 at *
  have o0:=bQ t;have o1:=bQ s;have k0:=yS t;have k1:=yS s;have c0:=yR t;have c1:=yR s;have R:∀ m,gF ayS m 24 1 [(0,.agg [T0,T1])]=some ⟨.tree 1 1 [T0,T1] true,m,none⟩:=fun m=>zP (el:=131) (sz:=2) (z:=[.val (.slice none 0 0),.val (.slice none 0 0)]) (by kernel_rfl) (by kernel_rfl) (by kernel_rfl) rfl (by simp [j5,adi t,adi s]) (by decide)
  simp only [aC] at O;replace b:=Hid.mk b;replace I:=Hid.mk I;replace u:=Hid.mk u;simp only [↓pre,zab,acD,simprocAttr,G,K]
  (first | refine aH (l) (by first | rfl | simp only [aA,aD, *]) ?_ | refine aG (l) (by first | rfl | simp only [aA,aD, *]) (by intro k;first | rfl | simp only [ *,zaa]) ?_);simp only [↓pre,zad,acD,simprocAttr,e1,G,K,g];(first | refine aH (O) (by first | rfl | simp only [aA,aD, *]) ?_ | refine aG (O) (by first | rfl | simp only [aA,aD, *]) (by intro k;first | rfl | simp only [ *,zaa]) ?_);simp only [↓pre,zag,acD,bE,simprocAttr,G,e5,o.rd.addr',l0,l1,U,Y,wp,↓k0,↓k1,↓c0,↓c1,R,Nat.zero_mul,aBW]
  refine pA (sz:=2) (y:=48) (zl:=[.slice none 0 0,.slice none 0 0]) (by kernel_rfl) hJ.out (by kernel_rfl) (by kernel_rfl) (by kernel_rfl) rfl zQ rfl (by omega) (by omega) ?_;intro S m' X a2;refine dE (by kernel_rfl) ?_;simp only [↓pre,zab,simprocAttr,e1,G,K,wi];refine ⟨q - 1,by have:=H.out;omega,i+1,S,by have:=H.out;omega,rfl,rfl,⟨?_⟩⟩;rw [b.out];exact X
 ·have g:¬ ((i:Nat):Int) < ((N:Nat):Int):=by omega
  have hi:i=N:=by have:=H.out;omega
  subst hi;have f:=fun k=>afc hJ.out A.out k
  replace f:=Hid.mk f;simp only [↓pre,zab,acD,simprocAttr,G,K]
  (first | refine aH (l) (by first | rfl | simp only [aA,aD, *]) ?_ | refine aG (l) (by first | rfl | simp only [aA,aD, *]) (by intro k;first | rfl | simp only [ *,zaa]) ?_);simp only [↓pre,zad,simprocAttr,e5,g]
  exact ⟨1,f.out _⟩
def yX (d0 d1 d2 ve lv sv:AV):AV := .agg [d0,d1,d2,ve,lv,sv]
def afI:AV:=yX (aC 0) (aC 0) aN (aC 0) aN aN
def aiB (k r c w:Int) (L:List (List UInt8)) (row:Int):AV:=if jS k r c w L row=0 then .tup [yX (aC (cK (dC k r c w L row))) (aC (dQ (dC k r c w L row))) (xB (cY (dC k r c w L row))) (aC (gT k r c w (eI k r w L row))) (xB (pU k r c w L row)) (xB (gV k r c w L row)),aC 0] else .tup [afI,aC (jS k r c w L row)]
theorem aiC {a b c d e f:AV} {n:Int} (k:eH a) (h:eH b) (j:eH c) (m:eH d) (l:eH e) (i:eH f):eH (.tup [.agg [a,b,c,d,e,f],.val (.int .i64 n)]):=eW (wW fun x g=>by
 simp only [az4,aBT,or_false] at g;rcases g with rfl | rfl | rfl | rfl | rfl | rfl <;> assumption) (bN _)
theorem aw9 {a b d lv c f:AV} {w n:Int} {m:aF} (h:eH a) (g:eH b) (e:eH c) (i:fzT 1 m lv=some f):fzT 1 m (.tup [.agg [a,b,c,.val (.int .i64 w),c,lv],.val (.int .i64 n)])=some (.tup [.agg [a,b,c,.val (.int .i64 w),c,f],.val (.int .i64 n)]):=by
 rw [j8,dM,aaX,dM,h,aAh,dM,g,aAh,dM,e,aAh,dM,gB,aAh,dM,e,aAh,dM,i,i8];simp [dM,i8,gB]
def gW:Nat→Bool:=fun d=>d != 4 && d != 6 && d != 9 && d != 64 && d != 71
set_option maxHeartbeats 2000000 in
theorem axa (k r c w row:Int) (v:AV) (L:List (List UInt8)) (cells:List AV) (hv:fQ v L cells) (hR:kG k r c w L row=0):aR ayS 107 [dD k r c w v,aC row] ⟨aiB k r c w L row,[]⟩:=by
 refine d6 ?_;have hp:=hv.rd.plain;have hf:=b6 hv.rd;have ho:=bQ hv.rd;obtain ⟨l4,hm⟩:=aao hR;have hE:fA k r c w L=0:=by
  unfold kG at hR;split at hR
  ·assumption
  ·assumption
 obtain ⟨RV,m0,M,O⟩:=aiA k r c w row v L cells hv hR;have s:=aw5 k r c w _ _ _ O;have l0:=O.rd.plain;have l3:=cH O.rd;unfold aiB jS;rw [if_pos hR];unfold pU gV dC xB;generalize eI k r w L row=ps at *
 unfold abP at s;unfold dD at M ⊢;by_cases hC:i4 k r c w ps=0
 ·rw [if_pos hC] at s ⊢;have hD:=afv hC;obtain ⟨c6,f4,k3,i3,c3⟩:=abM hD;obtain ⟨h3,c7,c0⟩:=aoP hD;have K:=dY (cY (fY k r c w ps)).length (cA (cY (fY k r c w ps)));have hw:=g9 hm;have e0:=yE hw.1 hw.2;have f2:=aeS k r c w (cK (fY k r c w ps)) hm c6 (adp h3).2.2;have b3:oS k r c w (cK (fY k r c w ps))=sI k c (cK (fY k r c w ps)):=by unfold oS;rw [if_pos h3]
  have d3:=abp k r c w hm;unfold rU at s;generalize gT k r c w ps=W at *
  generalize dQ (fY k r c w ps)=PD at *
  generalize cK (fY k r c w ps)=PL at *
  generalize cY (fY k r c w ps)=J at *
  have c8:=b6 K;have l2:=bQ K;have k9:=cH K;have g4:=yR K;have h4:=yS K;by_cases H:PD=0
  ·rw [if_pos H,if_pos rfl,if_pos H,if_pos H];rw [H] at s ⊢;replace H:=Hid.mk H;have G:=fun m=>aiC (a:=aC PL) (b:=aC 0) (c:=bD J.length (cA J)) (d:=aC W) (e:=aN) (f:=bD J.length (cA J)) (n:=0) (bN _) (bN _) (kT K) (bN _) (bN _) (kT K) 1 m
   replace G:=Hid.mk G;generalize bD J.length (cA J)=RT at *
   simp only [aC] at s M;replace hD:=Hid.mk hD;replace c3:=Hid.mk c3;replace c7:=Hid.mk c7;replace c0:=Hid.mk c0;replace O:=Hid.mk O;replace hw:=Hid.mk hw;replace e0:=Hid.mk e0;replace hR:=Hid.mk hR;replace b3:=Hid.mk b3;replace hC:=Hid.mk hC;refine bI Tryz.func107 gW (h:=?_);unfold Tryz.f107;simp only [↓pre,zah,i9,kY,gW,aM,a8,simprocAttr,bne,aBS,hf]
   (first | refine aH (M) (by first | rfl | simp only [aD, *]) ?_ | refine aG (M) (by first | rfl | simp only [aD, *]) (by intro k;first | rfl | simp only [*]) ?_);simp only [↓pre,zah,gW,simprocAttr,bne,aBS];(first | refine aH (s) (by first | rfl | simp only [aA,aD, *]) ?_ | refine aG (s) (by first | rfl | simp only [aD, *]) (by intro k;first | rfl | simp only [sq, *]) ?_);simp only [↓pre,zaj,i9,gW,aM,simprocAttr,bne,aBS]
   refine oN (by kernel_rfl) ?_;simp only [↓pre,zaj,i9,kY,gW,simprocAttr,bne,aJ,aBS,c8];refine dE (by kernel_rfl) ?_;simp only [↓pre,zaj,i9,kY,gW,aM,aBj,aBd,simprocAttr,bne,aJ,aBS,c8,↓g4,↓h4];exact ⟨1,G.out _⟩
  ·rw [if_neg H,if_neg H,if_neg H];have g3:PD=1:=by omega
   rw [if_neg H] at c0;have e8:0≤oS k r c w PL∧oS k r c w PL≤40000:=by
    have:=abr (a:=PL) (b:=wI k c) c6 f4 (by unfold wI;omega) (by unfold wI;omega);rw [b3];unfold sI;omega
   have f0:=sQ hw.1 hw.2;have b7:5≤lI k c∧lI k c≤128:=f0;have a9:J.length≤126:=by unfold dI at i3;omega
   have f7:((k.toNat*c.toNat:Nat):Int)=wI k c:=by unfold wI;have:=jA.1 hm;rw [aCd,aB0 (by omega),aB0 (by omega)]
   have X:∀ (i:Nat) (x:bJ),J[i]? = some x→∃ rv cs,aR ayS 102 [dD k r c w v,aC x.1] ⟨rv,[]⟩∧fV rv (eI k r w L x.1) cs∧aR ayS 116 [aA k r c w,rv,.val (.int .u8 1),aC x.2] ⟨qQ k r c w (eI k r w L x.1) 1 x.2,[]⟩:=fun i x hx=>by
    have h1:=c3 x (az5 hx);have h5:=aap (k:=k) (r:=r) (c:=c) hE h1.1;obtain ⟨rv,cs,g1,g2⟩:=aiA k r c w x.1 v L cells hv h5;exact ⟨rv,cs,g1,g2,ait k r c w 1 x.2 rv _ cs g2 hm (aao h5).1⟩
   have Z:=fun (x:bJ) n=>aw4 k r c w hm (bD (k.toNat*c.toNat) (aL (jR k r c w L x))) (jR k r c w L x) [] (aij _ _ (wY _ _ _ _ _ _ _ _)) (by unfold jR;rw [wY];exact f7) n
   have f6:=fun (x:bJ)=>dY (k.toNat*c.toNat) (aL (jR k r c w L x))
   unfold qQ at X;have D:=fun i x hi=>xA J [] i x hi
   rw [aBi] at D;unfold dD at X;have F:=fun t ht=>K.len' (P:=ayS) (t:=t) ht
   have p:=fun t j ht=>K.addr' (P:=ayS) (t:=t) (k:=j) ht
   generalize f8:bD J.length (cA J)=RT at *
   generalize e7:qT k r c w L J (oS k r c w PL)=EE at *
   generalize f1:oB k r c w L J (oS k r c w PL)=RR at *
   rw [←b3] at f2;generalize oS k r c w PL=OS at *
   generalize c5:lI k c=LI at *
   simp only [aC] at s M;have e3:=kT K;generalize a6:(if EE=0 then AV.tup [yX (aC PL) (aC PD) RT (aC W) RT (bD RR.length (cA RR)),aC 0] else AV.tup [afI,aC EE])=i2;replace a6:=Hid.mk a6;replace g3:=Hid.mk g3;replace e7:=Hid.mk e7;replace f1:=Hid.mk f1;replace f8:=Hid.mk f8;replace c5:=Hid.mk c5;replace e8:=Hid.mk e8;replace c3:=Hid.mk c3;replace X:=Hid.mk X;replace Z:=Hid.mk Z;replace f6:=Hid.mk f6;replace D:=Hid.mk D;replace c7:=Hid.mk c7;replace c0:=Hid.mk c0;replace O:=Hid.mk O;replace b7:=Hid.mk b7;replace f0:=Hid.mk f0;replace hw:=Hid.mk hw;replace e0:=Hid.mk e0;replace hD:=Hid.mk hD;replace hR:=Hid.mk hR;replace hC:=Hid.mk hC;replace b3:=Hid.mk b3;replace f7:=Hid.mk f7;replace e3:=Hid.mk e3;replace c6:=Hid.mk c6;replace f4:=Hid.mk f4;replace a9:=Hid.mk a9;refine bI Tryz.func107 gW (h:=?_);unfold Tryz.f107;simp only [↓pre,zah,i9,kY,gW,aM,a8,simprocAttr,bne,aBS,hf]
   (first | refine aH (M) (by first | rfl | simp only [aD, *]) ?_ | refine aG (M) (by first | rfl | simp only [aD, *]) (by intro k;first | rfl | simp only [*]) ?_);simp only [↓pre,zah,gW,simprocAttr,bne,aBS];(first | refine aH (s) (by first | rfl | simp only [aA,aD, *]) ?_ | refine aG (s) (by first | rfl | simp only [aD, *]) (by intro k;first | rfl | simp only [sq, *]) ?_);simp only [↓pre,zaj,i9,gW,aM,simprocAttr,bne,aBS]
   refine oN (by kernel_rfl) ?_;simp only [↓pre,zaj,i9,kY,gW,simprocAttr,bne,aJ,aBS,c8];refine dE (by kernel_rfl) ?_;simp only [↓pre,zaj,i9,kY,gW,aM,aBj,simprocAttr,bne,aJ,aBS,c8,↓g4,↓h4,H]
   (first | refine aH (f2) (by first | rfl | simp only [aA,aD, *]) ?_ | refine aG (f2) (by first | rfl | simp only [aA,aD, *]) (by intro k;first | rfl | simp only [ *,zaa]) ?_);simp only [↓pre,zaj,gW,simprocAttr,bne,aBS]
   rw [bS];refine bU (fun q e m=>∃ i left b4 lv,q+i=J.length∧e 2 = .tptr 0 [aC k,aC r,aC c,aC w,v]∧e 4 = .ptr 0 0∧e 6 = .ptr 1 0∧e 9 = .ptr 2 0∧e 10=aC left∧e 12=aC (i:Nat)∧Hid ((0≤left∧left≤40000)∧m.at_ 0=some ⟨[aC 0,aC 0,aN,aC 0,aN,aN],92,.var,true⟩∧m.at_ 1=some ⟨[aC PL,aC PD,RT],33,.var,true⟩∧m.at_ 2=some ⟨[aC PL,aC PD,RT,aC W,RT,lv],92,.var,true⟩∧2 < m.next∧Own m 67 2 lv b4.length (cA b4)∧(∀ j,cI lv=some j→2 < j)∧qT k r c w L (J.drop i) left=EE∧b4++oB k r c w L (J.drop i) left=RR∧b4.length≤i*128)) J.length ⟨0,OS,[],aN,by omega,rfl,rfl,rfl,rfl,rfl,rfl,⟨e8.out,rfl,rfl,rfl,by simp [bX,bM,a8],fC,fun j h=>by simp [cI,aN] at h,e7.out,f1.out,by simp⟩⟩ ?_;rintro q e m ⟨i,left,b4,lv,hq,e2,e4,e6,e9,f3,R,hJ⟩;replace hq:=Hid.mk hq;obtain ⟨i1,b0,b1,b2,k8,g,Y,l,z,c4⟩:=hJ.out;clear hJ;have g0:¬ (0=m.next):=by omega
   have g1:¬ (1=m.next):=by omega
   have g2:¬ (2=m.next):=by omega
   have j0:=g.ok;have j1:=g.one;have k1:=g.cells;by_cases Q:i < J.length
   ·have U:((i:Nat):Int) < ((J.length:Nat):Int):=by omega
    have wi:=bY (n:=i) (by have:=a9.out;omega);obtain ⟨x,hx⟩:∃ x,J[i]? = some x:=⟨_,azj Q⟩
    obtain ⟨ha,hb⟩:=D.out i x hx;have a2:J.drop i=x::J.drop (i+1):=by
     rw [List.drop_eq_getElem_cons Q];congr 1;rw [azj Q] at hx;exact Option.some.inj hx
    obtain ⟨rv,k0,u,a4,o⟩:=X.out i x hx;have k4:=a4.rd.plain;have k5:=cH a4.rd;have e1:=f6.out x;have A:=Z.out x (min left LI);rw [a2] at l z;simp only [qT,oB,c5.out] at l z;have I:=aft k r c w L x (min left LI);have f5:=afu (k:=k) (r:=r) (c:=c) (w:=w) (L:=L) (x:=x) (n:=min left LI);have B:tG k r c w L x (min left LI)=if iZ k r c w (eI k r w L x.1) 1 x.2 < k.toNat then 5 else rW k c w (jR k r c w L x) (min left LI):=rfl
    have g6:mE k r c w (eI k r w L x.1) 1 x.2 k.toNat=jR k r c w L x:=rfl;rw [g6] at o;have a5:∀ E,tG k r c w L x (min left LI)=E→E≠0→i2 = .tup [afI,aC E]:=fun E h0 h1=>by
     rw [←a6.out,←l,h0,if_neg h1,if_neg h1]
    have T:=fun (n:Int) m=>aiC (a:=aC 0) (b:=aC 0) (c:=aN) (d:=aC 0) (e:=aN) (f:=aN) (n:=n) (bN _) (bN _) (bN _) (bN _) (bN _) (bN _) 1 m
    have h9:x.2=x.2:=rfl;simp only [aC] at u o ha hb;replace a2:=Hid.mk a2;replace hx:=Hid.mk hx;replace a5:=Hid.mk a5;replace T:=Hid.mk T;replace a4:=Hid.mk a4;replace f5:=Hid.mk f5;clear h9 g6;by_cases V:iZ k r c w (eI k r w L x.1) 1 x.2 < k.toNat
    ·rw [if_pos V] at o B;have C:=a5.out 5 B (by decide);replace V:=Hid.mk V;replace B:=Hid.mk B;replace l:=Hid.mk l;replace z:=Hid.mk z;replace g:=Hid.mk g;replace I:=Hid.mk I;subst C;unfold aN at o;simp only [↓pre,za,i9,gW,aBj,simprocAttr,bne,aBS,aN,e2,e6,R,b1,F,U,Q,p,ha]
     (first | refine aH (u) (by first | rfl | simp only [aD, *]) ?_ | refine aG (u) (by first | rfl | simp only [aD, *]) (by intro k;first | rfl | simp only [*]) ?_);simp only [↓pre,za,i9,gW,aBj,simprocAttr,bne,aBS,e6,R,b1,Q,p,hb];(first | refine aH (o) (by first | rfl | simp only [aA,aD, *]) ?_ | refine aG (o) (by first | rfl | simp only [aD, *]) (by intro k;first | rfl | simp only [ *,zaa]) ?_);simp only [↓pre,za,i9,kY,gW,simprocAttr,bne,aJ,aBS,aN,e4,b0]
     exact ⟨1,T.out _ _⟩
    ·rw [if_neg V] at o B;generalize S:jR k r c w L x=LD at *
     have pd:=e1.plain;have sd:=cH e1;generalize bD (k.toNat*c.toNat) (aL LD)=DT at *
     unfold abT at A;by_cases a1:rW k c w LD (min left LI)=0
     ·rw [if_pos a1] at A;rw [a1] at B;obtain ⟨i0,h6⟩:=f5.out B;have c1:dP LD (min left LI).toNat=yU k r c w L x (min left LI):=by unfold yU;rw [S]
      rw [if_pos B] at l;obtain ⟨N,hN⟩:∃ N:Nat,min left LI=(N:Int):=⟨(min left LI).toNat,by omega⟩
      rw [c1] at A;rw [hN] at l A z I i0 h6;rw [aA8] at A I;generalize yU k r c w L x ↑N=LR at *
      have d4:=dY N (cA LR);have sT:=cH d4;have a3:=fun m=>d4.src (P:=ayS) (m:=m) (el:=67) (sz:=2) (by rw [tD];omega)
      rw [show (cA LR).take (N*2)=cA LR from aA7 (by rw [tD];omega)] at a3;generalize bD N (cA LR)=TR at *
      have l1:N≤128:=by have:=b7.out;have:=c5.out;omega
      have wl:azv.wrap (left - (N:Int))=left - (N:Int):=eD (by omega) (by omega);have k2:=a9.out;simp only [aC] at A;replace I:=Hid.mk I;replace l:=Hid.mk l;replace z:=Hid.mk z;replace c1:=Hid.mk c1;replace c4:=Hid.mk c4;replace d4:=Hid.mk d4;replace a3:=Hid.mk a3;replace a1:=Hid.mk a1;replace B:=Hid.mk B;replace g:=Hid.mk g;replace Y:=Hid.mk Y;replace V:=Hid.mk V;replace S:=Hid.mk S;simp only [↓pre,za,i9,gW,aBj,simprocAttr,bne,aBS,aN,e2,e6,R,b1,F,U,Q,p,ha]
      (first | refine aH (u) (by first | rfl | simp only [aD, *]) ?_ | refine aG (u) (by first | rfl | simp only [aD, *]) (by intro k;first | rfl | simp only [*]) ?_);simp only [↓pre,za,i9,gW,aBj,simprocAttr,bne,aBS,e6,R,b1,Q,p,hb];(first | refine aH (o) (by first | rfl | simp only [aA,aD, *]) ?_ | refine aG (o) (by first | rfl | simp only [aD, *]) (by intro k;first | rfl | simp only [sq, *]) ?_);simp only [↓pre,zah,i9,gW,simprocAttr,bne,aBS,e2,f3];(first | refine aH (d3) (by first | rfl | simp only [aA,aD, *]) ?_ | refine aG (d3) (by first | rfl | simp only [aA,aD, *]) (by intro k;first | rfl | simp only [ *,zaa]) ?_);simp only [↓pre,zah,i9,gW,simprocAttr,bne,aBS,e2,hN];(first | refine aH (A) (by first | rfl | simp only [aD, *]) ?_ | refine aG (A) (by first | rfl | simp only [aA,aD, *]) (by intro k;first | rfl | simp only [ *,zaa]) ?_);simp only [↓pre,zah,i9,gW,aBj,bE,simprocAttr,bne,aBS,e9,b2,sT]
      have a0:=c4.out;refine uY (kd := .flat) (sz:=2) (y:=16) (zl:=[.int .i64 0,.int .i64 0]) (by kernel_rfl) g.out (by kernel_rfl) (by kernel_rfl) (by kernel_rfl) rfl (a3.out m) (by rw [tD];have:=I.out;omega) (by omega) (by omega) fun g5 m4 b5 k7 c2 e5 _ => ?_
      have b8:∀ j,j≤2→cI lv≠some j:=fun j h1 h2=>by have:=Y.out j h2;omega
      have d0:=c2 0 _ b0 (by omega) (b8 0 (by omega));have d1:=c2 1 _ b1 (by omega) (b8 1 (by omega));have d2:=c2 2 _ b2 (by omega) (b8 2 (by omega));have a7:∀ j,cI g5=some j→2 < j:=fun j hj=>by
       rcases e5 j hj with h | h
       ·omega
       ·exact Y.out j h
      have h8:=b5.ok;have k6:=b5.one;have h7:=b5.cells;replace c2:=Hid.mk c2;replace e5:=Hid.mk e5;replace a7:=Hid.mk a7;replace b8:=Hid.mk b8;replace b5:=Hid.mk b5;replace a0:=Hid.mk a0;simp only [↓pre,za,i9,gW,aBj,simprocAttr,bne,aJ,aBS,e2,e4,e6,e9,f3,R,d2,h8,h7,wl,wi];refine ⟨q - 1,by have:=hq.out;omega,i+1,left - N,b4++LR,g5,by have:=hq.out;omega,rfl,rfl,⟨⟨by omega,by omega⟩, ?_, ?_, ?_,by first | omega | (simp only [bX];omega), ?_,a7.out,l.out,by rw [azT];exact z.out,by rw [aAZ];have:=I.out;have:=a0.out;omega⟩⟩
      ·exact d0
      ·exact d1
      ·rfl
      ·rw [afn,aAZ,I.out];exact b5.out.keep (by rw [bX];exact Nat.le_refl _) fun j kk hj hk=>by
        have:=a7.out j hj;rw [aO,if_neg (by omega)];exact hk
     ·rw [if_neg a1] at A;have C:=a5.out _ B a1;generalize rW k c w LD (min left LI)=E at *
      replace V:=Hid.mk V;replace B:=Hid.mk B;replace l:=Hid.mk l;replace z:=Hid.mk z;replace g:=Hid.mk g;replace I:=Hid.mk I;replace S:=Hid.mk S;subst C;unfold aN at A;simp only [aC] at A;simp only [↓pre,za,i9,gW,aBj,simprocAttr,bne,aBS,aN,e2,e6,R,b1,F,U,Q,p,ha]
      (first | refine aH (u) (by first | rfl | simp only [aD, *]) ?_ | refine aG (u) (by first | rfl | simp only [aD, *]) (by intro k;first | rfl | simp only [*]) ?_);simp only [↓pre,za,i9,gW,aBj,simprocAttr,bne,aBS,e6,R,b1,Q,p,hb];(first | refine aH (o) (by first | rfl | simp only [aA,aD, *]) ?_ | refine aG (o) (by first | rfl | simp only [aD, *]) (by intro k;first | rfl | simp only [sq, *]) ?_);simp only [↓pre,zah,i9,gW,simprocAttr,bne,aBS,e2,f3];(first | refine aH (d3) (by first | rfl | simp only [aA,aD, *]) ?_ | refine aG (d3) (by first | rfl | simp only [aA,aD, *]) (by intro k;first | rfl | simp only [ *,zaa]) ?_);simp only [↓pre,zah,i9,gW,simprocAttr,bne,aBS,e2];(first | refine aH (A) (by first | rfl | simp only [aD, *]) ?_ | refine aG (A) (by first | rfl | simp only [aA,aD, *]) (by intro k;first | rfl | simp only [ *,zaa]) ?_);simp only [↓pre,za,i9,kY,gW,simprocAttr,bne,aJ,aBS,aN,e4,b0,a1]
      exact ⟨1,T.out _ _⟩
   ·have U:¬ ((i:Nat):Int) < ((J.length:Nat):Int):=by omega
    rw [List.drop_of_length_le (by omega)] at l z;simp only [qT,oB,aBi] at l z;have C:=a6.out;rw [←l,if_pos rfl,←z] at C;have b9:cI lv≠some 0:=fun h=>by have:=Y 0 h;omega
    have G:=fun x=>aw9 (a:=aC PL) (b:=aC PD) (c:=RT) (d:=aN) (w:=W) (n:=0) (bN _) (bN _) e3.out (vK (g.put_ne (x:=x) b9) 1)
    replace b9:=Hid.mk b9;replace C:=Hid.mk C;replace l:=Hid.mk l;replace z:=Hid.mk z;replace g:=Hid.mk g;replace G:=Hid.mk G;simp only [↓pre,za,i9,kY,gW,aBj,simprocAttr,bne,aJ,aBS,aN,e4,e6,e9,R,b0,b1,b2,F,U];rw [←C.out];exact ⟨1,G.out _⟩
 ·rw [if_neg hC] at s;rw [if_neg hC];have T:=fun m=>aiC (a:=aC 0) (b:=aC 0) (c:=aN) (d:=aC 0) (e:=aN) (f:=aN) (n:=i4 k r c w ps) (bN _) (bN _) (bN _) (bN _) (bN _) (bN _) 1 m
  rw [if_neg hC];unfold oX aN at s;simp only [aC] at s M;replace O:=Hid.mk O;replace hR:=Hid.mk hR;replace T:=Hid.mk T;generalize i4 k r c w ps=E at *
  refine bI Tryz.func107 gW (h:=?_);unfold Tryz.f107;simp only [↓pre,zah,i9,kY,gW,aM,a8,simprocAttr,bne,aBS,hf]
  (first | refine aH (M) (by first | rfl | simp only [aD, *]) ?_ | refine aG (M) (by first | rfl | simp only [aD, *]) (by intro k;first | rfl | simp only [*]) ?_);simp only [↓pre,zah,gW,simprocAttr,bne,aBS];(first | refine aH (s) (by first | rfl | simp only [aA,aD, *]) ?_ | refine aG (s) (by first | rfl | simp only [aD, *]) (by intro k;first | rfl | simp only [ *,zaa]) ?_);simp only [↓pre,zaj,i9,gW,aM,simprocAttr,bne,aBS]
  refine oN (by kernel_rfl) ?_;simp only [↓pre,zaj,i9,kY,gW,simprocAttr,bne,aJ,aBS];refine dE (by kernel_rfl) ?_;simp only [↓pre,zaj,i9,kY,gW,aBd,simprocAttr,bne,aJ,aBS,hC];exact ⟨1,T.out _⟩
theorem axb (k r c w:Int) (ps:List bO) (kd ver:Int):∃ a e,qQ k r c w ps kd ver = .tup [a,aC e]∧(∀ j,shift j a=a)∧eH a:=by
 unfold qQ;split
 ·exact ⟨_,_,rfl,fun n=>rfl,bN _⟩
 ·exact ⟨_,_,rfl,fun n=>aaV,kT (dY _ _)⟩
theorem axc (k r c w:Int) (v:AV) (L:List (List UInt8)) (cells:List AV) (i:fQ v L cells) (s:fA k r c w L=0) (x:bJ) (u:jP w x=true):aR ayS 190 [dD k r c w v,.agg [aC x.1,aC x.2]] ⟨qQ k r c w (eI k r w L x.1) 1 x.2,[]⟩:=by
 refine d6 ?_;have C:=i.rd.plain;have p:=b6 i.rd;have B:=bQ i.rd;have g:=aap (k:=k) (r:=r) (c:=c) s (abU u).1;obtain ⟨l,A⟩:=aao g;obtain ⟨z,cs,d,b⟩:=aiA k r c w x.1 v L cells i g;have f:=ait k r c w 1 x.2 z _ cs b A l;obtain ⟨a,e,n,q,j⟩:=axb k r c w (eI k r w L x.1) 1 x.2;rw [n] at f ⊢;have t:=b.rd.plain;have y:=cH b.rd;have o:=fun m=>eW j (bN (.int .i64 e)) 1 m
 replace o:=Hid.mk o;replace n:=Hid.mk n;replace g:=Hid.mk g;replace b:=Hid.mk b;unfold dD at d ⊢;simp only [aC] at d f;refine bI Tryz.func190 aB (h:=?_);unfold Tryz.f190;simp only [↓pre,zab,amn,simprocAttr,p]
 (first | refine aH (d) (by first | rfl | simp only [aD, *]) ?_ | refine aG (d) (by first | rfl | simp only [aD, *]) (by intro k;first | rfl | simp only [*]) ?_);simp only [↓pre,zab,amn,simprocAttr];(first | refine aH (f) (by first | rfl | simp only [aA,aD, *]) ?_ | refine aG (f) (by first | rfl | simp only [aD, *]) (by intro k;first | rfl | simp only [sq, *]) ?_);simp only [↓pre,zab,simprocAttr]
 exact ⟨1,o.out _⟩
def abW (k r c w:Int) (L:List (List UInt8)) (l:List bJ) (fr to:Nat):AV:=if jE k r c w L l fr to=0 then .tup [bD (to - fr) (aL (jT k r c w L l fr to)),aC 0] else .tup [aN,aC (jE k r c w L l fr to)]
theorem axd {k r c w:Int} {L:List (List UInt8)} {l:List bJ} {i p W:Nat} {x:bJ} (f:(wI k c).toNat=W) (d:l[i]? = some x) (h:i*W≤p) (g:p < i*W+W):adm k r c w L l p=(jR k r c w L x).getD (p - i*W) 0:=by
 unfold adm;rw [f];have hi:=(ay5.1 d).1;have e:(i+1)*W≤l.length*W:=Nat.mul_le_mul_right _ hi;rw [azX,aBW] at e;have a:p / W=i:=by
  refine Nat.div_eq_of_lt_le h ?_;rw [azX,aBW];exact g
 have b:p % W=p - i*W:=by
  have:=Nat.div_add_mod p W;rw [a,Nat.mul_comm] at this;omega
 simp only [a,b];rw [if_pos (by omega),azp (l:=l),d];rfl
theorem axe {k r c w:Int} {L:List (List UInt8)} {l:List bJ} {fr to i W:Nat} (a:0 < W) (h:¬ max fr (i*W) < min to ((i+1)*W)):jT k r c w L l fr (min to ((i+1)*W))=jT k r c w L l fr (min to (i*W)):=by
 have hs:(i+1)*W=i*W+W:=by rw [azX,aBW]
 by_cases b:to≤i*W
 ·rw [show min to ((i+1)*W)=min to (i*W) by omega]
 ·rw [afz (by omega),afz (by omega)]
theorem axf {k r c w:Int} {L:List (List UInt8)} {l:List bJ} {fr to i W:Nat} {x:bJ} (d:(wI k c).toNat=W) (b:l[i]? = some x) (g:(jR k r c w L x).length=W) (h:max fr (i*W) < min to ((i+1)*W)):jT k r c w L l fr (min to ((i+1)*W))=jT k r c w L l fr (min to (i*W))++((jR k r c w L x).drop (max fr (i*W) - i*W)).take (min to ((i+1)*W) - max fr (i*W)):=by
 have hs:(i+1)*W=i*W+W:=by rw [azX,aBW]
 have e:jT k r c w L l fr (min to (i*W))=jT k r c w L l fr (max fr (i*W)):=by
  by_cases f:i*W≤fr
  ·rw [afz (by omega),afz (by omega)]
  ·rw [show min to (i*W)=max fr (i*W) by omega]
 rw [e,←awl (mi:=max fr (i*W)) (by omega) (Nat.le_of_lt h)];congr 1;unfold jT;refine aAf fun j => ?_
 rw [List.getElem?_take,aAs];by_cases a:j < min to ((i+1)*W) - max fr (i*W)
 ·rw [if_pos a,abE _ a,axd d b (by omega) (by omega),show max fr (i*W)+j - i*W=max fr (i*W) - i*W+j by omega,azp,azj (by omega)];rfl
 ·rw [if_neg a,ay3 (by rw [pJ];omega)]
set_option maxHeartbeats 2000000 in
theorem axg (k r c w a1 a2 a3:Int) (v:AV) (L:List (List UInt8)) (cells:List AV) (hv:fQ v L cells) (hE:fA k r c w L=0) (dv lv sv:AV) (nd nl:Nat) (cd cl:List AV) (c3:aZ dv nd cd) (c6:aZ lv nl cl) (l:List bJ) (hs:qR sv l) (b9:∀ x∈l,jP w x=true) (hl:l.length≤20000) (fr to:Nat) (f6:to≤40000) (X:to≤l.length*(wI k c).toNat):aR ayS 108 [dD k r c w v,yX (aC a1) (aC a2) dv (aC a3) lv sv,aC (fr:Nat),aC (to:Nat)] ⟨abW k r c w L l fr to,[]⟩:=by
 refine d6 ?_;have hp:=hv.rd.plain;have hf:=b6 hv.rd;have ho:=bQ hv.rd;obtain ⟨hm,_,_⟩:=abR hE;obtain ⟨x0,D⟩:=hs;have c0:=sS k r c w hm;have hw:=g9 hm;have d4:=jA.1 hm;have d2:=gX hm;obtain ⟨W,hW⟩:∃ W:Nat,wI k c=(W:Int):=⟨(wI k c).toNat,by unfold wI;omega⟩
 have V:(wI k c).toNat=W:=by omega
 have b4:32≤W∧W≤768:=by unfold wI at hW;omega
 have b1:k.toNat*c.toNat=W:=by
  have:((k.toNat*c.toNat:Nat):Int)=wI k c:=by unfold wI;rw [aCd,aB0 (by omega),aB0 (by omega)]
  omega
 have O:=fun (x:bJ) (p:x∈l)=>axc k r c w v L cells hv hE x (b9 x p)
 have a6:=fun (x:bJ)=>wY k r c w (eI k r w L x.1) 1 x.2 k.toNat
 unfold dD at O ⊢;unfold yX;rw [hW] at c0;rw [V] at X;unfold qQ at O;rw [b1] at O a6;have b7:∀ x,pV k r c w L x=decide (iZ k r c w (eI k r w L x.1) 1 x.2 < k.toNat):=fun _=>rfl
 have b3:∀ x,jR k r c w L x=mE k r c w (eI k r w L x.1) 1 x.2 k.toNat:=fun _=>rfl
 have E:=fun i h=>axe (k:=k) (r:=r) (c:=c) (w:=w) (L:=L) (l:=l) (fr:=fr) (to:=to) (i:=i) (W:=W) (by omega) h
 have F:=fun i x p e9 h=>axf (k:=k) (r:=r) (c:=c) (w:=w) (L:=L) (l:=l) (fr:=fr) (to:=to) (i:=i) (W:=W) (x:=x) V p e9 h
 have T:∀ z,(jT k r c w L l fr z).length=z - fr:=fun z=>by unfold jT;rw [pJ]
 have b8:jE k r c w L l fr to=if (aAm l.length).any (fun i=>nG W fr to i && pV k r c w L (l.getD i (0,0)))=true then 5 else 0:=by unfold jE;rw [V]
 unfold abW;generalize c8:jE k r c w L l fr to=EE at *
 have R:∀ (i:Nat) (x:bJ),l[i]? = some x→nG W fr to i=true→pV k r c w L x=true→EE=5:=fun i x p h1 h2=>by
  rw [b8,if_pos];refine List.any_eq_true.2 ⟨i,aAw.2 (ay5.1 p).1, ?_⟩;rw [h1,azp,p];exact h2
 have G:(∀ (i:Nat) (x:bJ),l[i]? = some x→nG W fr to i=true→pV k r c w L x=false)→EE=0:=fun h=>by
  rw [b8,if_neg];intro h2;obtain ⟨i,hi,h3⟩:=List.any_eq_true.1 h2;have c5:=aAw.1 hi;rw [Bool.and_eq_true,azp,azj c5] at h3;have:=h i _ (azj c5) h3.1;rw [show (some l[i]).getD (0,0)=l[i] from rfl,this] at h3;exact absurd h3.2 (by decide)
 clear b8;generalize d3:jT k r c w L l fr=CB at *
 have e1:CB (min to (0*W))=[]:=List.eq_nil_of_length_eq_zero (by rw [T];omega);have Q:min to (l.length*W)=to:=by omega
 generalize K:(if EE=0 then AV.tup [bD (to - fr) (aL (CB to)),aC 0] else AV.tup [aN,aC EE])=f7;have fD:=b6 c3;have oD:=bQ c3;have fL:=b6 c6;have oL:=bQ c6;have fS:=b6 D;have f1:=bQ D;have b0:=fun (i:Nat) (x:bJ) (hi:l[i]? = some x)=>xA l x0 i x hi
 replace K:=Hid.mk K;replace R:=Hid.mk R;replace G:=Hid.mk G;replace E:=Hid.mk E;replace F:=Hid.mk F;replace d4:=Hid.mk d4;replace d2:=Hid.mk d2;replace hw:=Hid.mk hw;replace b4:=Hid.mk b4;replace O:=Hid.mk O;replace a6:=Hid.mk a6;replace b1:=Hid.mk b1;replace b9:=Hid.mk b9;replace b7:=Hid.mk b7;replace b3:=Hid.mk b3;replace hW:=Hid.mk hW;replace V:=Hid.mk V;replace b0:=Hid.mk b0;replace T:=Hid.mk T;replace Q:=Hid.mk Q;replace c8:=Hid.mk c8;replace d3:=Hid.mk d3;replace X:=Hid.mk X;refine bI Tryz.func108 aB (h:=?_);unfold Tryz.f108;simp only [↓pre,zab,abe,simprocAttr,hf,fD,fL,fS]
 (first | refine aH (c0) (by first | rfl | simp only [aA,aD, *]) ?_ | refine aG (c0) (by first | rfl | simp only [aA,aD, *]) (by intro k;first | rfl | simp only [ *,zaa]) ?_);simp only [↓pre,simprocAttr,sx]
 rw [bS];refine bU (fun q e m=>∃ i u,q+i=l.length∧e 2=aC (fr:Nat)∧e 3=aC (to:Nat)∧e 4 = .tptr 0 [aC k,aC r,aC c,aC w,v]∧e 5 = .tptr 0 [aC a1,aC a2,dv,aC a3,lv,sv]∧e 10=aC (W:Nat)∧e 11=u∧e 12=aC (i:Nat)∧Hid (Own m 5 1 u (CB (min to (i*W))).length (aL (CB (min to (i*W))))∧∀ (j:Nat) (x:bJ),j < i→l[j]? = some x→nG W fr to j=true→pV k r c w L x=false)) l.length ⟨0,aN,by omega,rfl,rfl,rfl,rfl,rfl,rfl,rfl,⟨by rw [e1];exact fC,fun j x h=>by omega⟩⟩ ?_;rintro q e m ⟨i,u,hq,e2,e3,e4,e5,U,c2,N,hJ⟩;replace hq:=Hid.mk hq;obtain ⟨b,d1⟩:=hJ.out;clear hJ;by_cases b5:i < l.length
 ·have B:((i:Nat):Int) < ((l.length:Nat):Int):=by omega
  have wi:=bY (n:=i) (by omega);obtain ⟨x,p⟩:∃ x,l[i]? = some x:=⟨_,azj b5⟩
  have f8:(i+1)*W≤20000*768:=aBZ (by omega) b4.out.2;have f0:(i+1)*W=i*W+W:=by rw [azX,aBW]
  have w1:azv.wrap (((i:Nat):Int)*((W:Nat):Int))=((i*W:Nat):Int):=by rw [show ((i:Nat):Int)*((W:Nat):Int)=((i*W:Nat):Int) by simp];exact cD (by omega)
  have w2:azv.wrap (((i+1:Nat):Int)*((W:Nat):Int))=(((i+1)*W:Nat):Int):=by rw [show ((i+1:Nat):Int)*((W:Nat):Int)=(((i+1)*W:Nat):Int) by simp];exact cD (by omega)
  obtain ⟨A,hA,Y⟩:∃ A:Nat,max ((fr:Nat):Int) ((i*W:Nat):Int)=(A:Int)∧A=max fr (i*W):=⟨max fr (i*W),by omega,rfl⟩
  obtain ⟨Z,hZ,S⟩:∃ Z:Nat,min ((to:Nat):Int) (((i+1)*W:Nat):Int)=(Z:Int)∧Z=min to ((i+1)*W):=⟨min to ((i+1)*W),by omega,rfl⟩
  have a:nG W fr to i=decide (A < Z):=by unfold nG;rw [Y,S]
  have a4:(nG W fr to i=true→pV k r c w L x=false)→∀ (j:Nat) (y:bJ),j < i+1→l[j]? = some y→nG W fr to j=true→pV k r c w L y=false:=fun h j y hj hy a5=>by
   by_cases e:j=i
   ·subst e;rw [p] at hy;cases hy;exact h a5
   ·exact d1 j y (by omega) hy a5
  replace a4:=Hid.mk a4;by_cases a0:A < Z
  ·rw [decide_eq_true a0] at a;have H:¬ ((Z:Nat):Int)≤((A:Nat):Int):=by omega
   obtain ⟨ha,e7⟩:=b0.out i x p;obtain ⟨ht,c4⟩:=rL ha e7;have e6:=az5 p;have hr:=O.out x e6;have g:=b7.out x;have C:=a6.out x;rw [←b3.out x] at hr C;by_cases s:iZ k r c w (eI k r w L x.1) 1 x.2 < k.toNat
   ·rw [if_pos s] at hr;rw [decide_eq_true s] at g;have h5:=R.out i x p a g;have f:=K.out;rw [h5,if_neg (by decide)] at f;have hz:=fun m=>eW (bN (.slice none 0 0)) (bN (.int .i64 5)) 1 m
    simp only [aC,aN] at hr ht;replace hz:=Hid.mk hz;replace f:=Hid.mk f;replace s:=Hid.mk s;replace g:=Hid.mk g;replace a:=Hid.mk a;replace b:=Hid.mk b;replace C:=Hid.mk C;replace h5:=Hid.mk h5;replace p:=Hid.mk p;simp only [↓pre,zag,abe,simprocAttr,e2,e3,e4,e5,U,N,B,D.len',wi,w1,w2,hA,hZ,H,D.addr',b5,ht,c4]
    (first | refine aH (hr) (by first | rfl | simp only [aD, *]) ?_ | refine aG (hr) (by first | rfl | simp only [aD, *]) (by intro k;first | rfl | simp only [ *,zaa]) ?_);simp only [↓pre,zad,simprocAttr]
    rw [←f.out];exact ⟨1,hz.out _⟩
   ·rw [if_neg s] at hr;rw [decide_eq_false s] at g;have M:=dY W (aL (jR k r c w L x));have o:=a4.out fun _=>g
    have J:=F.out i x p C (by rw [←Y,←S];exact a0);rw [←Y,←S] at J;have f3:i*W≤A:=by omega
    have f5:Z≤i*W+W:=by omega
    have wA:azv.wrap (((A:Nat):Int) - ((i*W:Nat):Int))=((A - i*W:Nat):Int):=by rw [show ((A:Nat):Int) - ((i*W:Nat):Int)=((A - i*W:Nat):Int) by omega];exact cD (by omega)
    have wZ:azv.wrap (((Z:Nat):Int) - ((i*W:Nat):Int))=((Z - i*W:Nat):Int):=by rw [show ((Z:Nat):Int) - ((i*W:Nat):Int)=((Z - i*W:Nat):Int) by omega];exact cD (by omega)
    obtain ⟨v1,s1,r1⟩:=M.slice (P:=ayS) (t:=52) (sz:=1) (lo:=some (A - i*W)) (hi:=some (Z - i*W)) (by kernel_rfl) (by simp only [aAB];omega) (by simp only [aAB];omega);simp only [aAB,azD] at r1;rw [show Z - i*W - (A - i*W)=Z - A by omega] at r1;have I:=fun m=>r1.src (P:=ayS) (m:=m) (el:=5) (sz:=1) (by rw [aA9,iB,C];omega)
    rw [azD,show ((aL (jR k r c w L x)).drop (A - i*W)).take (Z - A)=aL (((jR k r c w L x).drop (A - i*W)).take (Z - A)) by unfold aL;rw [←List.map_drop,←List.map_take]] at I;have e0:((jR k r c w L x).drop (A - i*W)).take (Z - A)=((jR k r c w L x).drop (A - i*W)).take (Z - A):=rfl;have a9:(((jR k r c w L x).drop (A - i*W)).take (Z - A)).length=Z - A:=by rw [List.length_take,aA9,C];omega
    clear e0;generalize c7:((jR k r c w L x).drop (A - i*W)).take (Z - A)=PT at *
    have sD:=cH M;have f4:=fun m=>M.slOk (P:=ayS) (m:=m) (t:=52)
    have e8:=fun d c m lo hi mx=>M.sliceX (P:=ayS) (m:=m) (t:=52) (d:=d) (c:=c) (lo:=lo) (hi:=hi) (mx:=mx)
    generalize bD W (aL (jR k r c w L x))=DT at *
    have a7:=T.out (min to (i*W));simp only [aC] at hr ht;replace s:=Hid.mk s;replace g:=Hid.mk g;replace a:=Hid.mk a;replace b:=Hid.mk b;replace C:=Hid.mk C;replace p:=Hid.mk p;replace M:=Hid.mk M;replace r1:=Hid.mk r1;replace J:=Hid.mk J;replace o:=Hid.mk o;replace c7:=Hid.mk c7;replace a9:=Hid.mk a9;replace a7:=Hid.mk a7;replace I:=Hid.mk I;simp only [↓pre,zag,abe,simprocAttr,e2,e3,e4,e5,U,N,B,D.len',wi,w1,w2,hA,hZ,H,D.addr',b5,ht,c4]
    (first | refine aH (hr) (by first | rfl | simp only [aD, *]) ?_ | refine aG (hr) (by first | rfl | simp only [aD, *]) (by intro k;first | rfl | simp only [sq, *]) ?_);simp only [↓pre,zag,abe,bE,aBa,simprocAttr,dB,U,c2,N,w1,e8,wA,wZ,s1]
    refine pA (kd := .flat) (sz:=1) (y:=1) (zl:=[.int .u8 0]) (by kernel_rfl) b.out (by kernel_rfl) (by kernel_rfl) (by kernel_rfl) rfl (I.out m) (by rw [iB,a9.out,azD]) (by have:=a7.out;omega) (by have:=a7.out;omega) ?_;intro u' m' d0 f2;have b2:Own m' 5 1 u' (CB (min to ((i+1)*W))).length (aL (CB (min to ((i+1)*W)))):=by
     rw [←S,J.out,rQ,aAZ,a9.out];exact d0
    replace b2:=Hid.mk b2;clear d0;simp only [↓pre,zab,simprocAttr,e2,e3,e4,e5,U,N,wi];exact ⟨q - 1,by have:=hq.out;omega,i+1,u',by have:=hq.out;omega,rfl,rfl,⟨b2.out,o.out⟩⟩
  ·rw [decide_eq_false a0] at a;have H:((Z:Nat):Int)≤((A:Nat):Int):=by omega
   have o:=a4.out fun h=>by rw [a] at h;cases h
   have c1:=E.out i (by rw [←Y,←S];exact a0);replace a:=Hid.mk a;replace b:=Hid.mk b;replace p:=Hid.mk p;replace c1:=Hid.mk c1;replace o:=Hid.mk o;simp only [↓pre,zag,abe,simprocAttr,e2,e3,e4,e5,U,c2,N,B,D.len',wi,w1,w2,hA,hZ,H];exact ⟨q - 1,by have:=hq.out;omega,i+1,u,by have:=hq.out;omega,rfl,rfl,⟨by rw [c1.out];exact b.out,o.out⟩⟩
 ·have B:¬ ((i:Nat):Int) < ((l.length:Nat):Int):=by omega
  have hi:i=l.length:=by have:=hq.out;omega
  have h0:=G.out fun j x p a5=>d1 j x (by have:=(ay5.1 p).1;omega) p a5
  have f:=K.out;rw [h0,if_pos rfl] at f;rw [hi,Q.out,T.out] at b;replace f:=Hid.mk f;replace b:=Hid.mk b;replace h0:=Hid.mk h0;simp only [↓pre,zag,abe,simprocAttr,e5,c2,N,B,D.len'];rw [←f.out];exact ⟨1,by rw [j8,dM,vK b.out,aAh,dM,gB,i8];rfl⟩
theorem axh {k r c w:Int} (a:bG k r c w=true):((wI k c).toNat:Int)=wI k c∧1≤wI k c:=by
 have:=g9 a;unfold wI;omega
theorem axi {k r c w:Int} {L:List (List UInt8)} {row:Int} (h:jS k r c w L row=0) {N:Nat} (g:cK (dC k r c w L row)=(N:Int)):N≤(gV k r c w L row).length*(wI k c).toNat:=by
 obtain ⟨f,_,d⟩:=awj h;obtain ⟨j,l,_⟩:=adp f;obtain ⟨i,e⟩:=axh j;unfold oS at d;rw [if_pos f] at d;unfold sI at d;have:=aoT (a:=cK (dC k r c w L row)) (b:=wI k c) l e;rw [←d,g,←i,←aCd] at this;omega
theorem axj (k r c w:Int) (L:List (List UInt8)) (l:List bJ) (fr to:Nat):∃ a e,abW k r c w L l fr to = .tup [a,aC e]∧(∀ j,shift j a=a)∧eH a:=by
 unfold abW;split
 ·exact ⟨_,_,rfl,fun j=>aaV,kT (dY _ _)⟩
 ·exact ⟨_,_,rfl,fun j=>rfl,bN _⟩
def afJ (k r c w:Int) (L:List (List UInt8)) (row:Int):AV:=if jS k r c w L row=0 then abW k r c w L (gV k r c w L row) 0 (cK (dC k r c w L row)).toNat else .tup [aN,aC (jS k r c w L row)]
theorem apl (k r c w row:Int) (v:AV) (L:List (List UInt8)) (cells:List AV) (q:fQ v L cells) (D:kG k r c w L row=0):aR ayS 104 [dD k r c w v,aC row] ⟨afJ k r c w L row,[]⟩:=by
 refine d6 ?_;have R:=q.rd.plain;have z:=b6 q.rd;have Q:=bQ q.rd;have b:=axa k r c w row v L cells q D;unfold afJ;unfold aiB at b;unfold dD at b ⊢;by_cases l:jS k r c w L row=0
 ·rw [if_pos l] at b ⊢;obtain ⟨F,_,_,n,j,p,s⟩:=afw l;obtain ⟨N,o⟩:∃ N:Nat,cK (dC k r c w L row)=(N:Int):=⟨(cK (dC k r c w L row)).toNat,by omega⟩
  have g:=dY (cY (dC k r c w L row)).length (cA (cY (dC k r c w L row)));have d:=dY (pU k r c w L row).length (cA (pU k r c w L row));have f:=dY (gV k r c w L row).length (cA (gV k r c w L row));have i:=axg k r c w (cK (dC k r c w L row)) (dQ (dC k r c w L row)) (gT k r c w (eI k r w L row)) v L cells q F _ _ (bD (gV k r c w L row).length (cA (gV k r c w L row))) _ _ _ _ g d (gV k r c w L row) ⟨[],by rw [aBi];exact f⟩ n j 0 N (by omega) (axi l o);obtain ⟨a,e,t,u,x⟩:=axj k r c w L (gV k r c w L row) 0 N;have y:=fun m=>eW x (bN (.int .i64 e)) 1 m
  replace y:=Hid.mk y;rw [o,aA8,t];rw [t] at i;unfold yX xB at b;unfold dD yX at i;rw [o] at b i;generalize bD (cY (dC k r c w L row)).length (cA (cY (dC k r c w L row)))=T at *
  generalize bD (pU k r c w L row).length (cA (pU k r c w L row))=M at *
  generalize bD (gV k r c w L row).length (cA (gV k r c w L row))=V at *
  have E:=b6 g;have J:=bQ g;have B:=cH g;have O:=g.plain;have A:=b6 d;have K:=bQ d;have G:=cH d;have S:=d.plain;have H:=b6 f;have U:=bQ f;have C:=cH f;have I:=f.plain;generalize dQ (dC k r c w L row)=P at *
  generalize gT k r c w (eI k r w L row)=W at *
  simp only [aC,Int.cast_ofNat_Int] at b i;replace l:=Hid.mk l;replace o:=Hid.mk o;replace n:=Hid.mk n;replace j:=Hid.mk j;replace p:=Hid.mk p;replace s:=Hid.mk s;replace t:=Hid.mk t;replace g:=Hid.mk g;replace d:=Hid.mk d;replace f:=Hid.mk f;refine bI Tryz.func104 aB (h:=?_);unfold Tryz.f104;simp only [↓pre,zab,aev,simprocAttr,z]
  (first | refine aH (b) (by first | rfl | simp only [aD, *]) ?_ | refine aG (b) (by first | rfl | simp only [aA,aD, *]) (by intro k;first | rfl | simp only [ *,zaa]) ?_);simp only [↓pre,zag,aev,aM,simprocAttr,aJ,E,B,A,G,H,C];(first | refine aH (i) (by first | rfl | simp only [aD, *]) ?_ | refine aG (i) (by first | rfl | simp only [aA,aD, *]) (by intro k;first | rfl | simp only [ *,zaa]) ?_);simp only [↓pre,zae,simprocAttr,u]
  exact ⟨1,y.out _⟩
 ·rw [if_neg l] at b ⊢;unfold afI yX aN at b;simp only [aC] at b;refine bI Tryz.func104 aB (h:=?_);unfold Tryz.f104;simp only [↓pre,zab,aev,simprocAttr,z]
  (first | refine aH (b) (by first | rfl | simp only [aD, *]) ?_ | refine aG (b) (by first | rfl | simp only [aA,aD, *]) (by intro k;first | rfl | simp only [ *,zaa]) ?_);simp only [↓pre,zag,aev,aM,simprocAttr,aJ,l]
  exact ⟨1,eW (bN (.slice none 0 0)) (bN (.int .i64 (jS k r c w L row))) 1 _⟩
theorem axk (v:AV) (bs:List UInt8) (x:List AV) (a:aZ v bs.length (aL bs++x)):aR ayS 99 [v] ⟨fT bs,[]⟩:=by
 refine d6 ?_;have f:=a.plain;have e:=fun (d c:Bool) (m:aF)=>wS (d:=d) (c:=c) (m:=m) a
 unfold fT;by_cases h:bs.length=0
 ·rw [if_pos h];have b:((bs.length:Nat):Int)=0:=by omega
  refine bI Tryz.func99 aB (h:=?_);unfold Tryz.f99;simp only [↓pre,zae,amd,iS,simprocAttr,eq_self,a.len',b];exact ⟨0,gB⟩
 ·rw [if_neg h];have b:¬ ((bs.length:Nat):Int)=0:=by omega
  refine bI Tryz.func99 aB (h:=?_);unfold Tryz.f99;simp only [↓pre,zae,amd,fO,at7,simprocAttr,eq_self,a.len',b,e];exact ⟨0,zT⟩
theorem axl (L:List (List UInt8)):fQ (bD L.length (L.map fT)) L (L.map fT):=⟨dY _ _,fun i b a=>⟨_,[],by rw [azl,a];rfl,abK b⟩⟩
def aas:Nat→Bool:=fun d=>d != 2 && d != 3 && d != 16
theorem axm (k r c w:Int) (v:AV) (L:List (List UInt8)) (cells:List AV) (B:fQ v L cells) (J:L.length*24≤140737488355328):aR ayS 26 [dD k r c w v] ⟨dD k r c w (bD L.length (L.map fT)),[]⟩:=by
 refine d6 ?_;have hp:=B.rd.plain;have hf:=b6 B.rd;have ho:=bQ B.rd;have G:=fun (i:Nat) (b:List UInt8) (H:L[i]? = some b)=>B.at_ i b H
 have C:∀ x∈L.map fT,eH x:=fun x hx=>by
  obtain ⟨b,_,rfl⟩:=List.mem_map.1 hx;exact kT (abK b)
 unfold dD;replace G:=Hid.mk G;replace C:=Hid.mk C;replace J:=Hid.mk J;refine bI Tryz.func26 aas (h:=?_);unfold Tryz.f26;simp only [↓pre,zaj,acB,kY,aas,aM,simprocAttr,bne,aJ,aBS,hf];rw [bS];refine bU (fun q e m=>∃ i lv,q+i=L.length∧e 1 = .tptr 0 [aC k,aC r,aC c,aC w,v]∧e 2 = .ptr 0 0∧e 3 = .ptr 1 0∧e 4=aC (i:Nat)∧Hid (m.at_ 0=some ⟨[aC 0,aC 0,aC 0,aC 0,aN],47,.var,true⟩∧m.at_ 1=some ⟨[aC k,aC r,aC c,aC w,lv],47,.var,true⟩∧1 < m.next∧cG .var m 52 1 lv i ((L.take i).map fT)∧(∀ j,cI lv=some j→1 < j))) L.length ⟨0,aN,by omega,rfl,rfl,rfl,rfl,⟨rfl,rfl,by simp [bX,bM,a8],fC,fun j h=>by simp [cI,aN] at h⟩⟩ ?_;rintro q e m ⟨i,lv,N,S,e2,O,R,hJ⟩;replace N:=Hid.mk N;obtain ⟨b0,P,a0,d,f⟩:=hJ.out;clear hJ;have X:=d.ok;have Z:=d.one;have Y:=d.cells;by_cases I:i < L.length
 ·have s:((i:Nat):Int) < ((L.length:Nat):Int):=by omega
  have wi:=bY (n:=i) (by have:=J.out;omega);obtain ⟨b,H⟩:∃ b,L[i]? = some b:=⟨_,azj I⟩
  obtain ⟨a,x,U,K⟩:=G.out i b H;have V:=axk a b x K;have F:L.take (i+1)=L.take i++[b]:=by rw [aA6,H];rfl
  have g:=abK b;have ob:=bQ g;have a1:=cH g;have kb:=yS g;have cb:=yR g;have pa:=K.plain;have Q:∀ m,gF ayS m 45 1 [(0,fT b)]=some ⟨.tree 1 1 [fT b] true,m,none⟩:=fun m=>zP (el:=52) (sz:=1) (z:=[.val (.slice none 0 0)]) (by kernel_rfl) (by kernel_rfl) (by kernel_rfl) (by simp [iR,cP,cb,kb]) (by simp [j5,adi g]) (by decide)
  have E:(L.take (i+1)).map fT=(L.take i).map fT++[fT b]:=by rw [F,List.map_append];rfl
  generalize fT b=BV at *
  replace F:=Hid.mk F;replace H:=Hid.mk H;replace d:=Hid.mk d;replace f:=Hid.mk f;replace g:=Hid.mk g;replace E:=Hid.mk E;simp only [↓pre,za,acB,aas,aBj,simprocAttr,bne,aBS,B.rd.len',S,O,R,P,s,B.rd.addr',I,U]
  (first | refine aH (V) (by first | rfl | simp only [aD, *]) ?_ | refine aG (V) (by first | rfl | simp only [aD, *]) (by intro k;first | rfl | simp only [*]) ?_);simp only [↓pre,zah,acB,aas,bE,simprocAttr,bne,aBS,Q]
  refine uY (kd := .var) (sz:=1) (y:=24) (zl:=[.slice none 0 0]) (by kernel_rfl) d.out (by kernel_rfl) (by kernel_rfl) (by kernel_rfl) rfl mN rfl (by have:=J.out;omega) (by have:=J.out;omega) fun M m4 o a3 A D _ => ?_
  have u:∀ j,j≤1→cI lv≠some j:=fun j V h2=>by have:=f.out j h2;omega
  have d0:=A 0 _ b0 (by omega) (u 0 (by omega));have d1:=A 1 _ P (by omega) (u 1 (by omega));have l:∀ j,cI M=some j→1 < j:=fun j hj=>by
   rcases D j hj with h | h
   ·omega
   ·exact f.out j h
  have W:=o.ok;have a2:=o.one;have T:=o.cells;replace A:=Hid.mk A;replace D:=Hid.mk D;replace l:=Hid.mk l;replace u:=Hid.mk u;replace o:=Hid.mk o;refine dE (by kernel_rfl) ?_;simp only [↓pre,zah,acB,aas,aBj,simprocAttr,bne,aJ,aBS,O,d1,W,T];refine dE (by kernel_rfl) ?_;simp only [↓pre,za,aas,aBd,simprocAttr,bne,aBS,S,e2,O,R,wi];refine ⟨q - 1,by have:=N.out;omega,i+1,M,by have:=N.out;omega,rfl,⟨d0,rfl,by omega, ?_,l.out⟩⟩;rw [E.out];exact o.out.put_ne (fun h=>by have:=l.out 1 h;omega)
 ·have s:¬ ((i:Nat):Int) < ((L.length:Nat):Int):=by omega
  have hi:i=L.length:=by have:=N.out;omega
  rw [hi,List.take_length] at d;have t:cI lv≠some 0:=fun h=>by have:=f 0 h;omega
  have p:=fun x=>afc (d.put_ne (x:=x) t) C.out 1
  replace p:=Hid.mk p;replace t:=Hid.mk t;replace d:=Hid.mk d;simp only [↓pre,za,acB,kY,aas,aBj,simprocAttr,bne,aJ,aBS,B.rd.len',S,e2,O,R,b0,P,s];exact ⟨2,by rw [aaX,dM,gB,aAh,dM,gB,aAh,dM,gB,aAh,dM,gB,aAh,dM,p.out,aAh,i8];rfl⟩
theorem axn (k r c w:Int) (x y:Operand):dR ayS .neq 23 x y (.agg [.val (.int .i64 k),.val (.int .i64 r),.val (.int .i64 c),.val (.int .i64 w)]) (.agg [.val (.int .i64 k),.val (.int .i64 r),.val (.int .i64 c),.val (.int .i64 w)])=some (.val (.bool false)):=by
 have h:wB ayS #[.int .i64 k,.int .i64 r,.int .i64 c,.int .i64 w] #[.int .i64 k,.int .i64 r,.int .i64 c,.int .i64 w] (aaZ ayS 23)=if k=k then (if r=r then (if c=c then (if w=w then some true else some false) else some false) else some false) else some false:=by kernel_rfl
 rw [if_pos rfl,if_pos rfl,if_pos rfl,if_pos rfl] at h;exact (arY (a:=[.val (.int .i64 k),.val (.int .i64 r),.val (.int .i64 c),.val (.int .i64 w)]) (b:=[.val (.int .i64 k),.val (.int .i64 r),.val (.int .i64 c),.val (.int .i64 w)]) (u:=[.int .i64 k,.int .i64 r,.int .i64 c,.int .i64 w]) (v:=[.int .i64 k,.int .i64 r,.int .i64 c,.int .i64 w]) rfl rfl (by kernel_rfl) (by kernel_rfl) (by kernel_rfl) h).2
theorem axo (k r c w:Int) (v H:AV) (L:List (List UInt8)) (cells l:List AV) (o:fQ v L cells) (f:fQ H L l) (B:L.length*24≤140737488355328):aR ayS 33 [dD k r c w v,dD k r c w H] ⟨aV true,[]⟩:=by
 have V:=o.rd.plain;have N:=b6 o.rd;have T:=bQ o.rd;have Q:=f.rd.plain;have J:=b6 f.rd;have S:=bQ f.rd;have I:=axn k r c w;have s:=fun (i:Nat) (b:List UInt8) (p:L[i]? = some b)=>o.at_ i b p
 have g:=fun (i:Nat) (b:List UInt8) (p:L[i]? = some b)=>f.at_ i b p
 unfold dD;replace s:=Hid.mk s;replace g:=Hid.mk g;replace B:=Hid.mk B;refine aX Tryz.func33 aB (h:=?_);unfold Tryz.f33;simp only [↓pre,zag,ag5,simprocAttr,N,J,o.rd.len',f.rd.len',I];rw [bS];refine bU (fun q e m=>∃ i,q+i=L.length∧e 2 = .tptr 0 [aC k,aC r,aC c,aC w,v]∧e 3 = .tptr 0 [aC k,aC r,aC c,aC w,H]∧e 5=aC (i:Nat)) L.length ⟨0,by omega,rfl,rfl,rfl⟩ ?_;rintro q e m ⟨i,A,M,P,K⟩;replace A:=Hid.mk A;by_cases u:i < L.length
 ·have j:((i:Nat):Int) < ((L.length:Nat):Int):=by omega
  have R:=bY (n:=i) (by have:=B.out;omega);obtain ⟨b,p⟩:∃ b,L[i]? = some b:=⟨_,azj u⟩
  obtain ⟨a,x,G,D⟩:=s.out i b p;obtain ⟨U,O,t,z⟩:=g.out i b p;have E:=fun (d c:Bool) (m:aF)=>wS (d:=d) (c:=c) (m:=m) (x:=x) D
  have F:=fun (d c:Bool) (m:aF)=>wS (d:=d) (c:=c) (m:=m) (x:=O) z
  have C:∀ x y,dR ayS .neq 9 x y (oT b) (oT b)=some (.val (.bool false)):=fun x y=>by rw [adn,decide_eq_true rfl];rfl
  replace p:=Hid.mk p;simp only [↓pre,zag,ag5,simprocAttr,o.rd.len',M,P,K,j,o.rd.addr',f.rd.addr',u,G,t,E,F,C,R];exact ⟨q - 1,by have:=A.out;omega,i+1,by have:=A.out;omega,rfl⟩
 ·have j:¬ ((i:Nat):Int) < ((L.length:Nat):Int):=by omega
  simp only [↓pre,zag,ag5,simprocAttr,o.rd.len',M,K,j]
abbrev dV:=ByteArray×Int
def dX:List dV→List AV
 | []=>[]
 | e::l=>gG e.1::aC e.2::dX l
theorem tH:∀ {l:List dV} {x:List AV} {i:Nat} {s:ByteArray} {r:Int},l[i]? = some (s,r)→(dX l++x)[i*2]? = some (.val (.string s))∧(dX l++x)[i*2+1]? = some (.val (.int .i64 r))∧((dX l++x).drop (i*2)).take 2=[.val (.string s),.val (.int .i64 r)]∧i*2+2≤(dX l++x).length
 | [],x,i,s,r,h=>by simp at h
 | e::l,x,0,s,r,h=>by
  simp at h;subst h;simp [dX,aC]
 | e::l,x,i+1,s,r,h=>by
  have:=tH (l:=l) (x:=x) (i:=i) (by simpa using h);rw [show (i+1)*2=i*2+2 by omega];simpa [dX] using this
def kI (s:ByteArray):Bool:=decide (1≤s.size∧s.size≤24)
def tI (w:Int) (e:dV):Bool:=kI e.1 && decide (0≤e.2∧e.2 < w)
def fB (l:List dV):Nat:=(l.map fun e=>3+e.1.size).sum
theorem apm {l:List dV} {i:Nat} {s:ByteArray} {r:Int} (h:l[i]? = some (s,r)):fB (l.take (i+1))=fB (l.take i)+(3+s.size):=by
 unfold fB;rw [aA6,h];simp
theorem apn {l:List dV} {i:Nat}:fB (l.take i)≤fB l:=by
 unfold fB
 conv=>rhs;rw [←List.take_append_drop i l]
 rw [List.map_append,List.sum_append];omega
theorem uR (s:ByteArray) (hs:s.size≤1000000000000000):aR ayS 130 [gG s] ⟨aC (if kI s then 0 else 6),[]⟩:=by
 refine aX Tryz.func130 aB (h:=?_);unfold Tryz.f130;simp only [↓pre,zae,amf,simprocAttr];repeat' ((first | refine cU (fun _ => ?_) (fun _ => ?_) | refine cO (fun _ => ?_) (fun _ => ?_) | refine cV (fun _ => ?_) (fun _ => ?_) | refine cQ (fun _ => ?_) (fun _ => ?_) | refine cS (fun _ => ?_) (fun _ => ?_) | refine cM (fun _ => ?_) (fun _ => ?_)) <;> simp only [↓pre,zae,amf,simprocAttr, *])
 all_goals (first | (rw [if_neg (by unfold kI;simp;omega)];done) | (rw [if_pos (by unfold kI;simp;omega)];done))
theorem axp (a b:ByteArray):aR ayS 267 [gG a,gG b] ⟨aV (Op.bytesLess a.data.toList b.data.toList),[]⟩:=by
 refine aX Tryz.func267 aB (h:=?_);unfold Tryz.f267;simp only [↓pre,zal,simprocAttr];repeat' ((first | refine cU (fun _ => ?_) (fun _ => ?_) | refine cO (fun _ => ?_) (fun _ => ?_) | refine cV (fun _ => ?_) (fun _ => ?_) | refine cQ (fun _ => ?_) (fun _ => ?_) | refine cS (fun _ => ?_) (fun _ => ?_) | refine cM (fun _ => ?_) (fun _ => ?_)) <;> simp only [↓pre,zal,asu,simprocAttr,aA, *])
theorem yY (k r c w:Int) (s:ByteArray) (n:Int) (hs:s.size≤1000000000000000):aR ayS 266 [aA k r c w,.agg [gG s,aC n]] ⟨aV (tI w (s,n)),[]⟩:=by
 refine aX Tryz.func266 aB (h:=?_);unfold Tryz.f266;cases h:kI s with
 | false=>simp only [↓pre,zab,ahl,aV,Bool.false_and,simprocAttr,aA,tI,h];repeat' ((first | refine cU (fun _ => ?_) (fun _ => ?_) | refine cO (fun _ => ?_) (fun _ => ?_) | refine cV (fun _ => ?_) (fun _ => ?_) | refine cQ (fun _ => ?_) (fun _ => ?_) | refine cS (fun _ => ?_) (fun _ => ?_) | refine cM (fun _ => ?_) (fun _ => ?_) | refine aH (uR _ hs) (by first | rfl | simp only [aA,aD, *]) ?_ | refine aG (uR _ hs) (by first | rfl | simp only [aA,aD, *]) (by intro k;first | rfl | simp only [ *,zaa]) ?_) <;> simp only [↓pre,zab,simprocAttr, *])
 | true =>
  simp only [↓pre,zab,ahl,aV,aBh,simprocAttr,aA,tI,h];repeat' ((first | refine cU (fun _ => ?_) (fun _ => ?_) | refine cO (fun _ => ?_) (fun _ => ?_) | refine cV (fun _ => ?_) (fun _ => ?_) | refine cQ (fun _ => ?_) (fun _ => ?_) | refine cS (fun _ => ?_) (fun _ => ?_) | refine cM (fun _ => ?_) (fun _ => ?_) | refine aH (uR _ hs) (by first | rfl | simp only [aA,aD, *]) ?_ | refine aG (uR _ hs) (by first | rfl | simp only [aA,aD, *]) (by intro k;first | rfl | simp only [ *,zaa]) ?_) <;> simp only [↓pre,zab,ahl,simprocAttr, *])
  all_goals refine xY ?_
  all_goals simp
  all_goals omega
theorem apo (v:AV) (l:List dV) (x:List AV) (g:aZ v l.length (dX l++x)) (B:fB l≤1000000000000) (w:l.length≤1000000000000):aR ayS 268 [v] ⟨aC (fB l),[]⟩:=by
 refine aX Tryz.func268 aB (h:=?_);unfold Tryz.f268;simp only [↓pre,zae,amv,simprocAttr,g.len'];rw [bS];refine bU (fun n e m=>∃ i,n+i=l.length∧e 6=v∧e 7=aC (l.length:Nat)∧e 8=aC (i:Nat)∧e 3=aC (fB (l.take i):Nat)) l.length ⟨0,by omega, ?_⟩ ?_
 ·simp [bB.set,fB,aC]
 ·rintro n e m ⟨i,hi,p,f,j,d⟩;simp only [↓pre,zab,simprocAttr,f,j];refine cO (fun b => ?_) (fun b => ?_)
  ·obtain ⟨s,r,a⟩:∃ s r,l[i]? = some (s,r):=⟨_,_,azj (by omega)⟩
   obtain ⟨y,A,q,k⟩:=tH (x:=x) a;have c:i < l.length:=by omega
   have o:=apm a;have z:=apn (l:=l) (i:=i+1);have w1:=bY (n:=i) (by omega);have u:azv.wrap (3+(s.size:Int))=((3+s.size:Nat):Int):=by rw [←cD (n:=3+s.size) (by omega)];rfl
   have t:azv.wrap ((fB (l.take i):Int)+((3+s.size:Nat):Int))=(fB (l.take (i+1)):Int):=by rw [o,←cD (n:=fB (l.take i)+(3+s.size)) (by omega)];rfl
   simp only [↓pre,zae,amv,aM,simprocAttr,p,f,j,d,g.addr',q,k,c,w1,u,t,aJ];exact ⟨n - 1,by omega,i+1,by omega,rfl,rfl⟩
  ·have:l.take i=l:=aA7 (by omega);simp only [↓pre,simprocAttr,sx,d,this]
def jU (a b:ByteArray):Bool:=Op.bytesLess a.data.toList b.data.toList
def mF (w:Int) (l:List dV) (i:Nat):Bool:=match l[i]? with
 | some e=>tI w e && (match i with | 0=>true | j+1=>match l[j]? with | some d=>jU d.1 e.1 | none=>true)
 | none=>true
def oG (w:Int) (l:List dV):Bool:=(aAm l.length).all (mF w l)
theorem abX {w:Int} {l:List dV}:oG w l=true↔∀ i,i < l.length→mF w l i=true:=by
 unfold oG;rw [aAr];exact ⟨fun h i hi=>h i (aAw.2 hi),fun h i hi=>h i (aAw.1 hi)⟩
def chk (k r c w:Int) (l:List dV):Int:=if bG k r c w=true then (if oG w l=true then (if mI k c < (fB l:Int) then 3 else 0) else 220) else 2
theorem aiD {l:List dV} {i:Nat} {s:ByteArray} {r:Int} (h:l[i]? = some (s,r)):s.size≤fB l:=by
 have:=apm h;have:=apn (l:=l) (i:=i+1);omega
theorem afK (a b:ByteArray):aR ayS 267 [gG a,gG b] ⟨aV (jU a b),[]⟩:=axp a b
theorem xF (k r c w:Int) (v:AV) (l:List dV) (x:List AV) (g:aZ v l.length (dX l++x)) (P:fB l≤1000000000000) (L:l.length≤1000000000000):aR ayS 212 [aA k r c w,v] ⟨aC (chk k r c w l),[]⟩:=by
 refine aX Tryz.func212 aB (h:=?_);unfold Tryz.f212;cases h:bG k r c w with
 | false=>simp only [↓pre,zab,wH,chk,simprocAttr,aA,h];repeat' ((first | refine cU (fun _ => ?_) (fun _ => ?_) | refine cO (fun _ => ?_) (fun _ => ?_) | refine cV (fun _ => ?_) (fun _ => ?_) | refine cQ (fun _ => ?_) (fun _ => ?_) | refine cS (fun _ => ?_) (fun _ => ?_) | refine cM (fun _ => ?_) (fun _ => ?_) | refine aH (vF _ _ _ _) (by first | rfl | simp only [aA,aD, *]) ?_ | refine aG (vF _ _ _ _) (by first | rfl | simp only [aA,aD, *]) (by intro k;first | rfl | simp only [ *,zaa]) ?_) <;> simp only [↓pre,zab,simprocAttr, *])
 | true =>
  have hp:=g.plain;simp only [↓pre,zab,wH,simprocAttr,aA];repeat' ((first | refine cU (fun _ => ?_) (fun _ => ?_) | refine cO (fun _ => ?_) (fun _ => ?_) | refine cV (fun _ => ?_) (fun _ => ?_) | refine cQ (fun _ => ?_) (fun _ => ?_) | refine cS (fun _ => ?_) (fun _ => ?_) | refine cM (fun _ => ?_) (fun _ => ?_) | refine aH (vF _ _ _ _) (by first | rfl | simp only [aA,aD, *]) ?_ | refine aG (vF _ _ _ _) (by first | rfl | simp only [aA,aD, *]) (by intro k;first | rfl | simp only [ *,zaa]) ?_) <;> simp only [↓pre,zae,wH,simprocAttr,g.len', *])
  rw [bS];refine bU (fun n e m=>∃ i,n+i=l.length∧e 17=v∧e 1=v∧e 18=aC (l.length:Nat)∧e 19=aC (i:Nat)∧e 2 = .tptr 0 [aC k,aC r,aC c,aC w]∧e 5=aC (mI k c)∧∀ j,j < i→mF w l j=true) l.length ⟨0,by omega, ?_⟩ ?_
  ·simp [bB.set,jY,aC]
  ·rintro n e m ⟨i,hi,q,R,H,d,E,W,p⟩;replace p:=Hid.mk p;simp only [↓pre,zab,simprocAttr,H,d];refine cO (fun G => ?_) (fun G => ?_)
   ·have b:i < l.length:=by omega
    obtain ⟨s,z,a⟩:∃ s z,l[i]? = some (s,z):=⟨_,_,azj b⟩
    obtain ⟨V,a2,D,C⟩:=tH (x:=x) a;have S:=aiD a;have w1:=bY (n:=i) (by omega);have t:mF w l i=false→chk k r c w l=220:=fun Q=>by
     have:¬ oG w l=true:=fun B=>by rw [abX.1 B i b] at Q;cases Q
     simp [chk,h,this]
    cases K:tI w (s,z) with
    | false =>
     have B:=t (by simp [mF,a,K]);simp only [↓pre,zae,wH,aM,simprocAttr,q,d,E,g.addr',D,C,b,aJ,B];repeat' ((first | refine cU (fun _ => ?_) (fun _ => ?_) | refine cO (fun _ => ?_) (fun _ => ?_) | refine cV (fun _ => ?_) (fun _ => ?_) | refine cQ (fun _ => ?_) (fun _ => ?_) | refine cS (fun _ => ?_) (fun _ => ?_) | refine cM (fun _ => ?_) (fun _ => ?_) | refine aH (yY _ _ _ _ _ _ (by omega)) (by first | rfl | simp only [aA,aD, *]) ?_ | refine aG (yY _ _ _ _ _ _ (by omega)) (by first | rfl | simp only [aA,aD, *]) (by intro k;first | rfl | simp only [ *,zaa]) ?_) <;> simp only [↓pre,zab,aV,simprocAttr, *])
    | true =>
     rcases Nat.eq_zero_or_pos i with F | M
     ·have J:mF w l i=true:=by subst F;simp [mF,a,K]
      have hz:¬ (0:Int) < (i:Nat):=by omega
      replace F:=Hid.mk F;simp only [↓pre,zae,wH,aM,simprocAttr,q,d,E,g.addr',D,C,b,aJ];repeat' ((first | refine cU (fun _ => ?_) (fun _ => ?_) | refine cO (fun _ => ?_) (fun _ => ?_) | refine cV (fun _ => ?_) (fun _ => ?_) | refine cQ (fun _ => ?_) (fun _ => ?_) | refine cS (fun _ => ?_) (fun _ => ?_) | refine cM (fun _ => ?_) (fun _ => ?_) | refine aH (yY _ _ _ _ _ _ (by omega)) (by first | rfl | simp only [aA,aD, *]) ?_ | refine aG (yY _ _ _ _ _ _ (by omega)) (by first | rfl | simp only [aA,aD, *]) (by intro k;first | rfl | simp only [ *,zaa]) ?_) <;> simp only [↓pre,zab,aV,simprocAttr, *])
      exact ⟨n - 1,by omega,i+1,by omega,rfl,fun j N=>by have:=F.out;rw [show j=i by omega];exact J⟩
     ·obtain ⟨u,o⟩:∃ u,i=u+1:=⟨i - 1,by omega⟩
      obtain ⟨T,X,f⟩:∃ s z,l[u]? = some (s,z):=⟨_,_,azj (by omega)⟩
      obtain ⟨c1,c2,Y,c4⟩:=tH (x:=x) f;have O:u < l.length:=by omega
      have Z:azv.wrap ((i:Int) - 1)=(u:Nat):=by rw [show (i:Int) - 1=(u:Nat) by omega];exact cD (by omega)
      have U:(0:Int) < (i:Nat):=by omega
      replace o:=Hid.mk o;cases y:jU T s with
      | false =>
       have B:=t (by rw [o.out] at a ⊢;simp [mF,a,f,y]);simp only [↓pre,zae,wH,aM,simprocAttr,q,d,E,g.addr',D,C,b,aJ,B];repeat' ((first | refine cU (fun _ => ?_) (fun _ => ?_) | refine cO (fun _ => ?_) (fun _ => ?_) | refine cV (fun _ => ?_) (fun _ => ?_) | refine cQ (fun _ => ?_) (fun _ => ?_) | refine cS (fun _ => ?_) (fun _ => ?_) | refine cM (fun _ => ?_) (fun _ => ?_) | refine aH (yY _ _ _ _ _ _ (by omega)) (by first | rfl | simp only [aA,aD, *]) ?_ | refine aH (afK _ _) (by first | rfl | simp only [aA,aD, *]) ?_ | refine aG (yY _ _ _ _ _ _ (by omega)) (by first | rfl | simp only [aA,aD, *]) (by intro k;first | rfl | simp only [ *,zaa]) ?_ | refine aG (afK _ _) (by first | rfl | simp only [aA,aD, *]) (by intro k;first | rfl | simp only [ *,zaa]) ?_) <;> simp only [↓pre,zal,wH,simprocAttr,g.addr', *])
      | true =>
       have J:mF w l i=true:=by rw [o.out] at a ⊢;simp [mF,a,K,f,y]
       simp only [↓pre,zae,wH,aM,simprocAttr,q,d,E,g.addr',D,C,b,aJ];repeat' ((first | refine cU (fun _ => ?_) (fun _ => ?_) | refine cO (fun _ => ?_) (fun _ => ?_) | refine cV (fun _ => ?_) (fun _ => ?_) | refine cQ (fun _ => ?_) (fun _ => ?_) | refine cS (fun _ => ?_) (fun _ => ?_) | refine cM (fun _ => ?_) (fun _ => ?_) | refine aH (yY _ _ _ _ _ _ (by omega)) (by first | rfl | simp only [aA,aD, *]) ?_ | refine aH (afK _ _) (by first | rfl | simp only [aA,aD, *]) ?_ | refine aG (yY _ _ _ _ _ _ (by omega)) (by first | rfl | simp only [aA,aD, *]) (by intro k;first | rfl | simp only [ *,zaa]) ?_ | refine aG (afK _ _) (by first | rfl | simp only [aA,aD, *]) (by intro k;first | rfl | simp only [ *,zaa]) ?_) <;> simp only [↓pre,zal,wH,simprocAttr,g.addr', *])
       refine ⟨n - 1,by omega,i+1,by omega,rfl,fun j N => ?_⟩;by_cases I:j=i
       ·subst I;exact J
       ·exact p.out j (by omega)
   ·have A:oG w l=true:=abX.2 fun j N=>p.out j (by omega)
    simp only [↓pre,zab,chk,simprocAttr,R,h,A];repeat' ((first | refine cU (fun _ => ?_) (fun _ => ?_) | refine cO (fun _ => ?_) (fun _ => ?_) | refine cV (fun _ => ?_) (fun _ => ?_) | refine cQ (fun _ => ?_) (fun _ => ?_) | refine cS (fun _ => ?_) (fun _ => ?_) | refine cM (fun _ => ?_) (fun _ => ?_) | refine aH (apo _ _ _ g P L) (by first | rfl | simp only [aD, *]) ?_ | refine aG (apo _ _ _ g P L) (by first | rfl | simp only [aA,aD, *]) (by intro k;first | rfl | simp only [ *,zaa]) ?_) <;> simp only [↓pre,zab,simprocAttr, *])
theorem axq {k r c w:Int} {l:List dV} (a:chk k r c w l=0):bG k r c w=true∧oG w l=true∧(fB l:Int)≤mI k c∧w≤256:=by
 unfold chk at a;split at a
 ·rename_i b;split at a
  ·rename_i d;split at a
   ·omega
   ·exact ⟨b,d,by omega,(jA.1 b).2.2.2.2.2.2.2.1⟩
  ·omega
 ·omega
def tJ (l:List dV) (s:ByteArray):Nat:=(l.takeWhile fun e=>jU e.1 s).length
def mG (l:List dV) (s:ByteArray):Bool:=match l[tJ l s]? with
 | some e=>decide (e.1=s)
 | none=>false
theorem aiE:∀ (l:List dV) (s:ByteArray) (i:Nat),i≤l.length→(∀ j e,j < i→l[j]? = some e→jU e.1 s=true)→(∀ e,l[i]? = some e→jU e.1 s=false)→tJ l s=i
 | [],s,i,h,_,_=>by simp at h;subst h;rfl
 | a::l,s,0,_,_,h=>by
  have:=h a rfl;simp [tJ,List.takeWhile,this]
 | a::l,s,i+1,hi,h1,h2=>by
  have c:=h1 0 a (by omega) rfl;have:=aiE l s i (by simpa using hi) (fun j e d b=>h1 (j+1) e (by omega) (by simpa using b)) (fun e b=>h2 e (by simpa using b));simp only [tJ,List.takeWhile,c] at this ⊢;simp [this]
def yZ (k r c w:Int) (l:List dV) (s:ByteArray):Int:=if chk k r c w l=0 then (if kI s then 0 else 6) else chk k r c w l
def vO (l:List dV) (s:ByteArray):Int:=match l[tJ l s]? with
 | some e=>e.2
 | none=>0
def abY (k r c w:Int) (l:List dV) (s:ByteArray):AV:=if yZ k r c w l s=0 then (if mG l s then .tup [aC (vO l s),aV true,aC 0] else .tup [aC 0,aV false,aC 0]) else .tup [aC 0,aV false,aC (yZ k r c w l s)]
end Go.Proofs.YtaekhhlgnbhnpaaGreat