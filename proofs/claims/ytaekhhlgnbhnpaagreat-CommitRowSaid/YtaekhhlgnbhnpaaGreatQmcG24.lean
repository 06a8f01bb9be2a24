import Derived.Test.YtaekhhlgnbhnpaaGreatQmcG23
import Derived.Test.YtaekhhlgnbhnpaaGreatQmcG22
import Derived.Test.YtaekhhlgnbhnpaaGreatQmcG21
import Derived.Test.YtaekhhlgnbhnpaaGreatQmcG18
set_option linter.unusedVariables false
set_option linter.unusedSimpArgs false
set_option maxRecDepth 10000
open Go.Proofs.Tryz
open Go.Proofs.Tryz renaming prog→ayU
open List renaming append_nil→aBl,replicate→aBr,getElem?_eq_getElem→azm,getD_eq_getElem?_getD→azs
open Nat renaming mul_le_mul_right→azF,le_refl→aza
open Option renaming bind_some→aAk,getD_some→aAE
namespace Go.Proofs.YtaekhhlgnbhnpaaGreat
open Go Go.Tw Go.Proofs Go.Gf
def pO (C:Nat) (bs:List UInt8) (n:Nat):List AV:=(List.range n).map fun i => .tree C (bs.length - i*C) (aJ (bs.drop (i*C))) true
theorem ax4 (C:Nat) (bs:List UInt8) (n:Nat):pO C bs (n+1)=pO C bs n++[.tree C (bs.length - n*C) (aJ (bs.drop (n*C))) true]:=by
 unfold pO;rw [List.range_succ,List.map_append];rfl
theorem agc (C:Nat) (bs:List UInt8) (n:Nat):(pO C bs n).length=n:=by simp [pO]
theorem aqh {C:Nat} {bs:List UInt8} {n i:Nat} (h:i < n):(pO C bs n)[i]? = some (.tree C (bs.length - i*C) (aJ (bs.drop (i*C))) true):=by
 unfold pO;rw [List.getElem?_map,List.getElem?_range h];rfl
theorem ax5 (C:Nat) (bs:List UInt8) (n:Nat):cP (pO C bs n)=true:=aau _ fun c a=>by
 unfold pO at a;obtain ⟨i,_,rfl⟩:=List.mem_map.1 a;rfl
theorem aqi {K C:Nat} {bs:List UInt8} (b:bs.length=K*C):xJ K C (lF C bs) (pO C bs K):=fun i hi=>by
 have a:(i+1)*C≤K*C:=azF _ hi;rw [Nat.add_mul,Nat.one_mul] at a;exact ⟨_,_,aqh hi,⟨.inr (.inr ⟨_,true,by rw [apx (by omega)],by omega⟩)⟩⟩
theorem ax6 {K R C:Nat} {bs:List UInt8} (d:bs.length=K*C):∀ i,i < K+R→∃ a y,(pO C bs K++dJ C (gQ K (lF C bs)) K R)[i]? = some a∧aT a C (aR C (gQ K (lF C bs) i)++y):=fun i hi=>by
 by_cases h:i < K
 ·obtain ⟨a,y,c,e⟩:=aqi d i h;refine ⟨a,y,by rw [List.getElem?_append_left (by rw [agc];exact h)];exact c, ?_⟩;rw [rY fun p _=>aie (lF C bs) h p];exact e
 ·have b:=aat (L:=C) (F:=gQ K (lF C bs)) (a:=K) (n:=R) (i:=i - K) (by omega);rw [show K+(i - K)=i by omega] at b;exact ⟨_,[],by rw [List.getElem?_append_right (by rw [agc];omega),agc];exact b,⟨.inr (.inr ⟨C,true,by rw [aBl],aza _⟩)⟩⟩
theorem ax7 {K C i:Nat} {bs:List UInt8} (e:bs.length=K*C) (hi:i < K) (d:1≤C):kT ayU 52 (some (i*C)) (some ((i+1)*C)) none (.tree bs.length bs.length (aJ bs) true)=some (.tree C (bs.length - i*C) (aJ (bs.drop (i*C))) true):=by
 have b:bO ayU 52=some 5:=by kernel_rfl
 have c:bX ayU 5=some 1:=by kernel_rfl
 have f:(i+1)*C≤K*C:=azF _ hi;have a:(i+1)*C - i*C=C:=by rw [Nat.add_mul,Nat.one_mul];omega
 have g:i*C≤(i+1)*C:=azF _ (by omega);simp only [kT,b,c,Go.Tw.tS,Option.isNone_some,Bool.and_false,Bool.false_eq_true,if_false,aAk,aAE,Option.getD_none];rw [if_pos (by omega),if_neg (by omega),a];simp [aJ]
theorem ax8 (w:Int) (K R C:Nat) (bs:List UInt8) (d:bs.length=K*C) (h1:1≤K) (h2:K≤12) (h3:R≤4) (Y:1≤C) (V:C≤65536):aQ ayU 201 [aC K R C w,.tree bs.length bs.length (aJ bs) true] ⟨bE (K+R) (pO C bs K++dJ C (gQ K (lF C bs)) K R),[]⟩:=by
 refine gA ?_;have X:=kP bs.length (aJ bs) true;have z:=fun (i:Nat) (hi:i < K)=>ax7 d hi Y
 have s:=aqi d;have A:=ax5 C bs K;generalize AV.tree bs.length bs.length (aJ bs) true=dv at *
 have a1:=X.plain;have o:∀ i,i≤K→i*C≤12*65536:=fun i hi=>Nat.mul_le_mul (by omega) V
 have L:=fun m=>X.slOk (P:=ayU) (m:=m) (t:=52)
 replace z:=aA.mk z;replace s:=aA.mk s;replace A:=aA.mk A;replace d:=aA.mk d;replace o:=aA.mk o;refine bV Tryz.func201 aD (h:=?_);unfold Tryz.f201;simp only [↓pre,zab,ae0,simprocAttr,aC];rw [bS];refine bU (fun q e m=>∃ i I,q+i=K∧e 1=dv∧e 2 = .tptr 0 [aB (K:Nat),aB (R:Nat),aB (C:Nat),aB w]∧e 5=I∧e 6=aB (i:Nat)∧aA (bY .var m 52 1 I i (pO C bs i))) K ⟨0,aW,by omega,rfl,rfl,rfl,rfl,⟨gK⟩⟩ ?_;rintro q e m ⟨i,I,H,Z,M,O,S,U⟩;replace H:=aA.mk H;by_cases N:i < K
 ·have g:((i:Nat):Int) < ((K:Nat):Int):=by omega
  have E:=o.out i (by omega);have F:=o.out (i+1) (by omega);have wa:IntKind.i64.wrap (((i:Nat):Int)*((C:Nat):Int))=((i*C:Nat):Int):=by rw [←Int.natCast_mul];exact dO (by omega)
  have wb:=cB (n:=i) (by omega);have wc:IntKind.i64.wrap (((i+1:Nat):Int)*((C:Nat):Int))=(((i+1)*C:Nat):Int):=by rw [←Int.natCast_mul];exact dO (by omega)
  have T:=z.out i N;replace E:=aA.mk E;replace F:=aA.mk F;simp only [↓pre,zae,ae0,cO,aba,Option.map_none,simprocAttr,Z,M,O,S,g,wa,wb,wc,L,T,dD];refine nP (kd := .var) (sz:=1) (y:=24) (zl:=[.slice none 0 0]) (by kernel_rfl) U.out (by kernel_rfl) (by kernel_rfl) (by kernel_rfl) rfl lV rfl (by omega) (by omega) ?_;intro Q m' l a4;rw [←ax4] at l;replace l:=aA.mk l;simp only [↓pre,zab,simprocAttr,Z,M,S,wb];exact ⟨q - 1,by have:=H.out;omega,i+1,Q,by have:=H.out;omega,rfl,rfl,l⟩
 ·have hi:i=K:=by have:=H.out;omega
  subst hi;have g:¬ ((i:Nat):Int) < ((i:Nat):Int):=by omega
  have B:=U.out;have k:=axE m I i R C (lF C bs) (pO C bs i) (yH B (.inr ⟨rfl,A.out⟩)) (adb B) s.out h1 h2 h3 Y V;obtain ⟨b,rfl,W,u⟩:=B.sl (by omega);simp only [aB] at k;replace B:=aA.mk B;simp only [↓pre,zac,ae0,simprocAttr,M,O,S,g];refine jD k ?_;rintro a3 m2 ⟨a2,rfl,p,f,r⟩;have x:bY .var m2 52 1 (.sl b 0 i i false) i (pO C bs i):=⟨.inr ⟨b,rfl,f.at_ b _ W u,Nat.lt_of_lt_of_le u f.next,by omega⟩,B.out.len⟩
  have G:=afF (P:=ayU) (el':=52) (kd := .var) p (by kernel_rfl);have a:=p.len;rw [Nat.mul_one] at a;replace x:=aA.mk x;replace p:=aA.mk p;replace f:=aA.mk f;replace r:=aA.mk r;replace a:=aA.mk a;clear k W u;simp only [↓pre,zab,ae0,cO,simprocAttr,O];refine nP (kd := .var) (sz:=1) (y:=24) (zl:=[.slice none 0 0]) (by kernel_rfl) x.out (by kernel_rfl) (by kernel_rfl) (by kernel_rfl) rfl G (by rw [Nat.mul_one];exact a.out) (by omega) (by omega) ?_;intro l5 m5 v a0;replace v:=aA.mk v;simp only [↓pre,simprocAttr];exact ⟨1,adG v.out (fun c hc=>by
   rcases List.mem_append.1 hc with h | h
   ·obtain ⟨j,J⟩:=List.getElem?_of_mem h;have D:=(List.getElem?_eq_some_iff.1 J).1;rw [agc] at D;rw [aqh D] at J;cases J;exact aom _ _ _ _
   ·exact aio _ _ _ _ c h) 0⟩
theorem aqj {m:aF} {a b c:Int} {d:AV} {n:Nat} {cs:List AV} (h:aT d n cs):fY ayU m 27 1 [(0,.agg [.val (.int .i64 a),.val (.int .i64 b),.val (.int .i64 c),d])]=some ⟨.tree 1 1 [.val (.int .i64 a),.val (.int .i64 b),.val (.int .i64 c),d] true,m,none⟩:=by
 have e:bO ayU 27=some 69:=by kernel_rfl
 have f:bX ayU 69=some 4:=by kernel_rfl
 have g:gF ayU 69=some [.int .i64 0,.int .i64 0,.int .i64 0,.slice none 0 0]:=by kernel_rfl
 have i:iI d=false:=by rcases h.form with ⟨rfl,_⟩ | ⟨_,_,rfl,_⟩ | ⟨_,_,rfl,_⟩ <;> rfl
 simp [fY,e,f,g,iJ,List.range_succ,hU,gD,cH,AV.cells,kF,iI,bI,i]
theorem aqk {m:aF} {x y z u:AV}:eM ayU 69 4 m (.tree 1 1 [x,y,z,u] true)=some ([x,y,z,u],1):=by
 simp [eM,dR]
theorem aql (l:List cW) (p:cW):eH (l++[p])=eH l++p.cells:=by simp [eH]
theorem aqm {kd:gJ} {m:aF} {el:TypeId} {sz n:Nat} {v:AV} {cells:List AV} (h:bY kd m el sz v n cells):∀ b,cG v=some b→b < m.next:=fun b a=>by
 rcases h.form with ⟨e,_⟩ | ⟨d,e,_,c,_⟩
 ·rw [e] at a;cases a
 ·rw [e] at a;cases a;exact c
def zE:Nat→Bool:=fun d=>d != 18
theorem ax9 (k r c w num kd b ver:Int) (v:AV) (ps:List aO) (cells:List AV) (hv:dG v ps cells) (hB:oB k r c w ps num kd b ver=0) (bs:List UInt8) (A:(bs.length:Int)=k*c):aQ ayU 115 [aC k r c w,v,aB num,.val (.int .u8 kd),aB b,aB ver,.tree bs.length bs.length (aJ bs) true] ⟨bE (k+r).toNat (eH (mS k r c w ps num kd b ver bs (k+r).toNat)),[]⟩:=by
 refine gA ?_;have hp:=hv.rd.plain;obtain ⟨Y,hr,a9,b1,a5,a8,a2,W⟩:=aiR hB;replace hB:=aA.mk hB;have X:=fG Y;have U:=kW.1 Y;have j:=ax3 k r c w ver Y;have d:=fun (i:Nat) (hi:(i:Int) < k+r) dv y hd=>aqg k r c w num b v ps cells hv Y hr a5 (mG k r c kd ver bs i) (aiZ Y a2 W hi) (bE (k+r).toNat (bJ (aBr (k+r).toNat ver))) dv [] y (by rw [aBl];unfold mG;simp only [List.length_replicate];exact eQ _ _) hd
 have Q:=apy k r c w ps num kd b ver bs;have J:=acE k r c w ps num kd b ver bs;have O:mS k r c w ps num kd b ver bs 0=[]:=rfl;obtain ⟨K,rfl⟩:∃ K:Nat,k=(K:Int):=⟨k.toNat,by omega⟩
 obtain ⟨R,rfl⟩:∃ R:Nat,r=(R:Int):=⟨r.toNat,by omega⟩
 obtain ⟨C,rfl⟩:∃ C:Nat,c=(C:Int):=⟨c.toNat,by omega⟩
 have F:((K:Int)+(R:Int)).toNat=K+R:=by omega
 rw [F] at j d ⊢;have f:bs.length=K*C:=by
  have:((bs.length:Nat):Int)=((K*C:Nat):Int):=by rw [A];simp
  omega
 have M:=ax8 w K R C bs f (by omega) (by omega) (by omega) (by omega) (by omega);have u:∀ i,mG K R C kd ver bs i=⟨kd,i,ver,ver,aBr (K+R) ver,tab C (gQ K (lF C bs) i)⟩:=fun i=>by unfold mG;rw [F];rfl
 have L:=fun i=>ax6 (R:=R) f i
 have b2:K+R≤16:=by omega
 have B:=eQ (K+R) (pO C bs K++dJ C (gQ K (lF C bs)) K R);have o:=eQ (K+R) (bJ (aBr (K+R) ver));have a7:=(kP bs.length (aJ bs) true).plain;generalize AV.tree bs.length bs.length (aJ bs) true=dv at *
 generalize bE (K+R) (pO C bs K++dJ C (gQ K (lF C bs)) K R)=CV at *
 generalize bE (K+R) (bJ (aBr (K+R) ver))=VV at *
 have sC:=dB B;have sV:=dB o;have fV:=bW o;have qV:=bR o;have cV:=uS o;have oV:=uT o;have pC:=B.plain;have pV:=o.plain;have a6:kO K R C w ps kd b=kO K R C w ps kd b:=rfl;generalize P:kO K R C w ps kd b=t at *
 replace d:=fun (i:Nat) (hi:(i:Int) < (K:Int)+(R:Int)) dv y hd=>by
  have h:=d i hi dv y hd;rw [u i] at h;simp only [P] at h;exact h
 generalize a1:mS K R C w ps num kd b ver bs=Z at *
 have x:∀ i,Z (i+1)=Z i++[gS K R C w ps num t ⟨kd,i,ver,ver,aBr (K+R) ver,tab C (gQ K (lF C bs) i)⟩]:=fun i=>by rw [Q,u]
 generalize gQ K (lF C bs)=l at *
 generalize aBr (K+R) ver=D at *
 replace X:=aA.mk X;replace U:=aA.mk U;replace u:=aA.mk u;replace Q:=aA.mk Q;replace x:=aA.mk x;replace J:=aA.mk J;replace d:=aA.mk d;replace O:=aA.mk O;replace L:=aA.mk L;replace A:=aA.mk A;replace f:=aA.mk f;replace F:=aA.mk F;replace a1:=aA.mk a1;replace P:=aA.mk P;clear a6;simp only [aB] at M j;refine bV Tryz.func115 zE (h:=?_);unfold Tryz.f115;simp only [↓pre,zad,aaQ,zE,simprocAttr,aC,bne]
 (first | refine aI (M) (by first | rfl | simp only [aE, *]) ?_ | refine aH (M) (by first | rfl | simp only [aC,aE, *]) (by intro k;first | rfl | simp only [ *,zaa]) ?_);simp only [↓pre,simprocAttr,sx,aX,sC]
 rw [bS];refine bU (fun q e m=>∃ i lv,q+i=K+R∧e 1=v∧e 2=aB num∧e 3 = .val (.int .u8 kd)∧e 4=aB b∧e 5=aB ver∧e 7 = .tptr 0 [aB K,aB R,aB C,aB w]∧e 15=CV∧e 16=lv∧e 17=aB (i:Nat)∧aA (bY .var m 69 4 lv i (eH (Z i)))) (K+R) ⟨0,aW,by omega,rfl,rfl,rfl,rfl,rfl,rfl,rfl,rfl,rfl,⟨by rw [O.out];exact gK⟩⟩ ?_;rintro q e m ⟨i,lv,V,e1,e2,e3,e4,e5,e7,G,a0,I,hJ⟩;replace V:=aA.mk V;by_cases T:i < K+R
 ·have p:((i:Nat):Int) < ((K+R:Nat):Int):=by omega
  have wi:=cB (n:=i) (by omega);obtain ⟨a,y,a4,g⟩:=L.out i T;have H:=d.out i (by omega) a y (by have h9:(tab C (l i)).length=C:=pA _ _;rw [u.out i];show aT a (tab C (l i)).length (aJ (tab C (l i))++y);rw [h9];exact g);have fa:=bW g;have qa:=bR g;have ca:=uS g;have oa:=uT g;have pa:=g.plain;have S:=eQ (gS K R C w ps num t ⟨kd,i,ver,ver,D,tab C (l i)⟩).bs.length (aJ (gS K R C w ps num t ⟨kd,i,ver,ver,D,tab C (l i)⟩).bs);have N:(gS K R C w ps num t ⟨kd,i,ver,ver,D,tab C (l i)⟩).cells=[aB (gS K R C w ps num t ⟨kd,i,ver,ver,D,tab C (l i)⟩).dr,aB (gS K R C w ps num t ⟨kd,i,ver,ver,D,tab C (l i)⟩).row,aB (gS K R C w ps num t ⟨kd,i,ver,ver,D,tab C (l i)⟩).sl,bE (gS K R C w ps num t ⟨kd,i,ver,ver,D,tab C (l i)⟩).bs.length (aJ (gS K R C w ps num t ⟨kd,i,ver,ver,D,tab C (l i)⟩).bs)]:=rfl;have z:eH (Z (i+1))=eH (Z i)++(gS K R C w ps num t ⟨kd,i,ver,ver,D,tab C (l i)⟩).cells:=by rw [x.out,aql]
  rw [N] at H z;generalize (gS K R C w ps num t ⟨kd,i,ver,ver,D,tab C (l i)⟩)=PC at *
  generalize bE PC.bs.length (aJ PC.bs)=BV at *
  have sB:=dB S;simp only [aB] at H z;replace z:=aA.mk z;replace g:=aA.mk g;replace N:=aA.mk N;simp only [↓pre,za,aaQ,zE,simprocAttr,bne,e3,e5,e7,G,I,B.len',p]
  (first | refine aI (j) (by first | rfl | simp only [aC,aE, *]) ?_ | refine aH (j) (by first | rfl | simp only [aC,aE, *]) (by intro k;first | rfl | simp only [*]) ?_);simp only [↓pre,za,aaQ,zE,bD,simprocAttr,bne,↓cV,↓oV,G,I,B.addr',T,a4,↓ca,↓oa]
  refine oO (by kernel_rfl) ?_;simp only [↓pre,za,aaQ,zE,simprocAttr,bne,aS,fV,fa];refine cX (by kernel_rfl) ?_;simp only [↓pre,za,aaQ,zE,simprocAttr,bne,e1,e2,e4,e7,a0]
  (first | refine aI (H) (by first | rfl | simp only [aE, *]) ?_ | refine aH (H) (by first | rfl | simp only [aC,aE, *]) (by intro k;first | rfl | simp only [ *,zaa]) ?_);simp only [↓pre,za,aaQ,zE,cO,simprocAttr,bne,sB,aqj S]
  refine nP (kd := .var) (sz:=4) (y:=48) (zl:=[.int .i64 0,.int .i64 0,.int .i64 0,.slice none 0 0]) (by kernel_rfl) ((hJ.out.push _).put_ne fun h=>by have:=aqm hJ.out _ h;omega) (by kernel_rfl) (by kernel_rfl) (by kernel_rfl) rfl aqk rfl (by omega) (by omega) ?_;intro a3 m' E b0;rw [←z.out] at E;replace E:=aA.mk E;simp only [↓pre,zad,zE,simprocAttr,bne,e1,e2,e3,e4,e5,e7,G,I,wi];exact ⟨q - 1,by have:=V.out;omega,i+1,a3,by have:=V.out;omega,rfl,rfl,E⟩
 ·have hi:i=K+R:=by have:=V.out;omega
  subst hi;have p:¬ ((K+R:Nat):Int) < ((K+R:Nat):Int):=by omega
  have s:=fun k=>adG hJ.out (aph _) k
  replace s:=aA.mk s;simp only [↓pre,za,aaQ,zE,simprocAttr,bne,G,a0,I,B.len',p];exact ⟨1,s.out 0⟩
def uX:Nat→Bool:=fun d=>d != 21
def aja (k r c w:Int) (ps:List aO) (num kd a ver:Int):AV:=if jF k r c w ps kd ver < k.toNat then .tup [aW,aB 5] else .tup [bE (oC k r c w ps num kd a ver (k+r).toNat).length (eH (oC k r c w ps num kd a ver (k+r).toNat)),aB 0]
theorem aya (k r c w num kd d ver:Int) (v:AV) (ps:List aO) (cells:List AV) (hv:dG v ps cells) (X:bG k r c w=true) (hr:dE k r c ps=true) (c6:kd=1∨kd=2) (d1:0≤d):aQ ayU 118 [aC k r c w,v,aB num,.val (.int .u8 kd),aB d,aB ver] ⟨aja k r c w ps num kd d ver,[]⟩:=by
 refine gA ?_;have hp:=hv.rd.plain;have o:=ap9 k r c w kd ver v ps cells hv X hr;unfold wF at o;unfold aja;by_cases A:jF k r c w ps kd ver < k.toNat
 ·rw [if_pos A] at o ⊢;have hf:=fun m=>pE (dK (.slice none 0 0)) (dK (.int .i64 5)) 1 m
  unfold aW at o;simp only [aB] at o;replace hf:=aA.mk hf;replace A:=aA.mk A;refine bV Tryz.func118 aD (h:=?_);unfold Tryz.f118;simp only [↓pre,zab,vQ,simprocAttr,aC]
  (first | refine aI (o) (by first | rfl | simp only [aE, *]) ?_ | refine aH (o) (by first | rfl | simp only [aC,aE, *]) (by intro k;first | rfl | simp only [ *,zaa]) ?_);simp only [↓pre,zac,simprocAttr]
  exact ⟨1,hf.out _⟩
 ·rw [if_neg A] at o ⊢;obtain ⟨l,U⟩:=apg X A;obtain ⟨b7,b9⟩:=aaw U;obtain ⟨hl,c5⟩:=qR hr;have a2:=fG X;have b4:=kW.1 X;obtain ⟨N,hN⟩:∃ N:Nat,k+r=(N:Int):=⟨(k+r).toNat,by omega⟩
  have b8:(k+r).toNat=N:=by omega
  have b6:ps.length=N:=by omega
  have d2:l.length=N:=by omega
  have Y:=aA.mk (show N≤16 by omega);have a6:=ap8 k r c w kd ver v ps cells hv X hr;have G:=ai5 k r c w kd ver v ps cells hv X (by omega);rw [U] at G;have c4:=adJ k r c w ps kd ver;have t:=fun (i:Nat) (hi:i < N) dv y hd=>aqg k r c w num d v ps cells hv X hr d1 (mF k r c w ps kd ver i) (aiP X c6 U (by omega)) (.tree l.length l.length (bJ l) false) dv [] y ⟨.inr (.inr ⟨_,false,by rw [aBl];unfold mF;rw [U];rfl,by unfold mF;rw [U];exact aza _⟩)⟩ hd
  have b0:=aiO k r c w ps num kd d ver;have I:=afY k r c w ps num kd d ver;have a4:oC k r c w ps num kd d ver 0=[]:=rfl;obtain ⟨C,hC⟩:∃ C:Nat,c=(C:Int):=⟨c.toNat,by omega⟩
  have b5:c.toNat=C:=by omega
  have H:∀ i,mF k r c w ps kd ver i=⟨kd,i,l.getD i 0,ver,l,tab C (iZ k r c w ps kd ver i)⟩:=fun i=>by unfold mF;rw [U,b5];rfl
  rw [b5,b8] at o;rw [b8];have E:=fun i (h:i < N)=>aat (L:=C) (F:=iZ k r c w ps kd ver) (a:=0) h
  have V:=eQ N (dJ C (iZ k r c w ps kd ver) 0 N);have c9:=dB V;have g:aT (.tree l.length l.length (bJ l) false) l.length (bJ l):=⟨.inr (.inr ⟨_,false,rfl,aza _⟩)⟩
  generalize a5:kO k r c w ps kd d=K at *
  replace t:=fun (i:Nat) (hi:i < N) dv y hd=>by
   have h:=t i hi dv y hd;rw [H i] at h;simp only [a5] at h;exact h
  have b:∀ i,oC k r c w ps num kd d ver (i+1)=oC k r c w ps num kd d ver i++(if ((eR k r c w ps kd ver).getD i []).length=0 then [gS k r c w ps num K ⟨kd,i,l.getD i 0,ver,l,tab C (iZ k r c w ps kd ver i)⟩] else []):=fun i=>by rw [b0,H]
  generalize oC k r c w ps num kd d ver=MN at *
  generalize iZ k r c w ps kd ver=W at *
  have B:=fun i (h:i < ps.length)=>by
   have:=adM (T:=eR k r c w ps kd ver) (n:=ps.length) (j:=i) (by rw [c4];exact h);rw [if_pos h] at this;exact this
  have Z:(fB (eR k r c w ps kd ver) ps.length).length=ps.length:=by rw [adL,c4]
  have f:aT (.tree ps.length ps.length (fB (eR k r c w ps kd ver) ps.length) true) ps.length (fB (eR k r c w ps kd ver) ps.length):=kP _ _ _;generalize fB (eR k r c w ps kd ver) ps.length=TA at *
  generalize eR k r c w ps kd ver=T at *
  generalize AV.tree ps.length ps.length TA true=TV at *
  generalize jF k r c w ps kd ver=MY at *
  have sT:=dB f;rw [show jZ (some l)=AV.tree l.length l.length (bJ l) false from rfl] at G;generalize c3:AV.tree l.length l.length (bJ l) false=LV at *
  generalize c0:bE N (dJ C (W) 0 N)=CV at *
  have sL:=dB g;have fL:=bW g;have qL:=bR g;have cL:=uS g;have oL:=uT g;have pL:=g.plain;rw [b6] at f B;simp only [aB] at o a6 G;replace a2:=aA.mk a2;replace b4:=aA.mk b4;replace H:=aA.mk H;replace b0:=aA.mk b0;replace b:=aA.mk b;replace I:=aA.mk I;replace t:=aA.mk t;replace c5:=aA.mk c5;replace b9:=aA.mk b9;replace E:=aA.mk E;replace a4:=aA.mk a4;replace A:=aA.mk A;replace B:=aA.mk B;replace Z:=aA.mk Z;replace U:=aA.mk U;replace c3:=aA.mk c3;replace c0:=aA.mk c0;replace a5:=aA.mk a5;replace b7:=aA.mk b7;replace hN:=aA.mk hN;replace hC:=aA.mk hC;refine bV Tryz.func118 uX (h:=?_);unfold Tryz.f118;simp only [↓pre,zad,vQ,uX,simprocAttr,aC,bne]
  (first | refine aI (o) (by first | rfl | simp only [aE, *]) ?_ | refine aH (o) (by first | rfl | simp only [aC,aE, *]) (by intro k;first | rfl | simp only [ *,zaa]) ?_);simp only [↓pre,zad,vQ,uX,aX,simprocAttr,bne,c9];(first | refine aI (a6) (by first | rfl | simp only [aE, *]) ?_ | refine aH (a6) (by first | rfl | simp only [aC,aE, *]) (by intro k;first | rfl | simp only [ *,zaa]) ?_);simp only [↓pre,zad,vQ,uX,aX,simprocAttr,bne,sT];(first | refine aI (G) (by first | rfl | simp only [aE, *]) ?_ | refine aH (G) (by first | rfl | simp only [aC,aE, *]) (by intro k;first | rfl | simp only [ *,zaa]) ?_);simp only [↓pre,simprocAttr,sx,aX,sL]
  rw [bS];refine bU (fun q e m=>∃ i lv,q+i=N∧e 1=v∧e 2=aB num∧e 3 = .val (.int .u8 kd)∧e 4=aB d∧e 5=aB ver∧e 6 = .tptr 0 [aB k,aB r,aB c,aB w]∧e 14=CV∧e 16=TV∧e 18=LV∧e 19=lv∧e 20=aB (i:Nat)∧aA (bY .var m 69 4 lv (MN i).length (eH (MN i)))) N ⟨0,aW,by omega,rfl,rfl,rfl,rfl,rfl,rfl,rfl,rfl,rfl,rfl,rfl,⟨by rw [a4.out];exact gK⟩⟩ ?_;rintro q e m ⟨i,lv,hq,e1,e2,e3,e4,e5,e6,a7,S,R,a9,O,hJ⟩;replace hq:=aA.mk hq;by_cases p:i < N
  ·have s:((i:Nat):Int) < ((N:Nat):Int):=by omega
   have wi:=cB (n:=i) (by have:=a2.out;have:=hN.out;omega);have c2:=B.out i p;have b:=b.out i;have D:=I.out i;have b3:aT (jA (T.getD i [])) (T.getD i []).length (aJ (T.getD i [])):=by have:=afM (T.getD i []);rwa [aBl] at this
   generalize jA (T.getD i [])=BT at *
   by_cases h9:(T.getD i []).length=0
   ·rw [if_pos h9] at b;have a1:(((T.getD i []).length:Nat):Int)=0:=by omega
    obtain ⟨z,hz⟩:∃ z,l[i]? = some z:=⟨_,azm (by omega)⟩
    have b2:=nU (x:=[]) hz;rw [aBl] at b2;have d0:i < l.length:=by omega
    have a0:l.getD i 0=z:=by rw [azs,hz];rfl
    have c1:=E.out i p;rw [Nat.zero_add] at c1;have u:=kP C (aR C (W i)) true;have M:=t.out i p (.tree C C (aR C (W i)) true) [] (by rw [H.out i];have h9:=pA C (W i);show aT _ (tab C (W i)).length (aJ (tab C (W i))++[]);rw [h9,aBl];exact u);rw [a0] at M b;have b1:=eQ (gS k r c w ps num K ⟨kd,i,z,ver,l,tab C (W i)⟩).bs.length (aJ (gS k r c w ps num K ⟨kd,i,z,ver,l,tab C (W i)⟩).bs);have a3:(gS k r c w ps num K ⟨kd,i,z,ver,l,tab C (W i)⟩).cells=[aB (gS k r c w ps num K ⟨kd,i,z,ver,l,tab C (W i)⟩).dr,aB (gS k r c w ps num K ⟨kd,i,z,ver,l,tab C (W i)⟩).row,aB (gS k r c w ps num K ⟨kd,i,z,ver,l,tab C (W i)⟩).sl,bE (gS k r c w ps num K ⟨kd,i,z,ver,l,tab C (W i)⟩).bs.length (aJ (gS k r c w ps num K ⟨kd,i,z,ver,l,tab C (W i)⟩).bs)]:=rfl;have P:eH (MN (i+1))=eH (MN i)++(gS k r c w ps num K ⟨kd,i,z,ver,l,tab C (W i)⟩).cells:=by rw [b,aql]
    have a8:(MN (i+1)).length=(MN i).length+1:=by rw [b,List.length_append];rfl
    rw [a3] at M P;clear b;generalize (gS k r c w ps num K ⟨kd,i,z,ver,l,tab C (W i)⟩)=PC at *
    generalize bE PC.bs.length (aJ PC.bs)=BV at *
    generalize AV.tree C C (aR C (W i)) true=CC at *
    have sB:=dB b1;have fa:=bW u;have qa:=bR u;have ca:=uS u;have oa:=uT u;have pa:=u.plain;simp only [aB] at M P;replace P:=aA.mk P;replace a8:=aA.mk a8;replace u:=aA.mk u;replace a3:=aA.mk a3;replace hz:=aA.mk hz;replace a0:=aA.mk a0;replace h9:=aA.mk h9;replace D:=aA.mk D;have c7:=aA.mk (aqm hJ.out);simp only [↓pre,za,vQ,uX,simprocAttr,bne,e3,S,R,O,f.len',s,f.addr',p,c2,b3.len',a1];simp only [↓pre,za,vQ,uX,bD,simprocAttr,bne,↓cL,↓oL,e5,a7,R,O,g.addr',d0,b2,V.addr',p,c1,↓ca,↓oa];refine oO (by kernel_rfl) ?_;simp only [↓pre,za,vQ,uX,simprocAttr,bne,aS,fL,fa];refine cX (by kernel_rfl) ?_;simp only [↓pre,za,vQ,uX,simprocAttr,bne,e1,e2,e4,e6,a9]
    (first | refine aI (M) (by first | rfl | simp only [aE, *]) ?_ | refine aH (M) (by first | rfl | simp only [aC,aE, *]) (by intro k;first | rfl | simp only [ *,zaa]) ?_);simp only [↓pre,za,vQ,uX,cO,simprocAttr,bne,sB,aqj b1]
    refine nP (kd := .var) (sz:=4) (y:=48) (zl:=[.int .i64 0,.int .i64 0,.int .i64 0,.slice none 0 0]) (by kernel_rfl) ((hJ.out.push _).put_ne fun h=>by have:=c7.out _ h;omega) (by kernel_rfl) (by kernel_rfl) (by kernel_rfl) rfl aqk rfl (by have:=D.out;have:=Y.out;omega) (by have:=D.out;have:=Y.out;omega) ?_;intro c8 m' Q d3;rw [←P.out,←a8.out] at Q;replace Q:=aA.mk Q;simp only [↓pre,zad,uX,simprocAttr,bne,e1,e2,e3,e4,e5,e6,a7,S,R,O,wi];exact ⟨q - 1,by have:=hq.out;omega,i+1,c8,by have:=hq.out;omega,rfl,rfl,Q⟩
   ·rw [if_neg h9,aBl] at b;have a1:¬ (((T.getD i []).length:Nat):Int)=0:=by omega
    replace b:=aA.mk b;simp only [↓pre,za,vQ,uX,simprocAttr,bne,e1,e2,e3,e4,e5,e6,a7,S,R,a9,O,f.len',s,f.addr',p,c2,b3.len',a1,wi];refine ⟨q - 1,by have:=hq.out;omega,i+1,lv,by have:=hq.out;omega,rfl,rfl,⟨?_⟩⟩;rw [b.out];exact hJ.out
  ·have s:¬ ((i:Nat):Int) < ((N:Nat):Int):=by omega
   have hi:i=N:=by have:=hq.out;omega
   subst hi;have J:=fun k=>adG hJ.out (aph _) k
   replace J:=aA.mk J;simp only [↓pre,za,vQ,uX,simprocAttr,bne,S,a9,O,f.len',s];exact ⟨1,by rw [kH,eC,J.out,aAk,eC,gU,jI];rfl⟩
theorem aqn (s o:AV) (l:List cW) (b:aT s l.length (eH l)) (j:aT o l.length (eH l)) (r:l.length≤1000):aQ ayU 43 [s,o] ⟨aZ true,[]⟩:=by
 have z:=b.plain;have B:=j.plain;replace r:=aA.mk r;refine aV Tryz.func43 aD (h:=?_);unfold Tryz.f43;simp only [↓pre,zae,ahj,simprocAttr,b.len',j.len'];rw [bS];refine bU (fun q e m=>∃ i,q+i=l.length∧e 0=s∧e 1=o∧e 5=aB (i:Nat)) l.length ⟨0,by omega,rfl,rfl,rfl⟩ ?_;rintro q e m ⟨i,f,u,D,x⟩;replace f:=aA.mk f;by_cases k:i < l.length
 ·have a:((i:Nat):Int) < ((l.length:Nat):Int):=by omega
  have w1:=cB (n:=i) (by have:=r.out;omega);obtain ⟨p,g⟩:∃ p,l[i]? = some p:=⟨_,azm k⟩
  obtain ⟨v,w,t,A⟩:=apn l i p g;have y:aT (bE p.bs.length (aJ p.bs)) p.bs.length (aJ p.bs++[]):=by rw [aBl];exact eQ _ _
  generalize bE p.bs.length (aJ p.bs)=E at *
  have C:=fun (d c:Bool) (m:aF)=>vW (d:=d) (c:=c) (m:=m) y
  simp only [aB] at v w t;replace g:=aA.mk g;simp only [↓pre,zae,ahj,uK,simprocAttr,u,D,x,a,b.len',b.addr',j.addr',k,v,w,t,A,C,w1];exact ⟨q - 1,by have:=f.out;omega,i+1,by have:=f.out;omega,rfl⟩
 ·have a:¬ ((i:Nat):Int) < ((l.length:Nat):Int):=by omega
  simp only [↓pre,zae,ahj,simprocAttr,u,x,a,b.len']
theorem ayb (k r c w len dep:Int) (v:AV) (l:List cC) (d:qG v l) (i:l.length≤9223372036854775807):aQ ayU 199 [aC k r c w,.agg [aB len,aB dep,v]] ⟨aB (iE k r c w len dep l),[]⟩:=by
 have b:=adr k r c w;have a:=fun e=>aqa k r c w len dep e v l d i
 obtain ⟨x,d⟩:=d;have f:=bW d;have m:=bR d;have j:=d.plain;unfold iE;cases e:bG k r c w with
 | false =>
  rw [if_neg (by decide)];rw [e] at b;clear a;refine aV Tryz.func199 aD (h:=?_);unfold Tryz.f199;simp only [↓pre,zab,adk,simprocAttr,aC,f]
  (first | refine aI (b) (by first | rfl | simp only [aC,aE, *]) ?_ | refine aH (b) (by first | rfl | simp only [aC,aE, *]) (by intro k;first | rfl | simp only [ *,zaa]) ?_);simp only [↓pre,zab,aZ,simprocAttr]
 | true =>
  rw [if_pos rfl];rw [e] at b;have a:=a e;cases g:uR k r c w len dep l with
  | false =>
   rw [if_neg (by decide)];rw [g] at a;refine aV Tryz.func199 aD (h:=?_);unfold Tryz.f199;simp only [↓pre,zab,adk,simprocAttr,aC,f]
   (first | refine aI (b) (by first | rfl | simp only [aC,aE, *]) ?_ | refine aH (b) (by first | rfl | simp only [aC,aE, *]) (by intro k;first | rfl | simp only [ *,zaa]) ?_);simp only [↓pre,zab,adk,aZ,simprocAttr];(first | refine aI (a) (by first | rfl | simp only [aE, *]) ?_ | refine aH (a) (by first | rfl | simp only [aC,aE, *]) (by intro k;first | rfl | simp only [ *,zaa]) ?_);simp only [↓pre,zab,aZ,simprocAttr]
  | true =>
   rw [if_pos rfl];rw [g] at a;refine aV Tryz.func199 aD (h:=?_);unfold Tryz.f199;simp only [↓pre,zab,adk,simprocAttr,aC,f]
   (first | refine aI (b) (by first | rfl | simp only [aC,aE, *]) ?_ | refine aH (b) (by first | rfl | simp only [aC,aE, *]) (by intro k;first | rfl | simp only [ *,zaa]) ?_);simp only [↓pre,zab,adk,aZ,simprocAttr];(first | refine aI (a) (by first | rfl | simp only [aE, *]) ?_ | refine aH (a) (by first | rfl | simp only [aC,aE, *]) (by intro k;first | rfl | simp only [ *,zaa]) ?_);simp only [↓pre,zab,aZ,simprocAttr]
theorem ayc (k r c w len dep:Int) (v:AV) (l:List cC) (b:qG v l) (i:l.length≤9223372036854775807):aQ ayU 114 [aC k r c w,.agg [aB len,aB dep,v]] ⟨.tup [if iE k r c w len dep l=0 then .tree (wI k c).toNat (wI k c).toNat (aJ (fJ k c len dep l)) true else aW,aB (iE k r c w len dep l)],[]⟩:=by
 have d:=ayb k r c w len dep v l b i;have e:=fun a=>aqc k r c w len dep v l b a
 obtain ⟨x,b⟩:=b;have f:=bW b;have m:=bR b;have j:=b.plain;by_cases a:iE k r c w len dep l=0
 ·rw [if_pos a];have e:=e a;rw [a] at d ⊢;have g:=dB (kP (wI k c).toNat (aJ (fJ k c len dep l)) true);refine aV Tryz.func114 aD (h:=?_);unfold Tryz.f114;simp only [↓pre,zab,aho,simprocAttr,aC,f]
  (first | refine aI (d) (by first | rfl | simp only [aE, *]) ?_ | refine aH (d) (by first | rfl | simp only [aC,aE, *]) (by intro k;first | rfl | simp only [ *,zaa]) ?_);simp only [↓pre,zab,aho,simprocAttr];(first | refine aI (e) (by first | rfl | simp only [aE, *]) ?_ | refine aH (e) (by first | rfl | simp only [aC,aE, *]) (by intro k;first | rfl | simp only [ *,zaa]) ?_);simp only [↓pre,simprocAttr,sx,g]
 ·rw [if_neg a];clear e;generalize iE k r c w len dep l=E at *
  refine aV Tryz.func114 aD (h:=?_);unfold Tryz.f114;simp only [↓pre,zab,aho,simprocAttr,aC,f]
  (first | refine aI (d) (by first | rfl | simp only [aE, *]) ?_ | refine aH (d) (by first | rfl | simp only [aC,aE, *]) (by intro k;first | rfl | simp only [ *,zaa]) ?_);simp only [↓pre,zab,simprocAttr,a,aW]
theorem ayd (k r c w:Int):aQ ayU 42 [aC k r c w] ⟨.tup [aB (if bG k r c w then k else 0),aB (if bG k r c w then 0 else 2)],[]⟩:=by
 have a:=adr k r c w;cases b:bG k r c w with
 | false =>
  rw [b] at a;refine aV Tryz.func42 aD (h:=?_);unfold Tryz.f42;simp only [↓pre,zab,ahi,simprocAttr,aC]
  (first | refine aI (a) (by first | rfl | simp only [aC,aE, *]) ?_ | refine aH (a) (by first | rfl | simp only [aC,aE, *]) (by intro k;first | rfl | simp only [ *,zaa]) ?_);simp only [↓pre,zab,aZ,simprocAttr]
 | true =>
  rw [b] at a;refine aV Tryz.func42 aD (h:=?_);unfold Tryz.f42;simp only [↓pre,zab,ahi,simprocAttr,aC]
  (first | refine aI (a) (by first | rfl | simp only [aC,aE, *]) ?_ | refine aH (a) (by first | rfl | simp only [aC,aE, *]) (by intro k;first | rfl | simp only [ *,zaa]) ?_);simp only [↓pre,zab,ahi,aZ,simprocAttr]
theorem aqo (k r c w:Int) (ps:List aO):0≤mQ k r c w ps∧mQ k r c w ps≤1073741824:=by
 unfold mQ;rw [azs];cases h:(fU k r c w ps)[1]? with
 | none=>simp
 | some z =>
  have a:z∈(kE k r c w ps).filter (nX k (eW k r c w ps)):=List.mem_of_getElem? h;have:=(ahZ k r c w ps).2 _ (List.mem_filter.1 a).1;simp only [aAE];omega
theorem aye {k r c w num:Int} {ps:List aO} (a:cS k r c w ps=0) (h:¬ num < 0) (i:¬ w≤num) (e:cY k r c w ps≠0):oB k r c w ps num 2 (mQ k r c w ps) (cY k r c w ps)=0:=by
 obtain ⟨b,f⟩:=uU a;have g:=aqo k r c w ps;have d:pG k r c w ps=0:=by unfold pG;rw [if_pos b,if_pos f]
 unfold oB;rw [if_pos d,if_neg (by omega)];unfold wD;rw [if_pos ⟨.inr rfl,afU a e⟩]
theorem ayf (k r c w num ver len dep:Int) (v dv:AV) (ps:List aO) (cells:List AV) (l:List cC) (F:dG v ps cells) (K:qG dv l) (S:l.length≤9223372036854775807):aQ ayU 38 [aC k r c w,v,aB num,aB ver,.agg [aB len,aB dep,dv]] ⟨acF k r c w ps num ver len dep l,[]⟩:=by
 have f:=ahM k r c w v ps cells F;have s:=ayc k r c w len dep dv l K S;have o:=am0 ver;have Y:=F.rd.plain;obtain ⟨U,A⟩:=K;have D:=bW A;have T:=bR A;have Z:=A.plain;unfold acF nI;by_cases C:cS k r c w ps=0
 ·rw [C] at f;simp only [if_pos C];have i:=ah0 k r c w v ps cells F C;rw [show (fU k r c w ps).getD 0 0=cY k r c w ps from rfl] at i;have b:=fun j=>apC (num:=num) (ver:=ver) C j
  obtain ⟨G,_⟩:=uU C;have g:=fG G;have n:=kW.1 G;have a:=fun B bs R=>ax9 k r c w num 2 (cY k r c w ps) ver v ps cells F B bs R
  have M:sG k r c w ps num ver len dep l=mS k r c w ps num 2 (cY k r c w ps) ver (fJ k c len dep l) (k+r).toNat:=rfl;rw [M];clear M;generalize (fU k r c w ps).getD 1 0=RU at *
  generalize cY k r c w ps=W at *
  by_cases j:uW w num ver W
  ·simp only [if_pos j];rw [if_neg (by decide)];have J:num < 0∨(¬ num < 0∧w≤num)∨(¬ num < 0∧¬ w≤num∧eL ver=false)∨(¬ num < 0∧¬ w≤num∧eL ver=true∧ver≤W):=by
    unfold uW at j;unfold eL;rw [decide_eq_false_iff_not,decide_eq_true_eq];omega
   replace j:=aA.mk j;replace n:=aA.mk n;replace g:=aA.mk g;replace b:=aA.mk b;replace a:=aA.mk a;clear s;unfold aW;rcases J with t | ⟨t,z⟩ | ⟨t,z,E⟩ | ⟨t,z,E,O⟩
   ·refine aV Tryz.func38 aD (h:=?_);unfold Tryz.f38;simp only [↓pre,zab,lY,simprocAttr,aC,D]
    (first | refine aI (f) (by first | rfl | simp only [aE, *]) ?_ | refine aH (f) (by first | rfl | simp only [aC,aE, *]) (by intro k;first | rfl | simp only [ *,zaa]) ?_);simp only [↓pre,zac,lY,simprocAttr];(first | refine aI (i) (by first | rfl | simp only [aE, *]) ?_ | refine aH (i) (by first | rfl | simp only [aC,aE, *]) (by intro k;first | rfl | simp only [ *,zaa]) ?_);simp only [↓pre,zac,simprocAttr,t]
   ·refine aV Tryz.func38 aD (h:=?_);unfold Tryz.f38;simp only [↓pre,zab,lY,simprocAttr,aC,D]
    (first | refine aI (f) (by first | rfl | simp only [aE, *]) ?_ | refine aH (f) (by first | rfl | simp only [aC,aE, *]) (by intro k;first | rfl | simp only [ *,zaa]) ?_);simp only [↓pre,zac,lY,simprocAttr];(first | refine aI (i) (by first | rfl | simp only [aE, *]) ?_ | refine aH (i) (by first | rfl | simp only [aC,aE, *]) (by intro k;first | rfl | simp only [ *,zaa]) ?_);simp only [↓pre,zac,lY,simprocAttr,t,z]
   ·rw [E] at o;refine aV Tryz.func38 aD (h:=?_);unfold Tryz.f38;simp only [↓pre,zab,lY,simprocAttr,aC,D]
    (first | refine aI (f) (by first | rfl | simp only [aE, *]) ?_ | refine aH (f) (by first | rfl | simp only [aC,aE, *]) (by intro k;first | rfl | simp only [ *,zaa]) ?_);simp only [↓pre,zac,lY,simprocAttr];(first | refine aI (i) (by first | rfl | simp only [aE, *]) ?_ | refine aH (i) (by first | rfl | simp only [aC,aE, *]) (by intro k;first | rfl | simp only [ *,zaa]) ?_);simp only [↓pre,zac,lY,simprocAttr,t,z];(first | refine aI (o) (by first | rfl | simp only [aC,aE, *]) ?_ | refine aH (o) (by first | rfl | simp only [aC,aE, *]) (by intro k;first | rfl | simp only [ *,zaa]) ?_);simp only [↓pre,zac,simprocAttr]
   ·rw [E] at o;refine aV Tryz.func38 aD (h:=?_);unfold Tryz.f38;simp only [↓pre,zab,lY,simprocAttr,aC,D]
    (first | refine aI (f) (by first | rfl | simp only [aE, *]) ?_ | refine aH (f) (by first | rfl | simp only [aC,aE, *]) (by intro k;first | rfl | simp only [ *,zaa]) ?_);simp only [↓pre,zac,lY,simprocAttr];(first | refine aI (i) (by first | rfl | simp only [aE, *]) ?_ | refine aH (i) (by first | rfl | simp only [aC,aE, *]) (by intro k;first | rfl | simp only [ *,zaa]) ?_);simp only [↓pre,zac,lY,simprocAttr,t,z];(first | refine aI (o) (by first | rfl | simp only [aC,aE, *]) ?_ | refine aH (o) (by first | rfl | simp only [aC,aE, *]) (by intro k;first | rfl | simp only [ *,zaa]) ?_);simp only [↓pre,zac,simprocAttr,O]
  ·simp only [if_neg j];have B:=b j;have p:=j;unfold uW at p;have t:¬ num < 0:=by omega
   have z:¬ w≤num:=by omega
   have E:eL ver=true:=by unfold eL;rw [decide_eq_true_eq];omega
   have L:¬ ver≤W:=by omega
   rw [E] at o;by_cases u:iE k r c w len dep l=0
   ·rw [if_pos u,u] at s;simp only [if_pos u];have y:=apB u G;have x:=a B (fJ k c len dep l) (by rw [y];unfold wI;have:0≤k*c:=Int.mul_nonneg (by omega) (by omega);omega);rw [y] at x;have q:=eQ (k+r).toNat (eH (mS k r c w ps num 2 W ver (fJ k c len dep l) (k+r).toNat));have H:=dB q;have Q:=q.plain;generalize bE (k+r).toNat (eH (mS k r c w ps num 2 W ver (fJ k c len dep l) (k+r).toNat))=BV at *
    simp only [aB] at x s;generalize (wI k c).toNat=V at *
    generalize aJ (fJ k c len dep l)=X at *
    replace n:=aA.mk n;replace g:=aA.mk g;replace a:=aA.mk a;replace b:=aA.mk b;replace B:=aA.mk B;replace j:=aA.mk j;replace p:=aA.mk p;replace y:=aA.mk y;replace u:=aA.mk u;have N:=fun m d I rows=>afj (P:=ayU) (m:=m) q d I rows
    replace q:=aA.mk q;refine aV Tryz.func38 aD (h:=?_);unfold Tryz.f38;simp only [↓pre,zab,lY,simprocAttr,aC,D]
    (first | refine aI (f) (by first | rfl | simp only [aE, *]) ?_ | refine aH (f) (by first | rfl | simp only [aC,aE, *]) (by intro k;first | rfl | simp only [ *,zaa]) ?_);simp only [↓pre,zac,lY,simprocAttr];(first | refine aI (i) (by first | rfl | simp only [aE, *]) ?_ | refine aH (i) (by first | rfl | simp only [aC,aE, *]) (by intro k;first | rfl | simp only [ *,zaa]) ?_);simp only [↓pre,zac,lY,simprocAttr,t,z];(first | refine aI (o) (by first | rfl | simp only [aC,aE, *]) ?_ | refine aH (o) (by first | rfl | simp only [aC,aE, *]) (by intro k;first | rfl | simp only [ *,zaa]) ?_);simp only [↓pre,zac,lY,simprocAttr,L];(first | refine aI (s) (by first | rfl | simp only [aE, *]) ?_ | refine aH (s) (by first | rfl | simp only [aC,aE, *]) (by intro k;first | rfl | simp only [ *,zaa]) ?_);simp only [↓pre,zac,lY,simprocAttr];(first | refine aI (x) (by first | rfl | simp only [aE, *]) ?_ | refine aH (x) (by first | rfl | simp only [aC,aE, *]) (by intro k;first | rfl | simp only [ *,zaa]) ?_);simp only [↓pre,simprocAttr,sx,H,N]
   ·rw [if_neg u] at s;simp only [if_neg u];generalize iE k r c w len dep l=e at *
    unfold aW at s ⊢;simp only [aB] at s;replace n:=aA.mk n;replace g:=aA.mk g;replace a:=aA.mk a;replace b:=aA.mk b;replace B:=aA.mk B;replace j:=aA.mk j;replace p:=aA.mk p;refine aV Tryz.func38 aD (h:=?_);unfold Tryz.f38;simp only [↓pre,zab,lY,simprocAttr,aC,D]
    (first | refine aI (f) (by first | rfl | simp only [aE, *]) ?_ | refine aH (f) (by first | rfl | simp only [aC,aE, *]) (by intro k;first | rfl | simp only [ *,zaa]) ?_);simp only [↓pre,zac,lY,simprocAttr];(first | refine aI (i) (by first | rfl | simp only [aE, *]) ?_ | refine aH (i) (by first | rfl | simp only [aC,aE, *]) (by intro k;first | rfl | simp only [ *,zaa]) ?_);simp only [↓pre,zac,lY,simprocAttr,t,z];(first | refine aI (o) (by first | rfl | simp only [aC,aE, *]) ?_ | refine aH (o) (by first | rfl | simp only [aC,aE, *]) (by intro k;first | rfl | simp only [ *,zaa]) ?_);simp only [↓pre,zac,lY,simprocAttr,L];(first | refine aI (s) (by first | rfl | simp only [aE, *]) ?_ | refine aH (s) (by first | rfl | simp only [aC,aE, *]) (by intro k;first | rfl | simp only [ *,zaa]) ?_);simp only [↓pre,zac,simprocAttr,u]
 ·simp only [if_neg C];generalize cS k r c w ps=e at *
  clear s o;unfold aW;refine aV Tryz.func38 aD (h:=?_);unfold Tryz.f38;simp only [↓pre,zab,lY,simprocAttr,aC,D]
  (first | refine aI (f) (by first | rfl | simp only [aE, *]) ?_ | refine aH (f) (by first | rfl | simp only [aC,aE, *]) (by intro k;first | rfl | simp only [ *,zaa]) ?_);simp only [↓pre,zac,simprocAttr,C]
theorem ayg (k r c w num:Int) (v:AV) (ps:List aO) (cells:List AV) (u:dG v ps cells):aQ ayU 40 [aC k r c w,v,aB num] ⟨zA k r c w ps num,[]⟩:=by
 have g:=ahM k r c w v ps cells u;have G:=u.rd.plain;unfold zA mR;by_cases q:cS k r c w ps=0
 ·rw [q] at g;simp only [if_pos q];have o:=ah0 k r c w v ps cells u q;rw [show (fU k r c w ps).getD 0 0=cY k r c w ps from rfl,show (fU k r c w ps).getD 1 0=mQ k r c w ps from rfl] at o;obtain ⟨D,F⟩:=uU q;have f:=aya k r c w num 2 (mQ k r c w ps) (cY k r c w ps) v ps cells u D F (.inr rfl) (aqo k r c w ps).1;have l:=fun a b d=>aye (num:=num) q a b d
  unfold iV;unfold acB;unfold aja at f;generalize oC k r c w ps num 2 (mQ k r c w ps) (cY k r c w ps) (k+r).toNat=x at *
  generalize oB k r c w ps num 2 (mQ k r c w ps) (cY k r c w ps)=B at *
  generalize jF k r c w ps 2 (cY k r c w ps)=A at *
  generalize mQ k r c w ps=I at *
  generalize cY k r c w ps=W at *
  generalize j:(if num < 0∨w≤num then (2:Int) else if W=0 then 5 else if B=0 then if A < k.toNat then 5 else 0 else B)=E;by_cases p:num < 0
  ·rw [if_pos (.inl p)] at j;subst j;rw [if_neg (by decide)];clear f l;unfold aW;refine aV Tryz.func40 aD (h:=?_);unfold Tryz.f40;simp only [↓pre,zab,uG,simprocAttr,aC]
   (first | refine aI (g) (by first | rfl | simp only [aE, *]) ?_ | refine aH (g) (by first | rfl | simp only [aC,aE, *]) (by intro k;first | rfl | simp only [ *,zaa]) ?_);simp only [↓pre,zac,simprocAttr,p]
  ·by_cases t:w≤num
   ·rw [if_pos (.inr t)] at j;subst j;rw [if_neg (by decide)];clear f l;unfold aW;refine aV Tryz.func40 aD (h:=?_);unfold Tryz.f40;simp only [↓pre,zab,uG,simprocAttr,aC]
    (first | refine aI (g) (by first | rfl | simp only [aE, *]) ?_ | refine aH (g) (by first | rfl | simp only [aC,aE, *]) (by intro k;first | rfl | simp only [ *,zaa]) ?_);simp only [↓pre,zac,uG,simprocAttr,p,t]
   ·rw [if_neg (by omega)] at j;by_cases s:W=0
    ·rw [if_pos s] at j;subst j;rw [if_neg (by decide)];clear f l;unfold aW;refine aV Tryz.func40 aD (h:=?_);unfold Tryz.f40;simp only [↓pre,zab,uG,simprocAttr,aC]
     (first | refine aI (g) (by first | rfl | simp only [aE, *]) ?_ | refine aH (g) (by first | rfl | simp only [aC,aE, *]) (by intro k;first | rfl | simp only [ *,zaa]) ?_);simp only [↓pre,zac,uG,simprocAttr,p,t];(first | refine aI (o) (by first | rfl | simp only [aE, *]) ?_ | refine aH (o) (by first | rfl | simp only [aC,aE, *]) (by intro k;first | rfl | simp only [ *,zaa]) ?_);simp only [↓pre,zac,simprocAttr,s]
    ·rw [if_neg s,if_pos (l p t s)] at j;clear l;by_cases i:A < k.toNat
     ·rw [if_pos i] at j f;subst j;rw [if_neg (by decide)];unfold aW at f ⊢;simp only [aB] at f;replace i:=aA.mk i;refine aV Tryz.func40 aD (h:=?_);unfold Tryz.f40;simp only [↓pre,zab,uG,simprocAttr,aC]
      (first | refine aI (g) (by first | rfl | simp only [aE, *]) ?_ | refine aH (g) (by first | rfl | simp only [aC,aE, *]) (by intro k;first | rfl | simp only [ *,zaa]) ?_);simp only [↓pre,zac,uG,simprocAttr,p,t];(first | refine aI (o) (by first | rfl | simp only [aE, *]) ?_ | refine aH (o) (by first | rfl | simp only [aC,aE, *]) (by intro k;first | rfl | simp only [ *,zaa]) ?_);simp only [↓pre,zac,uG,simprocAttr,s];(first | refine aI (f) (by first | rfl | simp only [aE, *]) ?_ | refine aH (f) (by first | rfl | simp only [aC,aE, *]) (by intro k;first | rfl | simp only [ *,zaa]) ?_);simp only [↓pre,zab,simprocAttr]
     ·rw [if_neg i] at j f;subst j;rw [if_pos rfl];have n:=eQ x.length (eH x);have y:=dB n;have C:=fun m d z rows=>afj (P:=ayU) (m:=m) n d z rows
      generalize bE x.length (eH x)=H at *
      simp only [aB] at f;replace n:=aA.mk n;replace i:=aA.mk i;refine aV Tryz.func40 aD (h:=?_);unfold Tryz.f40;simp only [↓pre,zab,uG,simprocAttr,aC]
      (first | refine aI (g) (by first | rfl | simp only [aE, *]) ?_ | refine aH (g) (by first | rfl | simp only [aC,aE, *]) (by intro k;first | rfl | simp only [ *,zaa]) ?_);simp only [↓pre,zac,uG,simprocAttr,p,t];(first | refine aI (o) (by first | rfl | simp only [aE, *]) ?_ | refine aH (o) (by first | rfl | simp only [aC,aE, *]) (by intro k;first | rfl | simp only [ *,zaa]) ?_);simp only [↓pre,zac,uG,simprocAttr,s];(first | refine aI (f) (by first | rfl | simp only [aE, *]) ?_ | refine aH (f) (by first | rfl | simp only [aC,aE, *]) (by intro k;first | rfl | simp only [ *,zaa]) ?_);simp only [↓pre,zab,simprocAttr,y,C]
 ·simp only [if_neg q];generalize cS k r c w ps=e at *
  unfold aW;refine aV Tryz.func40 aD (h:=?_);unfold Tryz.f40;simp only [↓pre,zab,uG,simprocAttr,aC]
  (first | refine aI (g) (by first | rfl | simp only [aE, *]) ?_ | refine aH (g) (by first | rfl | simp only [aC,aE, *]) (by intro k;first | rfl | simp only [ *,zaa]) ?_);simp only [↓pre,zac,simprocAttr,q]
end Go.Proofs.YtaekhhlgnbhnpaaGreat