import Derived.WalkKit
import Derived.Laws.Bits64b
import Derived.Test.YtaekhhlgnbhnpaaGreatQmcG21
import Derived.Test.YtaekhhlgnbhnpaaGreatQmcG20
import Derived.Test.YtaekhhlgnbhnpaaGreatQmcG09
import Derived.Test.YtaekhhlgnbhnpaaGreatQmcG19
import Derived.Test.YtaekhhlgnbhnpaaGreatQmcG11
import Derived.Test.YtaekhhlgnbhnpaaGreatQmcG12
import Derived.Test.YtaekhhlgnbhnpaaGreatQmcG15
import Derived.Test.YtaekhhlgnbhnpaaGreatQmcG16
set_option linter.defProp false
set_option linter.unusedVariables false
set_option linter.unusedSimpArgs false
set_option maxRecDepth 100000
open Go.Proofs.Tryz
open BitVec renaming toNat_ofNat→aAY
open Bool renaming false_and→aB3,false_eq_true→azA
open Go.IntKind renaming i64→azy,bits→aAS,signed→aAT
open Go.Proofs.Tryz renaming prog→ayU
open Int renaming natCast_add→aBX,toNat_natCast→aBb
open List renaming replicate→aBr,range→aAp,nil_append→aBt,length_range→aBN,take_of_length_le→aBa,map_append→aBs,take_append_of_le_length→aB5,append_assoc→azW,drop_zero→aBx,append_nil→aBl,range_succ→aAW,getElem?_map→azo,getElem?_range→aBS,ext_getElem?→aAi,getElem?_append_left→azg,getElem?_drop→aAv,getElem?_eq_getElem→azm,getD_eq_getElem?_getD→azs,getElem?_append_right→azh,length_replicate→aB6,length_append→aA2,mem_map→azp,mem_range→aAz,getElem?_eq_none→ay6,mem_of_getElem?→az8
open Nat renaming mod_eq_of_lt→aAZ,mul_one→azG,mul_le_mul_right→azF,add_mul→az0,one_mul→aB1,le_refl→aza,mul_le_mul→aB7,reduceEqDiff→aBW,one_ne_zero→aBm,lt_of_lt_of_le→azd,xor_assoc→aB8,testBit_mod_two_pow→aB9,xor_lt_two_pow→aCa,shiftLeft_eq→aCb,pow_le_pow_right→aCc,and_one_is_mod→aCd,min_eq_left→aCe,testBit_eq_decide_div_mod_eq→aCf,lt_irrefl→aBL,zero_add→azq
open Option renaming bind_some→aAk,getD_some→aAE,getD_none→aAD
open UInt8 renaming ofNat→azQ,toNat_inj→aBf,ofNat_toNat→aCg
namespace Go.Proofs.YtaekhhlgnbhnpaaGreat
open Go Go.Tw Go.Proofs Go.Gf
theorem awR {P:Program} {f:FuncId} {a b c d:Value} (q:zM P f=true) (h:∀ w,Calls P f #[a,b] w fun e w'=>e = .returned (.tuple #[c,d])∧w'=w):aQ P f [.val a,.val b] ⟨.tup [.val c,.val d],[]⟩:=by
 refine ⟨q,fun w I vs v l n => ?_⟩;have m:vs = #[a,b]:=by
  simp only [bB,VR] at n;obtain ⟨⟨u,i,t⟩,⟨A,j,r⟩,_⟩:=n;subst t;subst r
  match vs,l,i,j with
  | ⟨[x,y]⟩,_,i,j=>simp at i j;simp [i,j]
 subst m;refine (h w).mono fun e w' p => ?_
 obtain ⟨s,z⟩:=p;subst z;exact ⟨_,I,dA,s,by simp only [VR,bB];exact ⟨_,rfl,rfl,⟨_,rfl,rfl⟩,⟨_,rfl,rfl⟩,trivial⟩,⟨fun b k g o h=>by simp [eB,gN,aF.empty] at h,fun b C k k' g o B h=>by simp [eB,gN,aF.empty] at h,v,kG.none⟩,cM.refl _ _ _ _⟩
theorem aiX (a:Nat) (b:a≤32):bits .and .u64 (a:Int) 4294967295=(a:Int):=by
 have h:=bits_and_u64_nat a 4294967295 (by omega) (by omega);have e:a &&& 4294967295=a % 4294967296:=Nat.and_two_pow_sub_one_eq_mod a 32;rw [e,aAZ (by omega)] at h;exact h
theorem af2 (a:Nat) (b:a≤32):IntKind.u64.wrap (a:Int)=(a:Int):=by rw [IntKind.wrap_u64];omega
set_option maxHeartbeats 1000000 in
theorem awS (n:Nat) (a:n≤32) (w:World):Calls ayU 332 #[.int .u64 1,.int .u64 n] w fun e w'=>e = .returned (.tuple #[.int .u64 0,.int .u64 n])∧w'=w:=by
 go_enter Tryz.func332,Tryz.ntmps332
 go_wp2
 have c:bits .and .u64 1 4294967295=1:=aiX 1 (by omega);have m0:bits .and .u64 0 4294967295=0:=aiX 0 (by omega);have b:=aiX n a;have w0:IntKind.u64.wrap 0=0:=af2 0 (by omega);have wn:=af2 n a;have d:(n:Int) / 4294967296=0:=by omega
 simp only [c,m0,b,w0,wn,d,Int.one_mul,Int.mul_zero,Int.zero_ediv,Int.add_zero]
 go_ret2
 exact ⟨rfl,rfl⟩
theorem awT (n:Nat) (a:n≤32):aQ ayU 332 [.val (.int .u64 1),.val (.int .u64 n)] ⟨.tup [.val (.int .u64 0),.val (.int .u64 n)],[]⟩:=awR (by kernel_rfl) (awS n a)
theorem awU (n:Nat) (b:n≤32):aQ ayU 304 [.val (.int .u64 1),.val (.int .u64 n)] ⟨.tup [.val (.int .u64 0),.val (.int .u64 n)],[]⟩:=by
 have a:=awT n b;refine aV Tryz.func304 aD (h:=?_);unfold Tryz.f304;simp only [↓pre,zac,simprocAttr]
 (first | refine aI (a) (by first | rfl | simp only [aC,aE, *]) ?_ | refine aH (a) (by first | rfl | simp only [aC,aE, *]) (by intro k;first | rfl | simp only [ *,zaa]) ?_);simp only [↓pre,zab,simprocAttr]
def nH (v:Int) (n i:Nat):List AV:=bJ (aBr i v++aBr (n - i) 0)
theorem apv (v:Int) {n i:Nat} (h:i≤n):(nH v n i).length=n:=by unfold nH bJ;simp;omega
theorem awV (m:aF) {n:Nat} (g:n≤32):nK ayU m 41 n n=some ⟨.sl m.next 0 n n true,m.push ⟨nH 0 n 0,3,.flat,true⟩,none⟩:=by
 have c:bO ayU 41=some 3:=by kernel_rfl
 have a:bX ayU 3=some 1:=by kernel_rfl
 have e:jN ayU 3=some 8:=by kernel_rfl
 have b:bK ayU 3 = .flat:=by kernel_rfl
 have d:=acs a (x := .int .i64 0) (by kernel_rfl) n;have f:nH 0 n 0=(aAp n).map fun _=>AV.val (.int .i64 0):=by
  unfold nH bJ;rw [List.replicate_zero,aBt,Nat.sub_zero,List.map_replicate,List.map_const',aBN];rfl
 rw [f];simp only [nK,c,a,e,b,d,bI,aAk,azG];rw [if_pos (by omega)];rw [aBa (by simp)]
theorem apw {v:Int} {n i j:Nat} (h:i+j≤n):cH (nH v n i) i (bJ (aBr j v))=nH v n (i+j):=by
 unfold cH nH bJ;have e:(List.map aB (aBr i v++aBr (n - i) 0)).take i=List.map aB (aBr i v):=by
  rw [aBs,aB5 (by simp),aBa (by simp)]
 have a:(List.map aB (aBr i v++aBr (n - i) 0)).drop (i+(List.map aB (aBr j v)).length)=List.map aB (aBr (n - (i+j)) 0):=by
  rw [aBs,List.drop_append,List.drop_eq_nil_of_le (by simp),aBt];simp;omega
 rw [e,a,←aBs,←aBs,azW,←azW,List.replicate_append_replicate]
theorem awW {v:Int} {m:aF} {b n:Nat} {f g:Bool} (c:m.at_ b=some ⟨nH 0 n 0,3,.flat,true⟩) (l:1≤n):sR ayU 3 m (.sl b 0 n n f) (.tree 1 1 [aB v] g)=some ⟨aB (1:Nat),m.put b (some ⟨nH v n 1,3,.flat,true⟩),none⟩:=by
 have h:bX ayU 3=some 1:=by kernel_rfl
 have e:bK ayU 3 = .flat:=by kernel_rfl
 have k:nH 0 n 0=nH v n 0:=rfl;have hs:eM ayU 3 1 m (.tree 1 1 [aB v] g)=some ([aB v],1):=by simp [eM,dR]
 have d:=apw (v:=v) (n:=n) (i:=0) (j:=1) (by omega);simp only [sR,h,hs,c,aAk,e];rw [if_pos ⟨trivial,trivial,by rw [apv _ (by omega)];omega⟩,k];have a:min 1 n=1:=by omega
 rw [a,azG,aBa (by simp)];rw [show [aB v]=bJ (aBr 1 v) from rfl,d];rfl
theorem awX {v:Int} {m:aF} {b n i c:Nat} {f g:Bool} (d:m.at_ b=some ⟨nH v n i,3,.flat,true⟩) (hi:i≤n):sR ayU 3 m (.sl b i (n - i) (n - i) f) (.sl b 0 i c g)=some ⟨aB (min i (n - i):Nat),m.put b (some ⟨nH v n (i+min i (n - i)),3,.flat,true⟩),none⟩:=by
 have h:bX ayU 3=some 1:=by kernel_rfl
 have e:bK ayU 3 = .flat:=by kernel_rfl
 have k:=apv v hi;have j:(nH v n i).take i=bJ (aBr i v):=by
  unfold nH bJ;rw [aBs,aB5 (by simp),aBa (by simp)]
 have hs:eM ayU 3 1 m (.sl b 0 i c g)=some (bJ (aBr i v),i):=by
  simp only [eM,dR,d,e,if_true,aAk,aBx,azG];rw [if_pos (by omega),j]
 simp only [sR,h,hs,d,aAk,e];rw [if_pos ⟨trivial,trivial,by omega⟩];have a:(bJ (aBr i v)).take (min i (n - i)*1)=bJ (aBr (min i (n - i)) v):=by
  unfold bJ;rw [azG,←List.map_take,List.take_replicate];congr 2;omega
 rw [a,apw (by omega)];rfl
def acD:Nat→Bool:=fun d=>d != 41 && d != 44
theorem awY (v:Int) (n:Nat) (G:1≤n) (A:n≤32):aQ ayU 253 [.tree 1 1 [aB v] true,aB (n:Nat)] ⟨.tree n n (bJ (aBr n v)) true,[]⟩:=by
 refine gA ?_;have d:=awU n A;have w1:IntKind.u64.wrap 1=1:=af2 1 (by omega);have wn:=af2 n A;have F:azy.wrap (n:Int)=(n:Int):=dO (by omega);have p:¬ (n:Int) < 0:=by omega
 have x:¬ (0:Int) < 0:=by omega
 have r:lenE ayU 41 (.sl 0 0 n n true)=some (.val (.int .i64 n)):=by
  have:bO ayU 41=some 3:=by kernel_rfl
  simp [lenE,this,sN,aB]
 have l:¬ (9223372036854775807:Int) < (n:Int):=by omega
 have s:=fun m=>awV m A
 have y:lenE ayU 41 (.tree 1 1 [.val (.int .i64 v)] true)=some (.val (.int .i64 1)):=by kernel_rfl
 have j:=fun (m:aF) (o:m.at_ 0=some ⟨nH 0 n 0,3,.flat,true⟩)=>awW (v:=v) (f:=true) (g:=true) o G
 simp only [aB] at j;refine bV Tryz.func253 acD (h:=?_);unfold Tryz.f253;simp only [↓pre,za,ahx,acD,cO,simprocAttr,bne,p,w1,wn,y]
 (first | refine aI (d) (by first | rfl | simp only [aC,aE, *]) ?_ | refine aH (d) (by first | rfl | simp only [aC,aE, *]) (by intro k;first | rfl | simp only [ *,zaa]) ?_);simp only [↓pre,zaf,ahx,acD,cO,adN,simprocAttr,bne,F,l,x,s]
 rw [j _ (by simp [cF,aX])];simp only [↓pre,simprocAttr];rw [bS];refine bU (fun q e m=>∃ i,q+i=n∧1≤i∧e 8=aB (i:Nat)∧e 7 = .sl 0 0 n n true∧aA (m.at_ 0=some ⟨nH v n i,3,.flat,true⟩)) (n - 1) ⟨1,by omega,by omega,rfl,rfl,⟨by simp [cI]⟩⟩ ?_;rintro q e m ⟨i,J,a,E,z,o⟩;by_cases I:i < n
 ·have b:((i:Nat):Int) < ((n:Nat):Int):=by omega
  have C:kT ayU 41 (some i) none none (.sl 0 0 n n true)=some (.sl 0 i (n - i) (n - i) true):=by
   have D:bO ayU 41=some 3:=by kernel_rfl
   have B:bX ayU 3=some 1:=by kernel_rfl
   simp only [kT,D,B,Option.isSome_none,aB3,azA,if_false,aAk,aAE,aAD,Go.Tw.tS];rw [if_pos (by omega),if_neg (by omega)];simp
  have u:kT ayU 41 none (some i) none (.sl 0 0 n n true)=some (.sl 0 0 i n true):=by
   have D:bO ayU 41=some 3:=by kernel_rfl
   have B:bX ayU 3=some 1:=by kernel_rfl
   simp only [kT,D,B,Option.isSome_none,aB3,azA,if_false,aAk,aAE,aAD,Go.Tw.tS];rw [if_pos (by omega),if_neg (by omega)];simp
  have w:slOk ayU m 41 (.sl 0 0 n n true)=true:=by
   have:bO ayU 41=some 3:=by kernel_rfl
   simp [slOk,o.out,this]
  have t:=awX (v:=v) (f:=true) (g:=true) (c:=n) o.out (by omega);have H:azy.wrap (((i:Nat):Int)+((min i (n - i):Nat):Int))=((i+min i (n - i):Nat):Int):=by rw [←aBX];exact dO (by omega)
  replace a:=aA.mk a;simp only [↓pre,za,ahx,acD,adN,Option.map_none,simprocAttr,bne,E,z,b,r,C,u,w,t,dD];refine cX (by kernel_rfl) ?_;simp only [↓pre,za,acD,simprocAttr,bne,z,H];exact ⟨q - min i (n - i),by have:=a.out;omega,i+min i (n - i),by have:=a.out;omega,by have:=a.out;omega,rfl,⟨rfl⟩⟩
 ·have hi:i=n:=by omega
  subst hi;have b:¬ ((i:Nat):Int) < ((i:Nat):Int):=by omega
  simp only [↓pre,za,acD,simprocAttr,bne,E,z,r,b];exact ⟨0,by rw [wW o.out,aBx];unfold nH;rw [Nat.sub_self,List.replicate_zero,aBl]⟩
set_option maxRecDepth 10000
theorem awZ (k r c w ver:Int) (e:bG k r c w=true) (f:eL ver=true):aQ ayU 196 [aC k r c w,aB ver] ⟨.tup [.tree (k+r).toNat (k+r).toNat (bJ (aBr (k+r).toNat ver)) true,aB 0],[]⟩:=by
 have a:=qB k r c w;have b:=ahJ ver;have g:=fG e;rw [e,if_pos rfl,if_pos rfl] at a;rw [f] at b;obtain ⟨N,i⟩:∃ N:Nat,k+r=(N:Int):=⟨(k+r).toNat,by omega⟩
 rw [i] at a ⊢;rw [aBb];have d:=awY ver N (by omega) (by omega);simp only [aB] at d;refine aV Tryz.func196 aD (h:=?_);unfold Tryz.f196;simp only [↓pre,zab,amF,simprocAttr,aC]
 (first | refine aI (a) (by first | rfl | simp only [aC,aE, *]) ?_ | refine aH (a) (by first | rfl | simp only [aC,aE, *]) (by intro k;first | rfl | simp only [ *,zaa]) ?_);simp only [↓pre,zac,simprocAttr];(first | refine aI (b) (by first | rfl | simp only [aC,aE, *]) ?_ | refine aH (b) (by first | rfl | simp only [aC,aE, *]) (by intro k;first | rfl | simp only [ *,zaa]) ?_);simp only [↓pre,zac,amF,cO,simprocAttr];(first | refine aI (d) (by first | rfl | simp only [aC,aE, *]) ?_ | refine aH (d) (by first | rfl | simp only [aC,aE, *]) (by intro k;first | rfl | simp only [ *,zaa]) ?_);simp only [↓pre,simprocAttr,sx]
def lF (C:Nat) (bs:List UInt8):Mx:=fun i j=>bs.getD (i*C+j) 0
def sE (C:Nat) (bs:List UInt8) (n:Nat):List AV:=(aAp n).map fun i => .tree C C (aJ (bs.drop (i*C))) true
theorem aw0 (C:Nat) (bs:List UInt8) (n:Nat):sE C bs (n+1)=sE C bs n++[.tree C C (aJ (bs.drop (n*C))) true]:=by
 unfold sE;rw [aAW,aBs];rfl
theorem aiY (C:Nat) (bs:List UInt8) (n:Nat):(sE C bs n).length=n:=by simp [sE]
theorem aw1 {C:Nat} {bs:List UInt8} {n i:Nat} (h:i < n):(sE C bs n)[i]? = some (.tree C C (aJ (bs.drop (i*C))) true):=by
 unfold sE;rw [azo,aBS h];rfl
theorem apx {C:Nat} {bs:List UInt8} {i:Nat} (h:i*C+C≤bs.length):aJ (bs.drop (i*C))=aR C (lF C bs i)++aJ (bs.drop (i*C+C)):=by
 have b:bs.drop (i*C)=tab C (lF C bs i)++bs.drop (i*C+C):=by
  refine aAi fun j => ?_
  by_cases a:j < C
  ·rw [azg (by rw [pA];exact a),an5 _ a,aAv,azm (by omega)];unfold lF;rw [azs,azm (by omega)];rfl
  ·rw [azh (by rw [pA];omega),pA,aAv,aAv];congr 1;omega
 rw [b];unfold aJ aR;rw [aBs]
theorem aw2 (C:Nat) (bs:List UInt8) (n:Nat):cP (sE C bs n)=true:=by
 unfold sE;generalize aAp n=l
 induction l with
 | nil=>rfl
 | cons a l b=>simpa [cP,plain] using b
theorem aw3 {P:Program} {t:TypeId} {sz lo hi n:Nat} {v:AV} {cs:List AV} (h:aT v n cs) (d:(bO P t).bind (bX P)=some sz) (i:lo < hi) (j:hi≤n):kT P t (some lo) (some hi) (some hi) v=some (.tree (hi - lo) (hi - lo) (cs.drop (lo*sz)) true):=by
 obtain ⟨el,a,b⟩:=ayS d;rcases h.form with ⟨rfl,e⟩ | ⟨_,_,_,e⟩ | ⟨c,f,rfl,g⟩
 ·omega
 ·omega
 ·simp only [kT,a,b,Option.isSome_some,Option.isNone_some,Bool.and_false,azA,if_false,aAk,aAE,Go.Tw.tS];rw [if_pos (by omega),if_neg (by omega)];simp
def mG (k r c:Int) (kd ver:Int) (bs:List UInt8) (i:Nat):jK:=⟨kd,i,ver,ver,aBr (k+r).toNat ver,tab c.toNat (gQ k.toNat (lF c.toNat bs) i)⟩
def mS (k r c w:Int) (ps:List aO) (num kd a ver:Int) (bs:List UInt8) (n:Nat):List cW:=(aAp n).map fun i=>gS k r c w ps num (kO k r c w ps kd a) (mG k r c kd ver bs i)
theorem apy (k r c w:Int) (ps:List aO) (num kd a ver:Int) (bs:List UInt8) (n:Nat):mS k r c w ps num kd a ver bs (n+1)=mS k r c w ps num kd a ver bs n++[gS k r c w ps num (kO k r c w ps kd a) (mG k r c kd ver bs n)]:=by
 unfold mS;rw [aAW,aBs];rfl
theorem acE (k r c w:Int) (ps:List aO) (num kd a ver:Int) (bs:List UInt8) (n:Nat):(mS k r c w ps num kd a ver bs n).length=n:=by simp [mS]
theorem apz (v:Int):∀ (n:Nat) (a:Int),a≤v→(aBr (n+1) v).foldl max a=v
 | 0,a,h=>by simp;omega
 | n+1,a,h=>by
  rw [List.replicate_succ,List.foldl_cons,show max a v=v by omega];exact apz v n v (Int.le_refl _)
theorem aiZ {k r c w kd ver:Int} {bs:List UInt8} (b:bG k r c w=true) (l:kd=1∨kd=2) (e:eL ver=true) {i:Nat} (hi:(i:Int) < k+r):wE k r c w (mG k r c kd ver bs i):=by
 have h:=fG b;have f:=kW.1 b;have a:=e;unfold eL at a;rw [decide_eq_true_eq] at a;obtain ⟨N,g⟩:∃ N:Nat,(k+r).toNat=N+1:=⟨(k+r).toNat - 1,by omega⟩
 refine ⟨?_, ?_, ?_, ?_,l, ?_, ?_⟩
 ·unfold iX mG;rw [if_pos b,if_pos (by simp;omega),if_neg];rw [List.any_eq_true];rintro ⟨x,j,d⟩;rw [(List.mem_replicate.1 j).2,e] at d;exact absurd d (by decide)
 ·unfold mG jR;simp only;rw [g,apz ver N 0 (by omega)]
 ·unfold mG;simp only;omega
 ·unfold mG;simp only [aB6];omega
 ·unfold mG;simp only [aBb];rw [List.getElem?_replicate,if_pos (by omega)]
 ·unfold mG;simp only [pA];omega
theorem apA {K C:Nat} {bs:List UInt8} (b:bs.length=K*C):xJ K C (lF C bs) (sE C bs K):=fun i hi=>by
 have a:(i+1)*C≤K*C:=azF _ hi;rw [az0,aB1] at a;exact ⟨_,_,aw1 hi,⟨.inr (.inr ⟨C,true,by rw [apx (by omega)],aza _⟩)⟩⟩
theorem aw4 {K R C:Nat} {bs:List UInt8} (d:bs.length=K*C):∀ i,i < K+R→∃ a y,(sE C bs K++dJ C (gQ K (lF C bs)) K R)[i]? = some a∧aT a C (aR C (gQ K (lF C bs) i)++y):=fun i hi=>by
 by_cases h:i < K
 ·obtain ⟨a,y,c,e⟩:=apA d i h;refine ⟨a,y,by rw [azg (by rw [aiY];exact h)];exact c, ?_⟩;rw [rY fun p _=>aie (lF C bs) h p];exact e
 ·have b:=aat (L:=C) (F:=gQ K (lF C bs)) (a:=K) (n:=R) (i:=i - K) (by omega);rw [show K+(i - K)=i by omega] at b;exact ⟨_,[],by rw [azh (by rw [aiY];omega),aiY];exact b,⟨.inr (.inr ⟨C,true,by rw [aBl],aza _⟩)⟩⟩
def uV:Nat→Bool:=fun d=>d != 14
theorem aw5 (k r c w num kd d ver:Int) (v:AV) (ps:List aO) (cells:List AV) (hv:dG v ps cells) (hB:oB k r c w ps num kd d ver=0) (dv:AV) (bs:List UInt8) (hd:aT dv bs.length (aJ bs)) (u:(bs.length:Int)=k*c):dV ayU 110 [aC k r c w,v,aB num,.val (.int .u8 kd),aB d,aB ver,dv] aF.empty fun v m=>(∃ q,fzT q m v=some (.tup [bE (k+r).toNat (eH (mS k r c w ps num kd d ver bs (k+r).toNat)),aB 0]))∧iG m v (yZ (mS k r c w ps num kd d ver bs (k+r).toNat)):=by
 have hp:=hv.rd.plain;have e9:=hd.plain;have J:=fun m=>apf k r c w num kd d ver v ps cells hv m
 have ov:=bR hv.rd;have fv:=bW hv.rd;simp only [hB,if_true] at J;obtain ⟨hm,hr,f3,f6,f5,f1,d6,a7⟩:=aiR hB;replace hB:=aA.mk hB;have c8:=fG hm;have c7:=kW.1 hm;have E:=awZ k r c w ver hm a7;have F:=fun (i:Nat) (hi:(i:Int) < k+r) dv y hd m0 m a ls hls hw=>ao3 k r c w num v ps cells hv hm hr (kO k r c w ps kd d) (fun l h=>api h) (mG k r c kd ver bs i) (aiZ hm d6 a7 hi) (.tree (k+r).toNat (k+r).toNat (bJ (aBr (k+r).toNat ver)) true) dv [] y ⟨.inr (.inr ⟨(k+r).toNat,true,by rw [aBl];unfold mG;simp only [aB6],by unfold mG;simp only [aB6];exact aza _⟩)⟩ hd m0 m a ls hls hw
 have c5:=apy k r c w ps num kd d ver bs;have s:=acE k r c w ps num kd d ver bs;have b6:mS k r c w ps num kd d ver bs 0=[]:=rfl;have V:=fun m h1 h2=>apj k r c w num kd d v ps m h1 h2
 obtain ⟨K,rfl⟩:∃ K:Nat,k=(K:Int):=⟨k.toNat,by omega⟩
 obtain ⟨R,rfl⟩:∃ R:Nat,r=(R:Int):=⟨r.toNat,by omega⟩
 obtain ⟨C,rfl⟩:∃ C:Nat,c=(C:Int):=⟨c.toNat,by omega⟩
 have X:((K:Int)+(R:Int)).toNat=K+R:=by omega
 rw [X] at E F ⊢;have f:bs.length=K*C:=by
  have:((bs.length:Nat):Int)=((K*C:Nat):Int):=by rw [u];simp
  omega
 have z:1≤K∧K≤12∧R≤4∧1≤C∧C≤65536:=by omega
 have Z:=fun (i:Nat) (hi:i < K)=>aw3 (P:=ayU) (t:=52) (sz:=1) (lo:=i*C) (hi:=(i+1)*C) hd (by kernel_rfl) (by rw [az0,aB1];omega) (by rw [f];exact azF _ hi)
 have Q:∀ i:Nat,(i+1)*C - i*C=C:=fun i=>by rw [az0,aB1];omega
 have e1:∀ i,(aJ bs).drop (i*C)=aJ (bs.drop (i*C)):=fun i=>by unfold aJ;rw [List.map_drop]
 simp only [Q,azG,e1] at Z;have b1:=apA f;have b4:∀ i,mG K R C kd ver bs i=⟨kd,i,ver,ver,aBr (K+R) ver,tab C (gQ K (lF C bs) i)⟩:=fun i=>by unfold mG;rw [X];rfl
 have b0:=fun i=>aw4 (R:=R) f i
 have b2:=aw2 C bs K;generalize mS K R C w ps num kd d ver bs=MN at *
 generalize mG K R C kd ver bs=MS at *
 generalize kO K R C w ps kd d=KO at *
 generalize acA K R C w v ps num kd d=BW at *
 generalize aBr (K+R) ver=VL at *
 have d8:azy.wrap (((K:Nat):Int)*((C:Nat):Int))=((bs.length:Nat):Int):=by rw [u];exact gB (by omega) (by rw [←u,f];have:K*C≤12*65536:=aB7 z.2.1 z.2.2.2.2;omega)
 have a1:∀ i,i≤K→i*C≤12*65536:=fun i hi=>aB7 (by omega) z.2.2.2.2
 replace c8:=aA.mk c8;replace c7:=aA.mk c7;replace V:=aA.mk V;replace b4:=aA.mk b4;replace c5:=aA.mk c5;replace s:=aA.mk s;replace F:=aA.mk F;replace b6:=aA.mk b6;replace Z:=aA.mk Z;replace b1:=aA.mk b1;replace b0:=aA.mk b0;replace u:=aA.mk u;replace f:=aA.mk f;replace z:=aA.mk z;replace a1:=aA.mk a1;replace b2:=aA.mk b2;replace Q:=aA.mk Q;replace X:=aA.mk X;refine bV Tryz.func110 uV (h:=?_);unfold Tryz.f110;simp only [↓pre,zad,aaf,uV,simprocAttr,aC,bne,aBW];refine nR (J _) ?_;simp only [↓pre,zaf,aaf,uV,aBm,simprocAttr,bne,aBW,hd.len',d8];generalize c4:aF.push _ _=T;have e2:T.at_ 0=some ⟨BW,195,.var,true⟩:=by rw [←c4];simp [cF,aX]
 have f4:T.next=1:=by rw [←c4];simp [cQ,aX]
 clear c4 J;rw [bS];have d5:=fun m=>hd.slOk (P:=ayU) (m:=m) (t:=52)
 refine bU (fun q e m=>∃ i lv,q+i=K∧e 3 = .val (.int .u8 kd)∧e 5=aB ver∧e 6=dv∧e 7 = .tptr 0 [aB K,aB R,aB C,aB w]∧e 16 = .ptr 0 0∧e 18=lv∧e 47=aB (K:Nat)∧e 48=aB (i:Nat)∧aA (bY .var m 52 1 lv i (sE C bs i)∧gX T m∧kB T lv)) K ⟨0,aW,by omega,rfl,rfl,rfl,rfl,rfl,rfl,rfl,rfl,⟨gK,gX.refl _,wX _⟩⟩ ?_;rintro q e m ⟨i,lv,L,e3,e5,e6,e7,D,a3,a2,a0,hJ⟩;replace L:=aA.mk L;obtain ⟨U,o,B⟩:=hJ.out;clear hJ;by_cases d7:i < K
 ·have I:((i:Nat):Int) < ((K:Nat):Int):=by omega
  have f2:=a1.out i (by omega);have f7:=a1.out (i+1) (by omega);have wa:azy.wrap (((i:Nat):Int)*((C:Nat):Int))=((i*C:Nat):Int):=by rw [←Int.natCast_mul];exact dO (by omega)
  have wb:=cB (n:=i) (by have:=z.out;omega);have wc:azy.wrap (((i+1:Nat):Int)*((C:Nat):Int))=(((i+1)*C:Nat):Int):=by rw [←Int.natCast_mul];exact dO (by omega)
  have e4:=Z.out i d7;have Y:=z.out;replace Y:=aA.mk Y;replace U:=aA.mk U;replace o:=aA.mk o;replace B:=aA.mk B;simp only [↓pre,za,aaf,uV,cO,aBm,aba,simprocAttr,bne,aBW,e6,e7,a3,a2,a0,I,wa,wb,wc,d5,e4,dD];refine adc (kd := .var) (sz:=1) (y:=24) (zl:=[.slice none 0 0]) (by kernel_rfl) U.out (by kernel_rfl) (by kernel_rfl) (by kernel_rfl) rfl lV rfl (by have:=Y.out;omega) (by have:=Y.out;omega) o.out B.out ?_;intro f0 m' H g d1;simp only [↓pre,zad,uV,simprocAttr,bne,aBW,e3,e5,e6,e7,D,a2,a0,wb];refine ⟨q - 1,by have:=L.out;omega,i+1,_,by have:=L.out;omega,rfl,rfl,⟨?_,g,d1⟩⟩;rw [aw0];exact H
 ·have hi:i=K:=by have:=L.out;omega
  subst hi;have I:¬ ((i:Nat):Int) < ((i:Nat):Int):=by omega
  obtain ⟨k1,k2,k3,k4,k5⟩:=z.out;have a6:=avF m lv i R C (lF C bs) (sE C bs i) (yH U (.inr ⟨rfl,b2.out⟩)) (adb U) b1.out k1 k2 k3 k4 k5;obtain ⟨b,rfl,hb,c0⟩:=U.sl (by omega);simp only [↓pre,zad,aaf,uV,aBm,simprocAttr,bne,aBW,e7,a3,a2,a0,I];refine jD a6 ?_;rintro e0 m2 ⟨f8,rfl,c1,M,N,S⟩;simp only [↓pre,zad,aaf,uV,simprocAttr,bne,aBW,e5,e7];have H:bY .var m2 52 1 (.sl b 0 i i false) i (sE C bs i):=⟨.inr ⟨b,rfl,N b _ hb c0,azd c0 M,by omega⟩,U.len⟩
  have g:gX (T.setM m2.mm) m2:=⟨rfl,Nat.le_trans o.next M,fun j x h hl=>N j x (o.at_ j x h hl) (azd hl o.next)⟩
  have a5:=afF (P:=ayU) (el':=52) (kd := .var) c1 (by kernel_rfl);have a8:(T.setM m2.mm).at_ 0=some ⟨BW,195,.var,true⟩:=e2;have f9:i+R≤16:=by omega
  have p:=c1.len;rw [azG] at p;simp only [aB] at E;replace U:=aA.mk U;replace o:=aA.mk o;replace B:=aA.mk B;replace H:=aA.mk H;replace g:=aA.mk g;replace p:=aA.mk p;replace S:=aA.mk S
  (first | refine aI (E) (by first | rfl | simp only [aC,aE, *]) ?_ | refine aH (E) (by first | rfl | simp only [aC,aE, *]) (by intro k;first | rfl | simp only [ *,zaa]) ?_);simp only [↓pre,zad,aaf,uV,cO,simprocAttr,bne,aBW,a3]
  refine adc (kd := .var) (sz:=1) (y:=24) (zl:=[.slice none 0 0]) (m0:=T.setM m2.mm) (by kernel_rfl) H.out (by kernel_rfl) (by kernel_rfl) (by kernel_rfl) rfl a5 (by rw [azG];exact p.out) (by omega) (by omega) g.out B.out ?_;intro l5 m5 d3 a4 a9;obtain ⟨b5,rfl,e8,d2⟩:=d3.sl (by omega);have d0:b5≠0:=by
   have h1:=a9 b5 rfl;have h2:(T.setM m2.mm).next=T.next:=rfl;omega
  have h0:=a4.at_ 0 _ a8 (show 0 < T.next by omega);have c2:=V.out m5 h0 (by omega);have c6:lenE ayU 45 (.sl b5 0 (i+R) (i+R) false)=some (.val (.int .i64 (i+R:Nat))):=by
   have:bO ayU 45=some 52:=by kernel_rfl
   simp [lenE,this,sN,aB]
  replace c2:=aA.mk c2;clear a6 M N c1 hb c0 a4 a9 d3 a5 a8 V U o B H g S;simp only [↓pre,za,uV,simprocAttr,bne,c6];rw [bS];refine bU (fun q e m=>∃ j,q+j=i+R∧e 3 = .val (.int .u8 kd)∧e 5=aB ver∧e 16 = .ptr 0 0∧e 21 = .tree (i+R) (i+R) (bJ VL) true∧e 94 = .sl b5 0 (i+R) (i+R) false∧e 95=aB (i+R:Nat)∧e 96=aB (j:Nat)∧aA (yY m5 m 0 i R C w v num (jZ KO) (MN j))) (i+R) ⟨0,by omega,by simp [bC.set,e3],by simp [bC.set,e5,aB],by simp [bC.set,D],rfl,rfl,rfl,rfl,⟨by rw [b6.out];exact c2.out⟩⟩ ?_;clear e3 e5 e6 e7 D a3 a2 a0;rintro q e m ⟨j,L,e3,e5,D,c9,d4,b3,b9,hJ⟩;replace L:=aA.mk L;by_cases hj:j < i+R
  ·have c3:((j:Nat):Int) < ((i+R:Nat):Int):=by omega
   have wj:=cB (n:=j) (by omega);obtain ⟨a,y,d9,A⟩:=b0.out j hj;have kb:=hJ.out.at_ b5 _ e8 d2 d0;have fa:=bW A;have qa:=bR A;have ca:=uS A;have oa:=uT A;have W:=b4.out j;have b8:=F.out j (by omega) a y (by rw [W];simp only [pA];exact A) m5 m 0 (MN j) (by rw [s.out j];omega) hJ.out;rw [←c5.out,W] at b8;simp only [aB] at b8;replace W:=aA.mk W;replace A:=aA.mk A;simp only [↓pre,zaj,aaf,uV,simprocAttr,bne,aBW,e3,e5,D,c9,d4,b3,b9,c3,hj,kb,d9,↓ca,↓oa];refine jD b8 ?_;rintro e0 m' ⟨rfl,b7⟩;replace b7:=aA.mk b7;simp only [↓pre,zad,uV,simprocAttr,bne,aBW,e3,e5,D,c9,d4,b3,b9,wj];exact ⟨q - 1,by have:=L.out;omega,j+1,by have:=L.out;omega,rfl,b7⟩
  ·have c3:¬ ((j:Nat):Int) < ((i+R:Nat):Int):=by omega
   have hi:j=i+R:=by have:=L.out;omega
   subst hi;obtain ⟨v',BL,g1,g2,g3,g4⟩:=hJ.out.ex;have G:=fun k=>aiL g2 g4.toxN k
   have O:=ao7 g2 (by rw [s.out];omega) g4;rw [s.out] at G;replace g4:=aA.mk g4;replace O:=aA.mk O;replace g2:=aA.mk g2;replace g3:=aA.mk g3;replace G:=aA.mk G;simp only [↓pre,zad,aaf,uV,aBm,simprocAttr,bne,aBW,D,b3,b9,c3,g1];exact ⟨⟨1,by rw [kH,eC,G.out,aAk,eC,gU,jI];rfl⟩,O.out⟩
theorem aw6 (k r c w num kd a ver:Int) (v:AV) (ps:List aO) (cells:List AV) (d:dG v ps cells) (e:oB k r c w ps num kd a ver=0) (dv:AV) (bs:List UInt8) (f:aT dv bs.length (aJ bs)) (b:(bs.length:Int)=k*c):aQ ayU 110 [aC k r c w,v,aB num,.val (.int .u8 kd),aB a,aB ver,dv] (yZ (mS k r c w ps num kd a ver bs (k+r).toNat)):=abg (mW (aw5 k r c w num kd a ver v ps cells d e dv bs f b) fun _ _ h=>h.2)
def uW (w:Int) (num ver W:Int):Prop:=num < 0∨w≤num∨ver < 1∨1073741824 < ver∨ver≤W
instance (w num ver W:Int):Decidable (uW w num ver W):=by unfold uW;infer_instance
def nI (k r c w:Int) (ps:List aO) (num ver len dep:Int) (l:List cC):Int:=if cS k r c w ps=0 then (if uW w num ver (cY k r c w ps) then 2 else iE k r c w len dep l) else cS k r c w ps
def sG (k r c w:Int) (ps:List aO) (num ver len dep:Int) (l:List cC):List cW:=mS k r c w ps num 2 (cY k r c w ps) ver (fJ k c len dep l) (k+r).toNat
def acF (k r c w:Int) (ps:List aO) (num ver len dep:Int) (l:List cC):AV:=if nI k r c w ps num ver len dep l=0 then .tup [bE (k+r).toNat (eH (sG k r c w ps num ver len dep l)),aB 0] else .tup [aW,aB (nI k r c w ps num ver len dep l)]
theorem apB {k r c w len dep:Int} {l:List cC} (h:iE k r c w len dep l=0) (b:bG k r c w=true):(fJ k c len dep l).length=(wI k c).toNat:=by
 have d:=kJ b;unfold fJ;refine aiB ?_;obtain ⟨_,_,_,a,_⟩:=afQ h;unfold pJ;simp only [aA2,fX,yV];unfold dI at a;unfold wI;omega
theorem apC {k r c w num ver:Int} {ps:List aO} (a:cS k r c w ps=0) (b:¬ uW w num ver (cY k r c w ps)):oB k r c w ps num 2 (cY k r c w ps) ver=0:=by
 obtain ⟨d,f⟩:=uU a;unfold uW at b;have e:pG k r c w ps=0:=by unfold pG;rw [if_pos d,if_pos f]
 have g:0≤cY k r c w ps∧cY k r c w ps≤1073741824:=by
  by_cases h:cY k r c w ps=0
  ·omega
  ·have:=afU a h;unfold eL at this;rw [decide_eq_true_eq] at this;omega
 unfold oB;rw [if_pos e,if_neg (by omega)];unfold wD;rw [if_pos ⟨.inr rfl,by unfold eL;exact decide_eq_true (by omega)⟩]
def jM:Nat→Bool:=fun d=>d != 12
def af3 (k r c w:Int) (ps:List aO) (num ver len dep:Int) (l:List cC):fA:=if nI k r c w ps num ver len dep l=0 then yZ (sG k r c w ps num ver len dep l) else ⟨.tup [.val (.slice none 0 0),.val (.int .i64 (nI k r c w ps num ver len dep l))],[]⟩
theorem abi (m:aF) (e:Int):iG m (.tup [.val (.slice none 0 0),.val (.int .i64 e)]) ⟨.tup [.val (.slice none 0 0),.val (.int .i64 e)],[]⟩:=by
 simp [iG,jB,canon,fN]
theorem aw7 (k r c w num ver len dep:Int) (v dv:AV) (ps:List aO) (cells:List AV) (l:List cC) (K:dG v ps cells) (Q:qG dv l) (Z:l.length≤9223372036854775807):dV ayU 37 [aC k r c w,v,aB num,aB ver,.agg [aB len,aB dep,dv]] aF.empty fun v m=>(∃ q,fzT q m v=some (acF k r c w ps num ver len dep l))∧iG m v (af3 k r c w ps num ver len dep l):=by
 have f:=aiH k r c w v ps cells K;have t:=av7 k r c w len dep dv l Q Z;have j:=uS K.rd;have g:=uT K.rd;have G:=bW K.rd;have q1:=bR K.rd;have U:=K.rd.plain;obtain ⟨xd,J⟩:=Q;have I:=bW J;have q2:=bR J;have p2:=J.plain;have C:=fun (e:Int) m=>pE (dK (.slice none 0 0)) (dK (.int .i64 e)) 0 m
 replace C:=aA.mk C;unfold acF af3 nI;by_cases H:cS k r c w ps=0
 ·rw [if_pos H,H] at f;simp only [if_pos H];have d:=fun o=>apC (num:=num) (ver:=ver) H o
  obtain ⟨S,_⟩:=uU H;have n:=fG S;have s:=kW.1 S;have a:=fun L dv bs Q Y=>aw6 k r c w num 2 (cY k r c w ps) ver v ps cells K L dv bs Q Y
  have V:sG k r c w ps num ver len dep l=mS k r c w ps num 2 (cY k r c w ps) ver (fJ k c len dep l) (k+r).toNat:=rfl;rw [V];clear V;generalize cY k r c w ps=W at *
  by_cases o:uW w num ver W
  ·simp only [if_pos o];rw [if_neg (by decide),if_neg (by decide)];have T:num < 0∨(¬ num < 0∧w≤num)∨(¬ num < 0∧¬ w≤num∧ver < 1)∨(¬ num < 0∧¬ w≤num∧¬ ver < 1∧1073741824 < ver)∨(¬ num < 0∧¬ w≤num∧¬ ver < 1∧¬ 1073741824 < ver∧ver≤W):=by unfold uW at o;omega
   replace o:=aA.mk o;replace s:=aA.mk s;replace n:=aA.mk n;replace d:=aA.mk d;replace a:=aA.mk a;clear t;rcases T with u | ⟨u,A⟩ | ⟨u,A,F⟩ | ⟨u,A,F,N⟩ | ⟨u,A,F,N,R⟩
   ·refine bV Tryz.func37 jM (h:=?_);unfold Tryz.f37;simp only [↓pre,zaf,qT,jM,bD,simprocAttr,aC,bne,aS,G,I,↓j,↓g]
    (first | refine aI (f) (by first | rfl | simp only [aE, *]) ?_ | refine aH (f) (by first | rfl | simp only [aC,aE, *]) (by intro k;first | rfl | simp only [ *,zaa]) ?_);simp only [↓pre,zaf,jM,simprocAttr,bne,u]
    exact ⟨⟨0,C.out _ _⟩,abi _ _⟩
   ·refine bV Tryz.func37 jM (h:=?_);unfold Tryz.f37;simp only [↓pre,zaf,qT,jM,bD,simprocAttr,aC,bne,aS,G,I,↓j,↓g]
    (first | refine aI (f) (by first | rfl | simp only [aE, *]) ?_ | refine aH (f) (by first | rfl | simp only [aC,aE, *]) (by intro k;first | rfl | simp only [ *,zaa]) ?_);simp only [↓pre,zaf,qT,jM,aBm,simprocAttr,bne,u,A]
    exact ⟨⟨0,C.out _ _⟩,abi _ _⟩
   ·refine bV Tryz.func37 jM (h:=?_);unfold Tryz.f37;simp only [↓pre,zaf,qT,jM,bD,simprocAttr,aC,bne,aS,G,I,↓j,↓g]
    (first | refine aI (f) (by first | rfl | simp only [aE, *]) ?_ | refine aH (f) (by first | rfl | simp only [aC,aE, *]) (by intro k;first | rfl | simp only [ *,zaa]) ?_);simp only [↓pre,zaf,qT,jM,aBm,simprocAttr,bne,u,A,F]
    exact ⟨⟨0,C.out _ _⟩,abi _ _⟩
   ·refine bV Tryz.func37 jM (h:=?_);unfold Tryz.f37;simp only [↓pre,zaf,qT,jM,bD,simprocAttr,aC,bne,aS,G,I,↓j,↓g]
    (first | refine aI (f) (by first | rfl | simp only [aE, *]) ?_ | refine aH (f) (by first | rfl | simp only [aC,aE, *]) (by intro k;first | rfl | simp only [ *,zaa]) ?_);simp only [↓pre,zaf,qT,jM,aBm,simprocAttr,bne,u,A,F,N]
    exact ⟨⟨0,C.out _ _⟩,abi _ _⟩
   ·refine bV Tryz.func37 jM (h:=?_);unfold Tryz.f37;simp only [↓pre,zaf,qT,jM,bD,simprocAttr,aC,bne,aS,G,I,↓j,↓g]
    (first | refine aI (f) (by first | rfl | simp only [aE, *]) ?_ | refine aH (f) (by first | rfl | simp only [aC,aE, *]) (by intro k;first | rfl | simp only [ *,zaa]) ?_);simp only [↓pre,zaf,qT,jM,aBm,simprocAttr,bne,u,A,F,N,R]
    exact ⟨⟨0,C.out _ _⟩,abi _ _⟩
  ·simp only [if_neg o];have L:=d o;have x:=o;unfold uW at x;have u:¬ num < 0:=by omega
   have A:¬ w≤num:=by omega
   have F:¬ ver < 1:=by omega
   have N:¬ 1073741824 < ver:=by omega
   have R:¬ ver≤W:=by omega
   unfold afP at t;by_cases E:iE k r c w len dep l=0
   ·rw [if_pos E] at t;simp only [if_pos E];have z:=apB E S;have P:=a L (.tree (wI k c).toNat (wI k c).toNat (aJ (fJ k c len dep l)) true) (fJ k c len dep l) ⟨.inr (.inr ⟨_,true,by rw [z],by rw [z];exact aza _⟩)⟩ (by rw [z];unfold wI;have:0≤k*c:=Int.mul_nonneg (by omega) (by omega);omega);have M:=acE k r c w ps num 2 W ver (fJ k c len dep l) (k+r).toNat;have y:∀ p∈mS k r c w ps num 2 W ver (fJ k c len dep l) (k+r).toNat,p.bs.length≠0:=fun p U=>by
     obtain ⟨i,_,rfl⟩:=azp.1 U;have:=afX (mG k r c 2 ver (fJ k c len dep l) i);unfold gS;simp only;omega
    generalize mS k r c w ps num 2 W ver (fJ k c len dep l) (k+r).toNat=X at *
    replace y:=aA.mk y;have D:0 < X.length:=by omega
    replace D:=aA.mk D;replace M:=aA.mk M;simp only [aB] at P t;generalize (wI k c).toNat=WN at *
    generalize aJ (fJ k c len dep l)=MB at *
    replace s:=aA.mk s;replace n:=aA.mk n;replace a:=aA.mk a;replace d:=aA.mk d;replace L:=aA.mk L;replace o:=aA.mk o;replace x:=aA.mk x;replace z:=aA.mk z;replace E:=aA.mk E;refine bV Tryz.func37 jM (h:=?_);unfold Tryz.f37;simp only [↓pre,zaf,qT,jM,bD,simprocAttr,aC,bne,aS,G,I,↓j,↓g]
    (first | refine aI (f) (by first | rfl | simp only [aE, *]) ?_ | refine aH (f) (by first | rfl | simp only [aC,aE, *]) (by intro k;first | rfl | simp only [ *,zaa]) ?_);simp only [↓pre,zaf,qT,jM,aBm,simprocAttr,bne,u,A,F,N,R];(first | refine aI (t) (by first | rfl | simp only [aE, *]) ?_ | refine aH (t) (by first | rfl | simp only [aC,aE, *]) (by intro k;first | rfl | simp only [ *,zaa]) ?_);simp only [↓pre,zaf,qT,jM,simprocAttr,bne]
    refine apd P (oQ 3 _ (by simp only [aE, *])).1 y.out fun b B m1 O => ?_
    replace O:=aA.mk O;simp only [↓pre,zad,jM,simprocAttr,bne];rw [←M.out];exact ⟨⟨1,by rw [kH,eC,aiL (O.out.own D.out) O.out.byt,aAk,eC,gU,jI];rfl⟩,O.out.canon D.out⟩
   ·rw [if_neg E] at t;simp only [if_neg E];generalize iE k r c w len dep l=e at *
    unfold aW at t;simp only [aB] at t;replace s:=aA.mk s;replace n:=aA.mk n;replace a:=aA.mk a;replace d:=aA.mk d;replace L:=aA.mk L;replace o:=aA.mk o;replace x:=aA.mk x;refine bV Tryz.func37 jM (h:=?_);unfold Tryz.f37;simp only [↓pre,zaf,qT,jM,bD,simprocAttr,aC,bne,aS,G,I,↓j,↓g]
    (first | refine aI (f) (by first | rfl | simp only [aE, *]) ?_ | refine aH (f) (by first | rfl | simp only [aC,aE, *]) (by intro k;first | rfl | simp only [ *,zaa]) ?_);simp only [↓pre,zaf,qT,jM,aBm,simprocAttr,bne,u,A,F,N,R];(first | refine aI (t) (by first | rfl | simp only [aE, *]) ?_ | refine aH (t) (by first | rfl | simp only [aC,aE, *]) (by intro k;first | rfl | simp only [ *,zaa]) ?_);simp only [↓pre,zaf,jM,simprocAttr,bne,E]
    exact ⟨⟨0,C.out _ _⟩,abi _ _⟩
 ·rw [if_neg H] at f;simp only [if_neg H];generalize cS k r c w ps=e at *
  clear t;refine bV Tryz.func37 jM (h:=?_);unfold Tryz.f37;simp only [↓pre,zaf,qT,jM,bD,simprocAttr,aC,bne,aS,G,I,↓j,↓g]
  (first | refine aI (f) (by first | rfl | simp only [aE, *]) ?_ | refine aH (f) (by first | rfl | simp only [aC,aE, *]) (by intro k;first | rfl | simp only [ *,zaa]) ?_);simp only [↓pre,zaf,jM,simprocAttr,bne,H]
  exact ⟨⟨0,C.out _ _⟩,abi _ _⟩
theorem aw8 (k r c w num ver len dep:Int) (v dv:AV) (ps:List aO) (cells:List AV) (l:List cC) (a:dG v ps cells) (b:qG dv l) (d:l.length≤9223372036854775807):aQ ayU 37 [aC k r c w,v,aB num,aB ver,.agg [aB len,aB dep,dv]] (af3 k r c w ps num ver len dep l):=abg (mW (aw7 k r c w num ver len dep v dv ps cells l a b d) fun _ _ h=>h.2)
def aw9 (L:List (List UInt8)) (W row:Nat) (n:Nat):List aO:=(aAp n).map fun i=>(L.getD ((i*W+row)*2) [],L.getD ((i*W+row)*2+1) [])
def axa (k r w:Int) (L:List (List UInt8)) (row:Int):List aO:=aw9 L w.toNat row.toNat (k+r).toNat
end Go.Proofs.YtaekhhlgnbhnpaaGreat
set_option linter.unusedVariables false
set_option linter.unusedSimpArgs false
set_option maxRecDepth 10000
namespace Go.Tw
open Go
theorem ag3.mono {P:Program} {f:FuncId} {args:List AV} {m:aF} {Q Q':AV→aF→Prop} (h:ag3 P f args m Q) (e:∀ r m',Q r m'→Q' r m'):ag3 P f args m Q' :=
 ⟨h.1,fun w I ρ vs a b c d=>(h.2 w I ρ vs a b c d).mono fun i u w' ⟨g,v,r,m',I',ρ',h1,h2,h3⟩=>⟨g,v,r,m',I',ρ',h1,e _ _ h2,h3⟩⟩
section
variable {v:Value} {cs:List AV} {a b c d:Nat} {f:Bool} {k:IntKind} {n:Int}
theorem apD:(AV.val v).cells=[.val v]:=rfl
theorem apE:(AV.agg cs).cells=cs:=rfl
theorem apF:(AV.sl a b c d f).cells=[.sl a b c d f]:=rfl
theorem apG:(AV.tree a b cs f).cells=[.tree a b cs f]:=rfl
theorem apH:gD (.agg cs)=true:=rfl
theorem apI:gD (.val (.int k n))=true:=rfl
theorem apJ:gD (.val (.bool f))=true:=rfl
theorem apK:gD (.val (.slice none 0 0))=true:=rfl
theorem apL:gD (.sl a b c d f)=true:=rfl
theorem apM:gD (.tree a b cs f)=true:=rfl
end
def axb:=(⟨@apD,@apE,@apF,@apG,@apH,@apI,@apJ,@apK,@apL,@apM⟩:_∧_∧_∧_∧_∧_∧_∧_∧_∧_)
end Go.Tw
namespace Go.Proofs.YtaekhhlgnbhnpaaGreat
open Go Go.Tw Go.Proofs Go.Gf
structure ObB (m:aF) (d0 d1 d2 ve lv sv:AV) (E:Int):Prop where
 d:m.at_ 0=some ⟨[d0,d1,d2],33,.var,true⟩
 v:m.at_ 1=some ⟨[ve],3,.var,true⟩
 l:m.at_ 2=some ⟨[lv],31,.var,true⟩
 s:m.at_ 3=some ⟨[sv],31,.var,true⟩
 e:m.at_ 4=some ⟨[aB E],28,.var,true⟩
end Go.Proofs.YtaekhhlgnbhnpaaGreat
set_option maxRecDepth 10000
namespace Go.Proofs.YtaekhhlgnbhnpaaGreat
open Go Go.Tw Go.Proofs Go.Gf
structure ObE (e:bC):Prop where
 a:e 4 = .ptr 0 0
 b:e 5 = .ptr 1 0
 c:e 6 = .ptr 2 0
 d:e 7 = .ptr 3 0
 e:e 8 = .ptr 4 0
structure acG (m:aF) (dv:AV) (D:List cC) (lv:AV) (LL:List cC) (sv:AV) (SS:List cC):Prop where
 d:Own m 67 2 dv D.length (cU D)
 l:Own m 67 2 lv LL.length (cU LL)
 s:Own m 67 2 sv SS.length (cU SS)
 dl:∀ b,cG dv=some b→cG lv≠some b
 ds:∀ b,cG dv=some b→cG sv≠some b
 ls:∀ b,cG lv=some b→cG sv≠some b
 db:∀ b,cG dv=some b→5≤b
 lb:∀ b,cG lv=some b→5≤b
 sb:∀ b,cG sv=some b→5≤b
theorem acG.box {m m':aF} {dv g o:AV} {D i n:List cC} (h:acG m dv D g i o n) (f:m.next≤m'.next) (e:∀ j k,5≤j→j < m.next→m.at_ j=some k→m'.at_ j=some k):acG m' dv D g i o n :=
 ⟨h.d.keep f fun b k a c=>e b k (h.db b a) (yW h.d b a) c,h.l.keep f fun b k a c=>e b k (h.lb b a) (yW h.l b a) c,h.s.keep f fun b k a c=>e b k (h.sb b a) (yW h.s b a) c,h.dl,h.ds,h.ls,h.db,h.lb,h.sb⟩
theorem acG.app {m m':aF} {dv o n c:AV} {D p s g:List cC} (h:acG m dv D o p n s) (t:Own m' 67 2 c g.length (cU g)) (r:m.next≤m'.next) (q:∀ j k,m.at_ j=some k→j < m.next→cG n≠some j→m'.at_ j=some k) (i:∀ j,cG c=some j→j=m.next∨cG n=some j) (u:5≤m.next):acG m' dv D o p c g :=
 ⟨h.d.keep r fun b k a f=>q b k f (yW h.d b a) (h.ds b a),h.l.keep r fun b k a f=>q b k f (yW h.l b a) (h.ls b a),t,h.dl,
  fun b a f=>(i b f).elim (fun e=>by have:=yW h.d b a;omega) (h.ds b a),fun b a f=>(i b f).elim (fun e=>by have:=yW h.l b a;omega) (h.ls b a),h.db,h.lb,fun b a=>(i b a).elim (fun e=>by omega) (h.sb b)⟩
def axc (k r c w:Int) (L:List (List UInt8)) (x:cC):Bool:=decide (jF k r c w (axa k r w L x.1) 1 x.2 < k.toNat)
def axd (W b a i:Nat):Bool:=decide (max b (i*W) < min a ((i+1)*W))
def tS (k r c w:Int) (L:List (List UInt8)) (l:List cC) (b a:Nat):Int:=if (aAp l.length).any (fun i=>axd (wI k c).toNat b a i && axc k r c w L (l.getD i (0,0)))=true then 5 else 0
theorem apN {P:Program} {t:TypeId} {x y:Operand} {a b:List UInt8}:eA P .neq t x y (uK a) (uK b)=some (.val (.bool (!decide (a=b)))):=by
 rw [←aoU];exact ag4
section
variable {k r c w:Int} {L:List (List UInt8)} {l:List cC}
end
def rE (a b:Nat):Nat→Nat
 | 0=>0
 | i+1=>if b.testBit i then rE a b i ^^^ (a <<< i) else rE a b i
def qI (x:Nat):Nat→Nat
 | 0=>x
 | j+1=>qI (if x.testBit (8+j) then x ^^^ (285 <<< j) else x) j
theorem apO:∀ (j x y:Nat),qI (x ^^^ y) j=qI x j ^^^ qI y j
 | 0,x,y=>rfl
 | j+1,x,y=>by
  have e:∀ z:Nat,qI z (j+1)=qI (if z.testBit (8+j) then z ^^^ (285 <<< j) else z) j:=fun z=>rfl
  rw [e,e,e,←apO j];congr 1;rw [Nat.testBit_xor];cases x.testBit (8+j) <;> cases y.testBit (8+j)
  ·rfl
  ·show (x ^^^ y) ^^^ _=x ^^^ (y ^^^ _);rw [aB8]
  ·show (x ^^^ y) ^^^ _=(x ^^^ _) ^^^ y;rw [aB8,aB8,Nat.xor_comm y]
  ·show x ^^^ y=(x ^^^ (285 <<< j)) ^^^ (y ^^^ (285 <<< j));rw [aB8,←aB8 (285 <<< j),Nat.xor_comm (285 <<< j) y,aB8 y,Nat.xor_self,Nat.xor_zero]
def apP:Bool:=(aAp 256).all fun a=>(aAp 8).all fun i=>qI (a <<< i) 7 == gmul a (2 ^ i)
theorem axe:apP=true:=by kernel_rfl
theorem axf {a i:Nat} (c:a < 256) (hi:i < 8):qI (a <<< i) 7=gmul a (2 ^ i):=by
 have h:=axe;unfold apP at h;rw [List.all_eq_true] at h;have b:=h a (aAz.2 c);rw [List.all_eq_true] at b;simpa using b i (aAz.2 hi)
theorem axg {b i:Nat}:b % 2 ^ (i+1)=if b.testBit i then (b % 2 ^ i) ^^^ 2 ^ i else b % 2 ^ i:=by
 refine Nat.eq_of_testBit_eq fun j => ?_
 cases d:b.testBit i with
 | true =>
  rw [if_pos rfl,Nat.testBit_xor,aB9,aB9,Nat.testBit_two_pow];by_cases c:j=i
  ·subst c;simp [d]
  ·have f:¬ i=j:=fun e=>c e.symm
   by_cases a:j < i
   ·simp [f,a,show j < i+1 by omega]
   ·simp [f,a,show ¬ j < i+1 by omega]
 | false =>
  rw [if_neg (by decide),aB9,aB9];by_cases c:j=i
  ·subst c;simp [d]
  ·by_cases a:j < i
   ·simp [a,show j < i+1 by omega]
   ·simp [a,show ¬ j < i+1 by omega]
theorem apQ {a b:Nat} (c:a < 256):∀ i,i≤8→qI (rE a b i) 7=gmul a (b % 2 ^ i)
 | 0,_=>by
  show qI 0 7=gmul a (b % 1);rw [Nat.mod_one];unfold gmul;rw [aii];rfl
 | i+1,h=>by
  have d:=apQ (b:=b) c i (by omega);rw [axg];unfold rE;split
  ·rw [apO,d,axf c (by omega)];unfold gmul;rw [ah1]
  ·exact d
theorem axh {a b:Nat} (c:a < 256) (d:b < 256):qI (rE a b 8) 7=gmul a b:=by
 rw [apQ c 8 (aza _),aAZ d]
theorem apR {a b:Nat} (d:a < 256):∀ i,i≤8→rE a b i < 2 ^ 15
 | 0,_=>by show 0 < _;decide
 | i+1,h=>by
  have c:=apR (b:=b) d i (by omega);unfold rE;split
  ·refine aCa c ?_;rw [aCb];have:2 ^ i≤2 ^ 7:=aCc (by decide) (by omega)
   calc a*2 ^ i≤a*2 ^ 7:=Nat.mul_le_mul_left _ this
    _ < 2 ^ 15:=by omega
  ·exact c
section
variable {P:Program} {t:TypeId} {x y:Operand} {k yk:IntKind} {a:Int}
theorem af4 {n:Nat}:eA P .shr t x y (.val (.int k a)) (.val (.int yk (n:Nat)))=some (.val (.int k (a / 2 ^ min n k.bits))):=by
 have c:¬ ((n:Nat):Int) < 0:=by omega
 have b:a.fdiv (2 ^ min n k.bits)=a / 2 ^ min n k.bits:=Int.fdiv_eq_ediv_of_nonneg _ (Int.le_of_lt (Int.pow_pos (by decide)));simp only [eA,sO,eqGuard,binOp,Op.shift,c,aBb,Bind.bind,Pure.pure,if_false,b];simp [cT,Sem.bind]
theorem apS {n:Nat}:eA P .shl t x y (.val (.int k a)) (.val (.int yk (n:Nat)))=some (.val (.int k (k.wrap (a*2 ^ min n k.bits)))):=by
 have b:¬ ((n:Nat):Int) < 0:=by omega
 simp only [eA,sO,eqGuard,binOp,Op.shift,b,aBb,Bind.bind,Pure.pure,if_false];simp [cT,Sem.bind]
end
theorem af5 {n:Nat} (h:n < 4294967296):IntKind.u32.wrap (n:Int)=(n:Int):=by
 simp [IntKind.wrap,aAS,aAT];omega
theorem apT {a b:Nat} (c:a < 4294967296) (d:b < 4294967296):yD .u32 a b=((a ^^^ b:Nat):Int):=by
 have h:a ^^^ b < 4294967296:=aCa (n:=32) c d;unfold yD;rw [wV,wV,BitVec.toNat_xor,aAY,aAY];simp only [aAS];rw [aAZ (by omega),aAZ (by omega)];exact af5 h
theorem axi {a:Nat} (b:a < 4294967296):uA .u32 a 1=((a % 2:Nat):Int):=by
 unfold uA;rw [show (1:Int)=((1:Nat):Int) from rfl,wV,wV,BitVec.toNat_and,aAY,aAY];simp only [aAS];rw [aAZ (by omega),aAZ (by omega),aCd];exact af5 (by omega)
theorem apU (n i b:Nat) (h:i≤b):((n:Nat):Int) / 2 ^ min i b=((n / 2 ^ i:Nat):Int):=by
 rw [aCe h];simp
theorem axj {n i:Nat} (a:n < 4294967296) (hi:i≤32):uA .u32 (((n:Nat):Int) / 2 ^ min i 32) 1=if n.testBit i then 1 else 0:=by
 rw [apU _ _ _ hi,axi (Nat.lt_of_le_of_lt (Nat.div_le_self _ _) a),aCf];by_cases h:n / 2 ^ i % 2=1
 ·rw [decide_eq_true h,h];rfl
 ·rw [decide_eq_false h,show n / 2 ^ i % 2=0 by omega];rfl
theorem axk {n i:Nat} (c:n < 256) (hi:i≤8):uA .u8 (((n:Nat):Int) / 2 ^ min i 8) 1=if n.testBit i then 1 else 0:=by
 have b:n / 2 ^ i < 256:=Nat.lt_of_le_of_lt (Nat.div_le_self _ _) c;have a:=afw (azQ (n / 2 ^ i)) 1;rw [mZ b,UInt8.toNat_and,mZ b,show ((1:UInt8).toNat:Int)=1 from rfl,show (1:UInt8).toNat=1 from rfl,aCd] at a;rw [apU _ _ _ hi,a,aCf];by_cases h:n / 2 ^ i % 2=1
 ·rw [decide_eq_true h,h];rfl
 ·rw [decide_eq_false h,show n / 2 ^ i % 2=0 by omega];rfl
theorem apV {n i:Nat} (a:n < 512) (hi:i≤8):IntKind.u32.wrap (((n:Nat):Int)*2 ^ min i 32)=((n <<< i:Nat):Int):=by
 have h:n*2 ^ i < 4294967296:=by
  have:2 ^ i≤2 ^ 8:=aCc (by decide) hi;have:=aB7 (Nat.le_of_lt a) this;omega
 rw [aCe (by omega),aCb,show ((n:Nat):Int)*2 ^ i=((n*2 ^ i:Nat):Int) by simp,af5 h]
theorem ai0 {n:Nat} (h:n < 18446744073709551616):IntKind.u64.wrap (n:Int)=(n:Int):=by
 simp [IntKind.wrap,aAS,aAT];omega
theorem axl {a b:Nat} (c:a < 256) (d:b < 256):qI (rE a b 8) 7=gmul a b:=axh c d
theorem af6 (a b:UInt8):aQ ayU 351 [bA a,bA b] ⟨bA (aM a b),[]⟩:=by
 have z:=jW a;have B:=jW b;have E:IntKind.u32.wrap ((a.toNat:Nat):Int)=(a.toNat:Nat):=af5 (by omega);have u:=axl z B;have C:=afp z B;have o:=fun i h=>apR (b:=b.toNat) z (i:=i) h
 replace o:=aA.mk o;replace u:=aA.mk u;refine aV Tryz.func351 aD (h:=?_);unfold Tryz.f351;simp only [↓pre,simprocAttr,sx,bA];rw [bS];refine zW (fun e m=>e 5 = .val (.int .u32 ((rE a.toNat b.toNat 8:Nat):Int))) (fun e m g => ?_) ?_
 ·have N:=o.out 8 (aza _);generalize rE a.toNat b.toNat 8=X at *
  simp only [↓pre,simprocAttr];rw [bS];refine bU (fun q e m=>∃ x,e 5 = .val (.int .u32 ((x:Nat):Int))∧e 7=aB ((7+q:Nat):Int)∧aA (q≤7)∧aA (x < 2 ^ 15∧qI x q=qI X 7)) 7 ⟨X,g,rfl,⟨aza _⟩,⟨N,rfl⟩⟩ ?_;clear g;rintro q e m ⟨x,g,y,s,H⟩;by_cases O:q=0
  ·subst O;have c:¬ (8:Int)≤((7+0:Nat):Int):=by omega
   have p:x=gmul a.toNat b.toNat:=by rw [←u.out,←H.out.2];rfl
   subst p;have J:=aaq C;rw [show azQ (gmul a.toNat b.toNat)=aM a b from rfl] at J;simp only [↓pre,zab,afb,cO,gH,simprocAttr,eq_self,g,y,J]
  ·obtain ⟨j,rfl⟩:∃ j,q=j+1:=⟨q - 1,by omega⟩
   rw [show 7+(j+1)=8+j by omega] at y;obtain ⟨p,w⟩:=H.out;have M:j≤6:=by have:=s.out;omega
   have c:(8:Int)≤((8+j:Nat):Int):=by omega
   have w1:IntKind.u64.wrap ((8+j:Nat):Int)=((8+j:Nat):Int):=ai0 (by omega);have L:azy.wrap (((8+j:Nat):Int) - 8)=((j:Nat):Int):=by rw [gB (by omega) (by omega)];omega
   have P:IntKind.u64.wrap ((j:Nat):Int)=((j:Nat):Int):=ai0 (by omega);have G:azy.wrap (((8+j:Nat):Int) - 1)=((7+j:Nat):Int):=by rw [gB (by omega) (by omega)];omega
   have f:=axj (n:=x) (i:=8+j) (by omega) (by omega);have v:IntKind.u32.wrap (285*2 ^ min j 32)=((285 <<< j:Nat):Int):=apV (n:=285) (i:=j) (by omega) (by omega);have r:285 <<< j < 2 ^ 15:=by
    rw [aCb];have:2 ^ j≤2 ^ 6:=aCc (by decide) M;omega
   have l:=apT (a:=x) (b:=285 <<< j) (by omega) (by omega);have k:x ^^^ (285 <<< j) < 2 ^ 15:=aCa p r;have hs:qI x (j+1)=qI (if x.testBit (8+j) then x ^^^ (285 <<< j) else x) j:=rfl;rw [w] at hs;cases d:x.testBit (8+j) with
   | true =>
    rw [d,if_pos rfl] at f hs;replace hs:=aA.mk hs;replace w:=aA.mk w;replace p:=aA.mk p;replace k:=aA.mk k;simp only [↓pre,zab,afb,uB,cO,jP,af4,apS,simprocAttr,eq_self,aAS,g,y,c,f,v,l,w1,L,P,G];exact ⟨j,by omega,_,rfl,rfl,⟨by have:=s.out;omega⟩,⟨k.out,hs.out.symm⟩⟩
   | false =>
    rw [d,if_neg (by decide)] at f hs;have t:¬ (0:Int)=1:=by decide
    replace hs:=aA.mk hs;replace w:=aA.mk w;replace p:=aA.mk p;replace k:=aA.mk k;simp only [↓pre,zab,afb,uB,cO,jP,gH,af4,simprocAttr,eq_self,aAS,g,y,c,f,t,w1,G];exact ⟨j,by omega,_,rfl,rfl,⟨by have:=s.out;omega⟩,⟨p.out,hs.out.symm⟩⟩
 ·refine bU (fun q e m=>∃ i,q+i=8∧e 0=bA a∧e 1=bA b∧e 5 = .val (.int .u32 ((rE a.toNat b.toNat i:Nat):Int))∧e 6 = .val (.int .u64 (i:Nat))) 8 ⟨0,by omega,rfl,rfl,rfl,rfl⟩ ?_;rintro q e m ⟨i,R,I,K,g,D⟩;by_cases A:i < 8
  ·have c:((i:Nat):Int) < 8:=by omega
   have f:=axk B (Nat.le_of_lt A);have v:=apV (n:=a.toNat) (i:=i) (by omega) (by omega);have Q:=o.out i (by omega);have hs:rE a.toNat b.toNat (i+1)=if b.toNat.testBit i then rE a.toNat b.toNat i ^^^ (a.toNat <<< i) else rE a.toNat b.toNat i:=rfl
   have r:a.toNat <<< i < 4294967296:=by
    rw [aCb];have:2 ^ i≤2 ^ 8:=aCc (by decide) (by omega);have:=aB7 (Nat.le_of_lt z) this;omega
   have l:=apT (a:=rE a.toNat b.toNat i) (b:=a.toNat <<< i) (by omega) r;have F:IntKind.u64.wrap (((i:Nat):Int)+1)=((i+1:Nat):Int):=ai0 (n:=i+1) (by omega);cases d:b.toNat.testBit i with
   | true =>
    rw [d,if_pos rfl] at f hs;rw [←hs] at l;replace hs:=aA.mk hs;replace d:=aA.mk d;simp only [↓pre,zab,afb,uB,cO,jP,af4,apS,simprocAttr,bA,eq_self,aAS,E,I,K,g,D,c,f,v,l,F];exact ⟨q - 1,by omega,i+1,by omega,rfl,rfl⟩
   | false =>
    rw [d,if_neg (by decide)] at f hs;rw [←hs] at g;replace hs:=aA.mk hs;replace d:=aA.mk d;have t:¬ (0:Int)=1:=by decide
    simp only [↓pre,zab,uB,jP,gH,af4,simprocAttr,bA,eq_self,aAS,I,K,g,D,c,f,t,F];exact ⟨q - 1,by omega,i+1,by omega,rfl,rfl⟩
  ·have c:¬ ((i:Nat):Int) < 8:=by omega
   have hi:i=8:=by omega
   subst hi;simp only [↓pre,zab,gH,simprocAttr,bA,eq_self,g,D]
theorem axm {a b:UInt8} (h:aM a b=1):a≠0∧b=cK a:=by
 have c:a≠0:=fun e=>by rw [e,vX] at h;exact absurd h (by decide)
 exact ⟨c,adC c (h.trans (rX c).symm)⟩
theorem apW (a:UInt8):aQ ayU 349 [bA a] ⟨.tup [bA (if a=0 then 0 else cK a),aB (if a=0 then 10 else 0)],[]⟩:=by
 have u:=af6 a;refine aV Tryz.func349 aD (h:=?_);unfold Tryz.f349;simp only [↓pre,simprocAttr,sx,bA];rw [bS];refine bU (fun q e m=>∃ b,q+b=256∧1≤b∧e 0=bA a∧e 4=aB (b:Nat)∧aA (∀ j,1≤j→j < b→aM a (azQ j)≠1)) 255 ⟨1,by omega,by omega,rfl,rfl,⟨fun j i t=>by omega⟩⟩ ?_;rintro q e m ⟨b,y,w,p,l,s⟩;by_cases r:b < 256
 ·have c:((b:Nat):Int) < 256:=by omega
  have o:=aaq r;have v:=cB (n:=b) (by omega);have d:=u (azQ b);by_cases i:aM a (azQ b)=1
  ·obtain ⟨g,hi⟩:=axm i;have f:((aM a (azQ b)).toNat:Int)=1:=by rw [i];rfl
   rw [hi] at o d f;simp only [↓pre,zab,ahE,cO,jP,simprocAttr,bA,eq_self,p,l,c,o]
   (first | refine aI (d) (by first | rfl | simp only [aC,aE, *]) ?_ | refine aH (d) (by first | rfl | simp only [aC,aE, *]) (by intro k;first | rfl | simp only [ *,zaa]) ?_);simp only [↓pre,zab,ahE,cO,jP,simprocAttr,bA,eq_self,l,o,f]
   simp [g]
  ·have f:¬ ((aM a (azQ b)).toNat:Int)=1:=fun h=>i (aBf.1 (by show _=1;omega))
   simp only [↓pre,zab,ahE,cO,jP,simprocAttr,bA,eq_self,p,l,c,o]
   (first | refine aI (d) (by first | rfl | simp only [aC,aE, *]) ?_ | refine aH (d) (by first | rfl | simp only [aC,aE, *]) (by intro k;first | rfl | simp only [ *,zaa]) ?_);simp only [↓pre,zab,gH,simprocAttr,bA,eq_self,p,l,f,v]
   refine ⟨q - 1,by omega,b+1,by omega,by omega,rfl,⟨fun j t x => ?_⟩⟩;by_cases e:j=b
   ·subst e;exact i
   ·exact s.out j t (by omega)
 ·have c:¬ ((b:Nat):Int) < 256:=by omega
  have g:a=0:=Decidable.byContradiction fun g=>by
   refine s.out (cK a).toNat ?_ (by have:=jW (cK a);omega) ?_
   ·have:(cK a).toNat≠0:=fun h=>afr g (aBf.1 h)
    omega
   ·rw [aCg,rX g]
  subst g;simp only [↓pre,zab,gH,simprocAttr,bA,eq_self,l,c]
  all_goals rfl
theorem apX (a b:UInt8):aQ ayU 337 [bA a,bA b] ⟨.tup [bA (if b=0 then 0 else aM a (cK b)),aB (if b=0 then 10 else 0)],[]⟩:=by
 have hi:=apW b;have d:=af6 a (cK b);refine aV Tryz.func337 aD (h:=?_);unfold Tryz.f337;simp only [↓pre,zab,simprocAttr,bA,eq_self];by_cases c:b=0
 ·simp only [if_pos c] at hi ⊢
  (first | refine aI (hi) (by first | rfl | simp only [aC,aE, *]) ?_ | refine aH (hi) (by first | rfl | simp only [aC,aE, *]) (by intro k;first | rfl | simp only [ *,zaa]) ?_);simp only [↓pre,zab,jP,simprocAttr,bA,eq_self]
  all_goals rfl
 ·simp only [if_neg c] at hi ⊢;replace c:=aA.mk c
  (first | refine aI (hi) (by first | rfl | simp only [aC,aE, *]) ?_ | refine aH (hi) (by first | rfl | simp only [aC,aE, *]) (by intro k;first | rfl | simp only [ *,zaa]) ?_);simp only [↓pre,zab,gH,simprocAttr,bA,eq_self];(first | refine aI (d) (by first | rfl | simp only [aC,aE, *]) ?_ | refine aH (d) (by first | rfl | simp only [aC,aE, *]) (by intro k;first | rfl | simp only [ *,zaa]) ?_);simp only [↓pre,simprocAttr,sx,bA,eq_self]
theorem adU {w i:Nat} (F G:Nat→UInt8) (hi:i < w):List.take i (aR w fun j=>if j < i then F j else G j)++[AV.val (.int .u8 ((F i).toNat:Int))]++List.drop (i+1) (aR w fun j=>if j < i then F j else G j)=aR w fun j=>if j < i+1 then F j else G j:=by
 have h:=aao (w:=w) (f:=fun j=>if j < i then F j else G j) (g:=fun j=>if j < i+1 then F j else G j) hi fun j b=>by
  by_cases e:j=i
  ·subst e;rw [if_pos rfl]
  ·rw [if_neg e];by_cases a:j < i
   ·rw [if_pos a,if_pos (by omega)]
   ·rw [if_neg a,if_neg (by omega)]
 simp only [show i < i+1 by omega,if_true] at h;exact h
theorem ai1 {w:Nat} (F G:Nat→UInt8):(aR w fun j=>if j < w then F j else G j)=aR w F:=rY fun x a=>by rw [if_pos a]
def zC:Nat→Bool:=fun d=>d != 44
theorem axn (I C:AV) (n:Nat) (A B:Nat→UInt8) (c:UInt8) (V Y:List AV) (F:aT I n (aR n A++V)) (X:aT C n (aR n B++Y)) (hn:n≤65536):dV ayU 338 [I,bA c,C] aF.empty fun v m=>∃ b,v = .sl b 0 n n true∧m.at_ b=some ⟨aR n (fun j=>A j ^^^ aM c (B j)),5,.flat,true⟩:=by
 have W:=af6 c;have hp:=F.plain;have g:=X.plain;have a0:=fun m n h=>vZ m (n:=n) h
 simp only [bA] at W;have L:=fun m=>vZ m (n:=256) (by omega)
 have U:=fun m=>vZ m (n:=n) hn
 refine bV Tryz.func338 zC (h:=?_);unfold Tryz.f338;simp only [↓pre,za,zC,simprocAttr,bne,bA,L];rw [bS];refine zW (fun e m=>e 0=I∧e 2=C∧e 7 = .sl 0 0 256 256 true∧m.at_ 0=some ⟨aR 256 (fun i=>aM c (azQ i)),5,.flat,true⟩∧0 < m.next) (fun e m hR => ?_) ?_
 ·obtain ⟨o,t,r,hT,a1⟩:=hR;generalize M:(aR 256 fun i=>aM c (azQ i))=T at *
  have J:∀ z:UInt8,T[z.toNat]? = some (.val (.int .u8 (aM c z).toNat)):=fun z=>by
   rw [←M,jE (w:=256) (fun i=>aM c (azQ i)) z.toNat_lt,aCg];rfl
  have Q:∀ z:UInt8,z.toNat < 256:=fun z=>z.toNat_lt
  have S:=fun a b:UInt8=>acp a b
  simp only [↓pre,za,adp,zC,simprocAttr,bne,U,o,F.len'];rw [bS];refine bU (fun q e m'=>∃ j,q+j=n∧e 0=I∧e 2=C∧e 7 = .sl 0 0 256 256 true∧e 9 = .sl m.next 0 n n true∧e 10=aB (j:Nat)∧aA (m'.at_ 0=some ⟨T,5,.flat,true⟩∧m'.at_ m.next=some ⟨aR n (fun p=>if p < j then A p ^^^ aM c (B p) else 0),5,.flat,true⟩)) n ⟨0,by omega,o,t,r,rfl,rfl,⟨by rw [cF,if_neg (by omega)];exact hT,by rw [cF,if_pos rfl];rfl⟩⟩ ?_;clear o t r;rintro q e m' ⟨j,g,o,t,r,N,y,E⟩;replace g:=aA.mk g;by_cases f:j < n
  ·have d:((j:Nat):Int) < ((n:Nat):Int):=by omega
   have w1:=cB (n:=j) (by omega);obtain ⟨s,u⟩:=E.out;have K:(aR n A++V)[j]? = some (bA (A j)):=by rw [azg (by rw [fW];omega)];exact jE A f
   have H:(aR n B++Y)[j]? = some (bA (B j)):=by rw [azg (by rw [fW];omega)];exact jE B f
   have l:=adU (fun p=>A p ^^^ aM c (B p)) (fun _=>0) f;have P:=J (B j);have D:=Q (B j);have O:=S (A j) (aM c (B j));have x:j+1≤(aR n fun p=>if p < j then A p ^^^ aM c (B p) else 0).length:=by rw [fW];omega
   simp only [bA] at K H;simp only [↓pre,zaj,adp,zC,uB,simprocAttr,bne,aS,o,t,r,N,y,d,f,F.len',F.addr',X.addr',K,H,s,u,P,D,O,x,l];refine cX (by kernel_rfl) ?_;simp only [↓pre,za,zC,simprocAttr,bne,o,t,r,N,y,w1];exact ⟨q - 1,by have:=g.out;omega,j+1,by have:=g.out;omega,rfl,⟨by rw [if_neg (by omega)];exact s,rfl⟩⟩
  ·have d:¬ ((j:Nat):Int) < ((n:Nat):Int):=by omega
   have hj:j=n:=by have:=g.out;omega
   subst hj;obtain ⟨s,u⟩:=E.out;rw [ai1] at u;simp only [↓pre,za,adp,zC,simprocAttr,bne,o,N,y,d,F.len'];exact ⟨_,rfl,u⟩
 ·refine bU (fun q e m=>∃ i,q+i=256∧e 0=I∧e 1=bA c∧e 2=C∧e 7 = .sl 0 0 256 256 true∧e 8=aB (i:Nat)∧aA (m.at_ 0=some ⟨aR 256 (fun j=>if j < i then aM c (azQ j) else 0),5,.flat,true⟩∧0 < m.next)) 256 ⟨0,by omega,rfl,rfl,rfl,rfl,rfl,⟨rfl,Nat.succ_pos _⟩⟩ ?_;rintro q e m ⟨i,g,o,Z,t,r,R,E⟩;replace g:=aA.mk g;by_cases f:i < 256
  ·have d:((i:Nat):Int) < 256:=by omega
   have w1:=cB (n:=i) (by omega);have w2:=aaq f;have G:=W (azQ i);obtain ⟨s,u⟩:=E.out;have l:=adU (fun j=>aM c (azQ j)) (fun _=>0) f;have x:i+1≤(aR 256 fun j=>if j < i then aM c (azQ j) else 0).length:=by rw [fW];omega
   simp only [↓pre,zad,adp,zC,cO,simprocAttr,bne,bA,Z,r,R,d,w2]
   (first | refine aI (G) (by first | rfl | simp only [aC,aE, *]) ?_ | refine aH (G) (by first | rfl | simp only [aC,aE, *]) (by intro k;first | rfl | simp only [ *,zaa]) ?_);simp only [↓pre,zaj,adp,zC,simprocAttr,bne,aS,bA,o,Z,t,r,R,f,s,x,l,w1]
   exact ⟨q - 1,by have:=g.out;omega,i+1,by have:=g.out;omega,rfl,⟨rfl,u⟩⟩
  ·have d:¬ ((i:Nat):Int) < 256:=by omega
   have hi:i=256:=by have:=g.out;omega
   subst hi;obtain ⟨s,u⟩:=E.out;rw [ai1] at s;simp only [↓pre,zad,zC,simprocAttr,bne,bA,o,t,r,R];exact ⟨s,u⟩
theorem axo (a d:AV) (n:Nat) (A B:Nat→UInt8) (c:UInt8) (e f:List AV) (i:aT a n (aR n A++e)) (g:aT d n (aR n B++f)) (l:n≤65536):aQ ayU 338 [a,bA c,d] ⟨.sl 0 0 n n true,[(5,aR n (fun j=>A j ^^^ aM c (B j)))]⟩:=by
 refine aeF (mW (axn a d n A B c e f i g l) ?_);rintro r m ⟨b,rfl,h⟩;have k:bK ayU 5 = .flat:=by kernel_rfl
 simp [jB,canon,h,k]
theorem kP (n:Nat) (cs:List AV) (f:Bool):aT (.tree n n cs f) n cs:=⟨.inr (.inr ⟨_,_,rfl,aza _⟩)⟩
def aaz:Nat→Bool:=fun d=>d != 66
theorem apY (w C:AV) (N n:Nat) (c:Nat→UInt8) (M:Mx) (x:List AV) (cells:List AV) (I:aT w N (aR N c++x)) (f:qD C N n M cells) (hN:1≤N) (R:N≤16) (L:n≤65536):dV ayU 311 [w,C] aF.empty fun v m=>∃ b,v = .tup [.sl b 0 n n true,aB 0]∧m.at_ b=some ⟨aR n (pB N c M),5,.flat,true⟩:=by
 have hp:=f.rd.plain;have a1:=I.plain;have S:¬ (16:Int) < ((N:Nat):Int):=by omega
 have k2:¬ ((N:Nat):Int)=0:=by omega
 have V:¬ (65536:Int) < ((n:Nat):Int):=by omega
 have s:0 < N:=by omega
 obtain ⟨a0,x0,u,D⟩:=f.at_ 0 s;have E:=fun m=>vZ m (n:=n) L
 have k:=fun Z T A B c P Y U Q=>axo Z T n A B c P Y U Q L
 replace k:=aA.mk k;refine bV Tryz.func311 aaz (h:=?_);unfold Tryz.f311;simp only [↓pre,za,aaU,aaz,simprocAttr,bne,f.rd.len',I.len',S];rw [bS];refine zW (fun e m=>e 0=w∧e 1=C) (fun e m X => ?_) ?_
 ·obtain ⟨r,o⟩:=X;simp only [↓pre,za,aaU,aaz,simprocAttr,bne,o,f.rd.len',f.rd.addr',s,u,D.len',k2,E];rw [bS];refine bU (fun q e m=>∃ i b,q+i=N∧e 0=w∧e 1=C∧e 7 = .sl b 0 n n true∧e 8=aB (i:Nat)∧aA (m.at_ b=some ⟨aR n (pB i c M),5,.flat,true⟩)) N ⟨0,_,by omega,r,o,rfl,rfl,⟨by rw [cF,if_pos rfl];rfl⟩⟩ ?_;clear r o;rintro q e m ⟨i,b,l,r,o,K,G,J⟩;replace l:=aA.mk l;by_cases g:i < N
  ·have d:((i:Nat):Int) < ((N:Nat):Int):=by omega
   have w1:=cB (n:=i) (by omega);obtain ⟨a,y,t,p⟩:=f.at_ i g;have z:(aR N c++x)[i]? = some (bA (c i)):=by rw [azg (by rw [fW];omega)];exact jE c g
   have W:=J.out;have F:dN 3 m [.sl b 0 n n true,.val (.int .u8 ((c i).toNat:Int)),a]=some [.tree n n (aR n (pB i c M)) true,.val (.int .u8 ((c i).toNat:Int)),a]:=by
    simp [dN,lend,W,(yC 3 a p.plain).1]
   have H:=k.out (.tree n n (aR n (pB i c M)) true) a (pB i c M) (M i) (c i) [] y (by rw [aBl];exact kP _ _ _) p;have e:(fun j=>pB i c M j ^^^ aM (c i) (M i j))=pB (i+1) c M:=rfl;rw [e] at H;simp only [bA] at z H;replace e:=aA.mk e;simp only [↓pre,za,aaU,aaz,simprocAttr,bne,r,o,K,G,d,I.addr',f.rd.len',f.rd.addr',g,t,z];refine wU H F (by simp [fA.apart,hY,afD]) ?_;refine cX (by kernel_rfl) ?_;simp only [↓pre,za,aaU,aaz,simprocAttr,bne,r,o,G,w1];exact ⟨q - 1,by have:=l.out;omega,i+1,m.next,by have:=l.out;omega,rfl,rfl,⟨by simp [cF]⟩⟩
  ·have d:¬ ((i:Nat):Int) < ((N:Nat):Int):=by omega
   have hi:i=N:=by have:=l.out;omega
   subst hi;simp only [↓pre,za,aaU,aaz,simprocAttr,bne,o,K,G,d,f.rd.len'];exact ⟨b,rfl,J.out⟩
 ·refine bU (fun q e m=>∃ i,q+i=N∧e 0=w∧e 1=C∧e 6=aB (i:Nat)) N ⟨0,by omega,rfl,rfl,rfl⟩ ?_;rintro q e m ⟨i,l,r,o,O⟩;replace l:=aA.mk l;by_cases g:i < N
  ·have d:((i:Nat):Int) < ((N:Nat):Int):=by omega
   have w1:=cB (n:=i) (by omega);obtain ⟨a,y,t,p⟩:=f.at_ i g;simp only [↓pre,za,aaU,aaz,simprocAttr,bne,r,o,O,d,f.rd.len',f.rd.addr',g,s,u,D.len',t,p.len',V,w1];exact ⟨q - 1,by have:=l.out;omega,i+1,by have:=l.out;omega,rfl⟩
  ·have d:¬ ((i:Nat):Int) < ((N:Nat):Int):=by omega
   simp only [↓pre,za,aaU,aaz,simprocAttr,bne,r,o,O,d,f.rd.len']
theorem axp (d e:AV) (N n:Nat) (c:Nat→UInt8) (M:Mx) (x:List AV) (cells:List AV) (f:aT d N (aR N c++x)) (g:qD e N n M cells) (i:1≤N) (a:N≤16) (j:n≤65536):aQ ayU 311 [d,e] ⟨.tup [.tree n n (aR n (pB N c M)) true,aB 0],[]⟩:=by
 refine gA (mW (apY d e N n c M x cells f g i a j) ?_);rintro r m ⟨b,rfl,h⟩;exact ⟨0,by rw [kH,eC,wW h,aBx,aAk,eC];unfold aB;rw [gU,jI];rfl⟩
theorem axq (d e:AV) (N n:Nat) (c:Nat→UInt8) (M:Mx) (x:List AV) (cells:List AV) (f:aT d N (aR N c++x)) (g:qD e N n M cells) (i:1≤N) (a:N≤16) (k:n≤65536):aQ ayU 311 [d,e] ⟨.tup [.sl 0 0 n n true,aB 0],[(5,aR n (pB N c M))]⟩:=by
 refine aeF (mW (apY d e N n c M x cells f g i a k) ?_);rintro r m ⟨b,rfl,h⟩;have j:bK ayU 5 = .flat:=by kernel_rfl
 simp [jB,canon,fN,aB,h,j]
theorem axr (v:AV) (n w:Nat) (M:Mx) (cells:List AV) (c:qD v n w M cells) (E:1≤n) (u:n≤32) (D:1≤w) (z:w≤32):aQ ayU 334 [v] ⟨aB 0,[]⟩:=by
 have p:¬ ((n:Nat):Int) < 1:=by omega
 have A:¬ (32:Int) < ((n:Nat):Int):=by omega
 have t:¬ ((w:Nat):Int) < 1:=by omega
 have s:¬ (32:Int) < ((w:Nat):Int):=by omega
 have d:0 < n:=by omega
 obtain ⟨C,B,f,j⟩:=c.at_ 0 d;refine aV Tryz.func334 aD (h:=?_);unfold Tryz.f334;simp only [↓pre,zae,ahD,simprocAttr,c.rd.len',c.rd.addr',d,f,j.len',p,A,t,s];rw [bS];refine bU (fun q e m=>∃ i,q+i=n∧e 0=v∧e 3=aB (i:Nat)) n ⟨0,by omega,rfl,rfl⟩ ?_;rintro q e m ⟨i,k,o,l⟩;replace k:=aA.mk k;by_cases g:i < n
 ·have b:((i:Nat):Int) < ((n:Nat):Int):=by omega
  have w1:=cB (n:=i) (by omega);obtain ⟨a,x,y,r⟩:=c.at_ i g;simp only [↓pre,zae,ahD,simprocAttr,c.rd.len',c.rd.addr',d,f,j.len',o,l,b,g,y,r.len',w1];exact ⟨q - 1,by have:=k.out;omega,i+1,by have:=k.out;omega,rfl⟩
 ·have b:¬ ((i:Nat):Int) < ((n:Nat):Int):=by omega
  simp only [↓pre,zae,ahD,simprocAttr,c.rd.len',o,l,b]
def abj:Nat→Bool:=fun d=>d != 13 && d != 17 && d != 32 && d != 37
theorem axs (m0:aF) (b x w d:Nat) (f P:Bool) (M g:Nat→UInt8) (U:w≤64) (s:d < w) (L:b≠x) (F:g d≠0) (O:m0.at_ b=some ⟨aR w M,5,.flat,true⟩) (B:m0.at_ x=some ⟨aR w g,5,.flat,true⟩):dV ayU 350 [.sl b 0 w w f,.sl x 0 w w P,aB (d:Nat)] m0 fun r m'=>r = .tup []∧m'=m0.put b (some ⟨aR w (fun j=>M j ^^^ aM (aM (M d) (cK (g d))) (g j)),5,.flat,true⟩):=by
 have G:=apX (M d) (g d);rw [if_neg F,if_neg F] at G;generalize aM (M d) (cK (g d))=c at *
 have N:=af6 c;have T:=acp;have D:=jE (w:=w) M s;have y:=jE (w:=w) g s;replace F:=aA.mk F;simp only [bA] at N G D y;refine bV Tryz.func350 abj (h:=?_);unfold Tryz.f350;simp only [↓pre,zaj,ahF,abj,simprocAttr,bne,s,O,B,D,y]
 (first | refine aI (G) (by first | rfl | simp only [aC,aE, *]) ?_ | refine aH (G) (by first | rfl | simp only [aC,aE, *]) (by intro k;first | rfl | simp only [ *,zaa]) ?_);simp only [↓pre,zad,abj,simprocAttr,bne]
 rw [bS];refine bU (fun q e m=>∃ j,q+j=w∧e 0 = .sl b 0 w w f∧e 1 = .sl x 0 w w P∧e 6=bA c∧e 8=aB (j:Nat)∧aA (m=m0.put b (some ⟨aR w (fun a=>if a < j then M a ^^^ aM c (g a) else M a),5,.flat,true⟩))) w ⟨0,by omega,rfl,rfl,rfl,rfl,⟨?_⟩⟩ ?_
 ·have:aR w (fun a=>if a < 0 then M a ^^^ aM c (g a) else M a)=aR w M:=rY fun j _=>by rw [if_neg (by omega)]
  rw [this,acr O]
 rintro q e m ⟨j,C,K,R,Q,J,E⟩;replace C:=aA.mk C;by_cases o:j < w
 ·have p:((j:Nat):Int) < ((w:Nat):Int):=by omega
  have w1:=cB (n:=j) (by omega);have u:m.at_ b=some ⟨aR w (fun a=>if a < j then M a ^^^ aM c (g a) else M a),5,.flat,true⟩:=by rw [E.out,cI,if_pos rfl]
  have A:m.at_ x=some ⟨aR w g,5,.flat,true⟩:=by rw [E.out,cI,if_neg (fun e=>L e.symm)];exact B
  have l:=jE (w:=w) (fun a=>if a < j then M a ^^^ aM c (g a) else M a) o;have i:=jE (w:=w) g o;simp only [aBL,if_false,bA] at l i;have z:=adU (fun a=>M a ^^^ aM c (g a)) M o;have I:j+1≤(aR w fun a=>if a < j then M a ^^^ aM c (g a) else M a).length:=by rw [fW];omega
  have v:=N (g j);have H:=T (M j) (aM c (g j));simp only [↓pre,zaj,ahF,abj,lE,simprocAttr,bne,bA,K,R,Q,J,p,o,u,A,l,i]
  (first | refine aI (v) (by first | rfl | simp only [aC,aE, *]) ?_ | refine aH (v) (by first | rfl | simp only [aC,aE, *]) (by intro k;first | rfl | simp only [ *,zaa]) ?_);simp only [↓pre,zaj,ahF,abj,uB,simprocAttr,bne,aS,o,u,H,I,z]
  refine cX (by kernel_rfl) ?_;simp only [↓pre,zad,abj,simprocAttr,bne,bA,K,R,Q,J,w1];refine ⟨q - 1,by have:=C.out;omega,j+1,by have:=C.out;omega,rfl,⟨?_⟩⟩;rw [E.out,aas]
 ·have p:¬ ((j:Nat):Int) < ((w:Nat):Int):=by omega
  have S:j=w:=by have:=C.out;omega
  subst S;have t:=E.out;rw [ai1] at t;subst t;simp only [↓pre,za,abj,lE,simprocAttr,bne,bA,K,J,p]
def sH (w:Nat) (β:Nat→Nat) (i:Nat):List AV:=(aAp i).map fun j => .sl (β j) 0 w w true
theorem axt (w:Nat) (β:Nat→Nat) (i:Nat):sH w β (i+1)=sH w β i++[.sl (β i) 0 w w true]:=by simp [sH,aAW]
theorem axu (w:Nat) (β:Nat→Nat) (i:Nat):(sH w β i).length=i:=by simp [sH]
theorem axv {w i n:Nat} (β:Nat→Nat) (h:i < n):(sH w β n)[i]? = some (.sl (β i) 0 w w true):=by
 unfold sH;rw [azo,aBS h];rfl
theorem axw {w n:Nat} {β γ:Nat→Nat} (h:∀ i,i < n→β i=γ i):sH w β n=sH w γ n:=by
 unfold sH;refine List.map_congr_left fun i hi => ?_
 rw [h i (aAz.1 hi)]
structure abk (m0 m:aF) (lv:AV) (w i:Nat) (β:Nat→Nat):Prop where
 own:bY .var m 52 1 lv i (sH w β i)
 row:∀ j,j < i→m0.next≤β j∧β j < m.next∧m.at_ (β j)=some ⟨aR w (fun _=>0),5,.flat,true⟩∧cG lv≠some (β j)
 inj:∀ j k,j < i→k < i→β j=β k→j=k
 kept:gX m0 m
 new:kB m0 lv
theorem axx (m:aF) (b n:Nat) (f:Bool):pR ayU m 45 1 [(0,.sl b 0 n n f)]=some ⟨.sl m.next 0 1 1 true,m.push ⟨[.sl b 0 n n f],52,.var,true⟩,none⟩:=by
 have e:bO ayU 45=some 52:=by kernel_rfl
 have a:bX ayU 52=some 1:=by kernel_rfl
 have d:iJ ayU 52 1=some [.val (.slice none 0 0)]:=by kernel_rfl
 have c:bK ayU 52 = .var:=by kernel_rfl
 simp [pR,e,a,d,c,hU,cH,AV.cells,gD,dL,bI]
theorem axy {m:aF} {b:Nat} {x:AV} {f:Bool} (h:m.at_ b=some ⟨[x],52,.var,true⟩):eM ayU 52 1 m (.sl b 0 1 1 f)=some ([x],1):=by
 have a:bK ayU 52 = .var:=by kernel_rfl
 simp [eM,dR,h,a]
theorem abk.grow {m0 m l:aF} {q g:AV} {w i:Nat} {β:Nat→Nat} {s:eZ} (h:abk m0 m q w i β)
 (B:bY .var l 52 1 g (i+1) (sH w β i++[.sl m.next 0 w w true])) (y:((m.push ⟨aR w (fun _=>0),5,.flat,true⟩).push s).next≤l.next)
 (r:∀ j k,((m.push ⟨aR w (fun _=>0),5,.flat,true⟩).push s).at_ j=some k→j < ((m.push ⟨aR w (fun _=>0),5,.flat,true⟩).push s).next→cG q≠some j→l.at_ j=some k)
 (p:∀ j,cG g=some j→j=((m.push ⟨aR w (fun _=>0),5,.flat,true⟩).push s).next∨cG q=some j) (o:l.mm=m.mm):abk m0 l g w (i+1) (fun j=>if j=i then m.next else β j):=by
 simp only [cQ] at y r p;have u:=h.kept.next;have n:∀ j,cG q=some j→j < m.next:=fun j a=>by
  rcases h.own.form with ⟨e,_⟩ | ⟨b,e,_,z,_⟩
  ·rw [e] at a;cases a
  ·rw [e] at a;cases a;exact z
 have c:sH w (fun j=>if j=i then m.next else β j) (i+1)=sH w β i++[.sl m.next 0 w w true]:=by
  rw [axt];simp only [if_true];rw [axw fun j a=>if_neg (Nat.ne_of_lt a)]
 refine ⟨by rw [c];exact B,fun j a => ?_,fun j k a D e => ?_,⟨o.trans h.kept.mm,by omega,fun j k a A => ?_⟩,fun j a => ?_⟩
 ·by_cases e:j=i
  ·simp only [if_pos e];refine ⟨u,by omega,r _ _ (by rw [cF,if_neg (by rw [cQ];omega),cF,if_pos rfl]) (by omega) fun f=>by have:=n _ f;omega,fun f => ?_⟩;rcases p _ f with d | d
   ·omega
   ·have:=n _ d;omega
  ·simp only [if_neg e];obtain ⟨r1,r2,C,v⟩:=h.row j (by omega);refine ⟨r1,by omega,r _ _ (by rw [cF,if_neg (by rw [cQ];omega),cF,if_neg (by omega)];exact C) (by omega) v,fun f => ?_⟩;rcases p _ f with d | d
   ·omega
   ·exact v d
 ·by_cases o:j=i <;> by_cases t:k=i
  ·omega
  ·simp only [if_pos o,if_neg t] at e;have:=(h.row k (by omega)).2.1;omega
  ·simp only [if_neg o,if_pos t] at e;have:=(h.row j (by omega)).2.1;omega
  ·simp only [if_neg o,if_neg t] at e;exact h.inj j k (by omega) (by omega) e
 ·have x:=h.kept.at_ j k a A;exact r _ _ (by rw [cF,if_neg (by rw [cQ];omega),cF,if_neg (by omega)];exact x) (by omega) fun f=>by have:=h.new j f;omega
 ·rcases p j a with d | d
  ·omega
  ·exact h.new j d
def af7:Nat→Bool:=fun d=>d != 15
theorem ai2 (m0:aF) (n w:Nat) (H:n≤32) (G:w≤64):dV ayU 335 [aB (n:Nat),aB (w:Nat)] m0 fun r m'=>∃ β,abk m0 m' r w n β:=by
 have g:=fun m=>vZ m (n:=w) (by omega)
 refine bV Tryz.func335 af7 (h:=?_);unfold Tryz.f335;simp only [↓pre,simprocAttr,sx];rw [bS];refine bU (fun q e m=>∃ i o β,q+i=n∧e 0=aB (n:Nat)∧e 1=aB (w:Nat)∧e 5=o∧e 6=aB (i:Nat)∧aA (abk m0 m o w i β)) n ⟨0,aW,fun _=>0,by omega,rfl,rfl,rfl,rfl,⟨gK,fun j E=>by omega,fun j k E=>by omega,gX.refl _,wX _⟩⟩ ?_;rintro q e m ⟨i,o,β,d,p,D,C,u,c⟩;replace d:=aA.mk d;by_cases F:i < n
 ·have a:((i:Nat):Int) < ((n:Nat):Int):=by omega
  have w1:=cB (n:=i) (by omega);have t:=fun m (b n:Nat) f=>axx m b n f
  replace c:=aA.mk c;simp only [↓pre,za,atc,af7,cO,simprocAttr,bne,g,p,D,C,u,a,t];refine vN (kd := .var) (sz:=1) (y:=24) (zl:=[.slice none 0 0]) (by kernel_rfl) ((c.out.out.own.push _).push _) (by kernel_rfl) (by kernel_rfl) (by kernel_rfl) rfl (axy (by rw [cF,if_pos (by rw [cQ])])) rfl (by omega) (by omega) fun s m' z v B x A => ?_
  have l:=c.out.out.grow z v B x A;replace l:=aA.mk l;clear z v B x A;simp only [↓pre,zad,af7,simprocAttr,bne,p,D,u,w1];exact ⟨q - 1,by have:=d.out;omega,i+1,s,_,by have:=d.out;omega,rfl,rfl,l⟩
 ·have a:¬ ((i:Nat):Int) < ((n:Nat):Int):=by omega
  have hi:i=n:=by have:=d.out;omega
  subst hi;simp only [↓pre,zad,af7,simprocAttr,bne,p,C,u,a];exact ⟨β,c.out⟩
theorem abk.mat {m0 m:aF} {a:AV} {w n:Nat} {β:Nat→Nat} (h:abk m0 m a w n β) (e:1≤n):∃ b,a = .sl b 0 n n false∧dC m b n w n true β (fun _ _=>0)∧m0.next≤b∧∀ i,i < n→m0.next≤β i:=by
 obtain ⟨b,rfl,c,d⟩:=h.own.sl (by omega);exact ⟨b,rfl,⟨⟨_,c,axu _ _ _,fun i hi=>axv β hi⟩,d,fun i hi=>⟨(h.row i hi).2.1,(h.row i hi).2.2.1⟩,h.inj⟩,h.new b rfl,fun i hi=>(h.row i hi).1⟩
theorem apZ {N:Nat} (x:Mx):∀ j,(rsol N x j).1≤N
 | 0=>Nat.zero_le _
 | j+1=>by
  have a:=apZ (N:=N) x j;have b:=aan (rsol N x j).2 j (N - (rsol N x j).1) (rsol N x j).1;show (uO N j (rsol N x j)).1≤N;unfold uO;simp only;split
  ·exact a
  ·simp only;omega
theorem ap0 {N:Nat} {x:Mx} {j:Nat} (h:(rsol N x j).1=N):∀ m,rsol N x (j+m)=rsol N x j
 | 0=>rfl
 | m+1=>by
  show uO N (j+m) (rsol N x (j+m))=_;rw [ap0 h m];unfold uO;have a:=aan (rsol N x j).2 (j+m) (N - (rsol N x j).1) (rsol N x j).1;simp only;rw [if_pos (by omega)]
def sJ:Nat→Bool:=fun d=>d != 69 && d != 73 && d != 75
set_option maxHeartbeats 1000000 in
theorem axz (m0:aF) (b N w:Nat) (g:Bool) (β:Nat→Nat) (M:Mx) (hN:1≤N) (c9:N≤16) (hw:N≤w) (c3:w≤64) (h:dC m0 b N w N true β M):dV ayU 336 [.sl b 0 N N g,aB (N:Nat)] m0 fun r m'=>∃ β',r=aB ((rsol N M N).1:Nat)∧dC m' b N w N true β' (rsol N M N).2:=by
 replace hN:=aA.mk hN;refine bV Tryz.func336 sJ (h:=?_);unfold Tryz.f336;simp only [↓pre,simprocAttr,sx];rw [bS];refine bU (fun q e m=>∃ j β,q+j=N∧e 0 = .sl b 0 N N g∧e 1=aB (N:Nat)∧e 5=aB ((rsol N M j).1:Nat)∧e 6=aB (j:Nat)∧aA (dC m b N w N true β (rsol N M j).2)) N ⟨0,β,by omega,rfl,rfl,rfl,rfl,⟨h⟩⟩ ?_;rintro q e m ⟨j,β,P,o,t,k,l,hJ⟩;replace P:=aA.mk P;have d:rsol N M (j+1)=uO N j (rsol N M j):=rfl;have d3:=apZ (N:=N) M j;have u:=fun h=>ap0 (N:=N) (x:=M) (j:=j) h
 generalize a7:rsol N M j=s at *
 replace a7:=aA.mk a7;by_cases c8:j < N
 ·have H:((j:Nat):Int) < ((N:Nat):Int):=by omega
  by_cases E:s.1 < N
  ·have S:((s.1:Nat):Int) < ((N:Nat):Int):=by omega
   have w1:=cB (n:=j) (by omega);replace u:=aA.mk u;simp only [↓pre,za,sJ,lE,simprocAttr,bne,o,t,k,l,H,S];rw [bS];refine zW (fun e m'=>e 0 = .sl b 0 N N g∧e 1=aB (N:Nat)∧e 5=aB (s.1:Nat)∧e 6=aB (j:Nat)∧e 7=aB (dQ s.2 j (N - s.1) s.1:Nat)∧m'=m) (fun e m' hR => ?_) ?_
   ·clear o t k l;obtain ⟨o,t,k,l,Z,rfl⟩:=hR;have W:=aan s.2 j (N - s.1) s.1;by_cases hp:dQ s.2 j (N - s.1) s.1=N
    ·have u:uO N j s=s:=by unfold uO;simp only [hp,aza,if_true]
     rw [hp] at Z;rw [u] at d;replace W:=aA.mk W;replace d:=aA.mk d;replace u:=aA.mk u;simp only [↓pre,za,sJ,lE,simprocAttr,bne,o,t,k,l,Z,w1];exact ⟨q - 1,by have:=P.out;omega,j+1,β,by have:=P.out;omega,by rw [d.out],rfl,⟨by rw [d.out];exact hJ.out⟩⟩
    ·have a3:dQ s.2 j (N - s.1) s.1 < N:=by omega
     have V:=adD s.2 j (N - s.1) s.1 (by omega);have a1:uO N j s=(s.1+1,gC (eG s.2 (dQ s.2 j (N - s.1) s.1) s.1) s.1 (fun i=>aM (eG s.2 (dQ s.2 j (N - s.1) s.1) s.1 i j) (cK (eG s.2 (dQ s.2 j (N - s.1) s.1) s.1 s.1 j)))):=by unfold uO;simp only [if_neg (show ¬ N≤dQ s.2 j (N - s.1) s.1 by omega)]
     rw [a1] at d;clear a1;obtain ⟨n,X⟩:=s;simp only at *
     generalize dQ X j (N - n) n=a at *
     have c6:¬ ((a:Nat):Int)=((N:Nat):Int):=by omega
     replace d:=aA.mk d;replace W:=aA.mk W;obtain ⟨cells,y,c4,z⟩:=hJ.out.row;have Y:=z a a3;have c5:=z n E;have C:=hJ.out.swap a3 E y;have b5:a+1≤cells.length:=by omega
     have b4:n+1≤(cells.take a++[AV.sl (β n) 0 w w true]++cells.drop (a+1)).length:=by simp;omega
     unfold cH at C;simp only [zak,azq] at C;replace z:=aA.mk z;have L:eG X a n n j≠0:=by
      unfold eG;by_cases e9:n=a
      ·rw [if_pos e9,e9];exact V
      ·rw [if_neg e9,if_pos rfl];exact V
     replace V:=aA.mk V;replace C:=aA.mk C;replace L:=aA.mk L;simp only [↓pre,zaj,ae9,sJ,lE,aas,simprocAttr,bne,aS,o,k,Z,c6,a3,E,y,Y,c5,b5,b4];generalize d0:(fun i=>if i=a then β n else if i=n then β a else β i)=T at C;generalize d2:eG X a n=f at C d L;generalize c1:aF.put m' b _=m1 at C ⊢;clear c1;have wn:=cB (n:=n) (by omega);generalize hκ:(fun i=>aM (f i j) (cK (f n j)))=κ at d;have p:gC f n κ n=f n:=by funext q;unfold gC;rw [if_pos rfl]
     rw [bS];refine zW (fun e m'=>e 0 = .sl b 0 N N g∧e 1=aB (N:Nat)∧e 5=aB (n:Nat)∧e 6=aB (j:Nat)∧aA (dC m' b N w N true T (gC f n κ))) (fun e m' hR => ?_) ?_
     ·clear o t k l Z;obtain ⟨o,t,k,l,hE⟩:=hR;replace p:=aA.mk p;simp only [↓pre,zad,sJ,simprocAttr,bne,o,t,k,l,wn,w1];exact ⟨q - 1,by have:=P.out;omega,j+1,T,by have:=P.out;omega,by rw [d.out],rfl,⟨by rw [d.out];exact hE.out⟩⟩
     ·refine bU (fun q' e m'=>∃ i,q'+i=N∧e 0 = .sl b 0 N N g∧e 1=aB (N:Nat)∧e 5=aB (n:Nat)∧e 6=aB (j:Nat)∧e 9=aB (i:Nat)∧aA (dC m' b N w N true T (fun v q=>if v < i then gC f n κ v q else f v q))) N ⟨0,by omega,o,t,k,l,rfl,⟨C.out.congr fun i hi q P=>by rw [if_neg (by omega)]⟩⟩ ?_;clear o t k l Z;rintro q' e m' ⟨i,F,o,t,k,l,e9,G⟩;replace F:=aA.mk F;by_cases R:i < N
      ·have J:((i:Nat):Int) < ((N:Nat):Int):=by omega
       have wi:=cB (n:=i) (by omega);by_cases U:i=n
       ·have c:dC m' b N w N true T (fun v q=>if v < i+1 then gC f n κ v q else f v q):=G.out.congr fun v b2 q P=>by
         by_cases h1:v < i
         ·rw [if_pos h1,if_pos (by omega)]
         ·rw [if_neg h1];by_cases h2:v=i
          ·rw [if_pos (by omega),h2,U,p]
          ·rw [if_neg (by omega)]
        subst U;replace p:=aA.mk p;replace c:=aA.mk c;simp only [↓pre,za,sJ,lE,simprocAttr,bne,o,t,k,l,e9,J,wi];exact ⟨q' - 1,by have:=F.out;omega,i+1,by have:=F.out;omega,rfl,c⟩
       ·have b0:¬ ((i:Nat):Int)=((n:Nat):Int):=by omega
        obtain ⟨c2,a9,c7,K⟩:=G.out.row;have b3:=K i R;have b8:=K n E;obtain ⟨_,b9⟩:=G.out.own i R;obtain ⟨_,b7⟩:=G.out.own n E;have a4:(fun q=>if i < i then gC f n κ i q else f i q)=f i:=by funext q;rw [if_neg (aBL _)]
        have a8:(fun q=>if n < i then gC f n κ n q else f n q)=f n:=by funext q;rw [p];split <;> rfl
        rw [a4] at b9;rw [a8] at b7;have b1:=axs m' (T i) (T n) w j true true (f i) (f n) c3 (by omega) (fun h=>U (G.out.inj i n R E h)) L.out b9 b7;have c:dC (m'.put (T i) (some ⟨aR w (fun q=>f i q ^^^ aM (aM (f i j) (cK (f n j))) (f n q)),5,.flat,true⟩)) b N w N true T (fun v q=>if v < i+1 then gC f n κ v q else f v q):=(G.out.put_row R _).congr fun v b2 q P=>by
         by_cases h2:v=i
         ·subst h2;rw [if_pos rfl,if_pos (by omega)];unfold gC;rw [if_neg U,←hκ]
         ·rw [if_neg h2];by_cases h1:v < i
          ·rw [if_pos h1,if_pos (by omega)]
          ·rw [if_neg h1,if_neg (by omega)]
        generalize b6:aF.put m' (T i) _=m2 at b1 c;clear b6;replace K:=aA.mk K;replace p:=aA.mk p;replace c:=aA.mk c;replace a4:=aA.mk a4;replace a8:=aA.mk a8;simp only [↓pre,zaj,ae9,sJ,lE,simprocAttr,bne,o,k,l,e9,J,b0,a9,R,E,b3,b8];refine nR b1 ?_;refine cX (by kernel_rfl) ?_;simp only [↓pre,zad,sJ,simprocAttr,bne,o,t,k,l,e9,wi];exact ⟨q' - 1,by have:=F.out;omega,i+1,by have:=F.out;omega,rfl,c⟩
      ·have J:¬ ((i:Nat):Int) < ((N:Nat):Int):=by omega
       have hi:i=N:=by have:=F.out;omega
       have Q:dC m' b N w N true T (gC f n κ):=G.out.congr fun v b2 q P=>by rw [if_pos (by omega)]
       replace Q:=aA.mk Q;replace p:=aA.mk p;subst hi;simp only [↓pre,za,sJ,lE,simprocAttr,bne,o,t,k,l,e9,J];exact Q
   ·refine bU (fun q e m'=>∃ a,q+a=N∧s.1≤a∧e 0 = .sl b 0 N N g∧e 1=aB (N:Nat)∧e 5=aB (s.1:Nat)∧e 6=aB (j:Nat)∧e 7=aB (a:Nat)∧m'=m∧aA (dQ s.2 j (N - a) a=dQ s.2 j (N - s.1) s.1)) (N - s.1) ⟨s.1,by omega,aza _,o,t,k,l,rfl,rfl,⟨rfl⟩⟩ ?_;clear o t k l;rintro q2 e m' ⟨a,O,d1,o,t,k,l,Z,rfl,a5⟩;replace O:=aA.mk O;by_cases a0:a < N
    ·have I:((a:Nat):Int) < ((N:Nat):Int):=by omega
     have wa:=cB (n:=a) (by omega);obtain ⟨cells,y,c4,z⟩:=hJ.out.row;have Y:=z a a0;obtain ⟨_,a2⟩:=hJ.out.own a a0;have D:=jE (w:=w) (s.2 a) (show j < w by omega);have c0:j < w:=by omega
     simp only [bA] at D;have A:dQ s.2 j (N - a) a=if s.2 a j≠0 then a else dQ s.2 j (N - (a+1)) (a+1):=by
      rw [show N - a=(N - (a+1))+1 by omega];rfl
     replace z:=aA.mk z;by_cases hz:s.2 a j=0
     ·have a6:((s.2 a j).toNat:Int)=0:=by rw [hz];rfl
      rw [if_neg (by simp [hz])] at A;replace A:=aA.mk A;simp only [↓pre,zaj,ae9,sJ,lE,simprocAttr,bne,o,t,k,l,Z,I,a0,y,Y,a2,c0,D,a6,wa];exact ⟨q2 - 1,by have:=O.out;omega,a+1,by have:=O.out;omega,by omega,rfl,⟨by rw [←A.out];exact a5.out⟩⟩
     ·have a6:¬ ((s.2 a j).toNat:Int)=0:=fun h=>hz (aBf.1 (by show _=0;omega))
      rw [if_pos hz] at A;rw [←a5.out,A];replace A:=aA.mk A;simp only [↓pre,zaj,ae9,sJ,lE,simprocAttr,bne,o,t,k,l,Z,I,a0,y,Y,a2,c0,D,a6]
    ·have I:¬ ((a:Nat):Int) < ((N:Nat):Int):=by omega
     have ha:a=N:=by have:=O.out;omega
     subst ha;have B:dQ s.2 j (a - s.1) s.1=a:=by rw [←a5.out,Nat.sub_self];rfl
     rw [B];simp only [↓pre,za,sJ,lE,simprocAttr,bne,o,t,k,l,Z,I]
  ·have S:¬ ((s.1:Nat):Int) < ((N:Nat):Int):=by omega
   have B:rsol N M N=s:=by
    have:=u (by omega) (N - j);rw [show j+(N - j)=N by omega] at this;exact this
   rw [B];replace u:=aA.mk u;replace B:=aA.mk B;simp only [↓pre,za,sJ,lE,simprocAttr,bne,o,t,k,l,H,S];exact ⟨_,hJ.out⟩
 ·have H:¬ ((j:Nat):Int) < ((N:Nat):Int):=by omega
  have hj:j=N:=by have:=P.out;omega
  subst hj;rw [a7.out];simp only [↓pre,zad,sJ,simprocAttr,bne,t,k,l,H];exact ⟨_,hJ.out⟩
theorem axA {N:Nat} {M0:Mx} (b:afv N M0) {i:Nat} (hi:i < N):(rsol N (mD N M0) N).2 i i≠0:=by
 have h:=afu b N (aza _);obtain ⟨d,f,a,c⟩:=aib M0 N (aza _);rw [(c i hi i hi).1,h.unit i i hi hi,if_pos rfl,xG];exact a i hi
theorem ap1 {m:aF} {b n w:Nat} {f:Bool} {F:Nat→UInt8} {v:AV} {x:List AV} (e:m.at_ b=some ⟨aR w (fun _=>0),5,.flat,true⟩) (k:aT v n (aR n F++x)) (o:n≤w):sR ayU 5 m (.sl b 0 w w f) v=some ⟨aB (n:Nat),m.put b (some ⟨aR w (fun j=>if j < n then F j else 0),5,.flat,true⟩),none⟩:=by
 have h:bX ayU 5=some 1:=by kernel_rfl
 have g:bK ayU 5 = .flat:=by kernel_rfl
 have hs:=k.src (P:=ayU) (m:=m) (el:=5) (sz:=1) (by rw [aA2,fW];omega);have l:(aR n F++x).take (n*1)=aR n F:=by rw [azG,aB5 (by rw [fW];omega),aBa (by rw [fW];omega)]
 rw [l] at hs;have c:cH (aR w fun _=>0) 0 (aR n F)=aR w (fun j=>if j < n then F j else 0):=by
  refine aAi fun i => ?_
  unfold cH;rw [List.take_zero,aBt,azq,fW];by_cases a:i < n
  ·rw [azg (by rw [fW];omega),jE F a,jE _ (by omega),if_pos a]
  ·rw [azh (by rw [fW];omega),fW,aAv];by_cases d:i < w
   ·rw [show n+(i - n)=i by omega,jE _ d,jE _ d,if_neg a]
   ·rw [ay6 (by rw [fW];omega),ay6 (by rw [fW];omega)]
 simp only [sR,h,hs,e,aAk,g];rw [if_pos ⟨trivial,trivial,by rw [fW];omega⟩,aCe o,azG,aBa (by rw [fW];omega),c];rfl
def rG:Nat→Bool:=fun d=>d != 36 && d != 41 && d != 72 && d != 77 && d != 82 && d != 86 && d != 89
theorem axB (v:AV) (n:Nat) (M:Mx) (cells:List AV) (Y:qD v n n M cells) (hn:1≤n) (d5:n≤16) (hM:afv n M):aQ ayU 310 [v] ⟨.tup [.tree n n (nC true n n (mP n M)) false,aB 0],[]⟩:=by
 refine gA ?_;have hp:=Y.rd.plain;have b3:=axr v n n M cells Y hn (by omega) hn (by omega);have a9:=fun m=>ai2 m n (2*n) (by omega) (by omega)
 have a4:=fun m=>ai2 m n n (by omega) (by omega)
 have S:=fun m b g β h=>axz m b n (2*n) g β (mD n M) hn d5 (by omega) (by omega) h
 obtain ⟨a3,L⟩:=au4 hM;have W:=fun i hi=>axA (N:=n) (M0:=M) hM (i:=i) hi
 rw [a3] at S;obtain ⟨a0,x0,c4,c7⟩:=Y.at_ 0 (by omega);have d6:0 < n:=by omega
 have d4:¬ ((n:Nat):Int) < ((n:Nat):Int):=by omega
 have w2:azy.wrap (2*((n:Nat):Int))=((2*n:Nat):Int):=by rw [gB (by omega) (by omega)];omega
 have C:=fun m b F v x hb Y=>ap1 (m:=m) (b:=b) (n:=n) (w:=2*n) (f:=true) (F:=F) (v:=v) (x:=x) hb Y (by omega)
 replace a9:=aA.mk a9;replace a4:=aA.mk a4;replace S:=aA.mk S;replace L:=aA.mk L;replace W:=aA.mk W;replace a3:=aA.mk a3;replace C:=aA.mk C;generalize hX:(rsol n (mD n M) n).2=X at *
 refine bV Tryz.func310 rG (h:=?_);unfold Tryz.f310;simp only [↓pre,zad,rG,simprocAttr,bne]
 (first | refine aI (b3) (by first | rfl | simp only [aE, *]) ?_ | refine aH (b3) (by first | rfl | simp only [aC,aE, *]) (by intro k;first | rfl | simp only [ *,zaa]) ?_);simp only [↓pre,za,ado,rG,simprocAttr,bne,Y.rd.len',Y.rd.addr',d6,c4,c7.len',w2]
 refine jD (a9.out _) ?_;rintro r m1 ⟨β0,hB⟩;obtain ⟨b,rfl,hT,_,_⟩:=hB.mat hn;replace hB:=aA.mk hB;simp only [↓pre,simprocAttr];rw [bS];refine zW (fun e m=>∃ β,e 4=aB (n:Nat)∧e 5 = .sl b 0 n n false∧aA (dC m b n (2*n) n true β (mD n M))) (fun e m hR => ?_) ?_
 ·obtain ⟨β,u,A,d7⟩:=hR;simp only [↓pre,zad,rG,simprocAttr,bne,u,A];refine jD (S.out _ _ _ _ d7.out) ?_;rintro r m2 ⟨β2,rfl,Q⟩;replace Q:=aA.mk Q;simp only [↓pre,zad,rG,simprocAttr,bne,u,d4];refine jD (a4.out _) ?_;rintro r m3 ⟨γ,J⟩;obtain ⟨c,rfl,hO,hc,hγ⟩:=J.mat hn;have e2:=Q.out.lt;have a8:=fun i hi=>(Q.out.own i hi).1
  have b0:dC m3 b n (2*n) n true β2 X:=Q.out.keep J.kept.next fun j k hj hl _=>J.kept.at_ j k hj hl
  replace J:=aA.mk J;replace b0:=aA.mk b0;replace hO:=aA.mk hO;replace a8:=aA.mk a8;replace hγ:=aA.mk hγ;have e1:¬ c=b:=by omega
  generalize hV:(fun i j=>aM (X i (n+j)) (cK (X i i)))=V;simp only [↓pre,simprocAttr];rw [bS];refine bU (fun q e m=>∃ i,q+i=n∧e 4=aB (n:Nat)∧e 5 = .sl b 0 n n false∧e 7 = .sl c 0 n n false∧e 8=aB (i:Nat)∧aA (dC m b n (2*n) n true β2 X∧dC m c n n n true γ (fun l d=>if l < i then V l d else 0))) n ⟨0,by omega,u,A,rfl,rfl,⟨b0.out,hO.out.congr fun i hi j hj=>by rw [if_neg (by omega)]⟩⟩ ?_;clear u A;rintro q e m ⟨i,D,u,A,R,K,T⟩;replace D:=aA.mk D;by_cases o:i < n
  ·have s:((i:Nat):Int) < ((n:Nat):Int):=by omega
   have w1:=cB (n:=i) (by omega);simp only [↓pre,zad,rG,simprocAttr,bne,u,K,s];rw [bS];refine apl (fun e m=>e 4=aB (n:Nat)∧e 5 = .sl b 0 n n false∧e 7 = .sl c 0 n n false∧e 8=aB (i:Nat)∧aA (dC m b n (2*n) n true β2 X∧dC m c n n n true γ (fun l d=>if l < i+1 then V l d else 0))) (fun e m hR => ?_) ?_
   ·clear u A R K;obtain ⟨u,A,R,K,hE⟩:=hR;simp only [↓pre,zad,rG,simprocAttr,bne,u,A,R,K,w1];exact ⟨q - 1,by have:=D.out;omega,i+1,by have:=D.out;omega,rfl,hE⟩
   ·refine bU (fun q' e m=>∃ j,q'+j=n∧e 4=aB (n:Nat)∧e 5 = .sl b 0 n n false∧e 7 = .sl c 0 n n false∧e 8=aB (i:Nat)∧e 9=aB (j:Nat)∧aA (dC m b n (2*n) n true β2 X∧dC m c n n n true γ (fun l d=>if l < i then V l d else if l=i∧d < j then V l d else 0))) n ⟨0,by omega,u,A,R,K,rfl,⟨T.out.1,T.out.2.congr fun l z d Z=>by rw [if_neg (show ¬ (l=i∧d < 0) by omega)]⟩⟩ ?_;clear u A R K;rintro q' e m' ⟨j,P,u,A,R,K,e9,a7⟩;replace P:=aA.mk P;by_cases b7:j < n
    ·have G:((j:Nat):Int) < ((n:Nat):Int):=by omega
     have w3:=cB (n:=j) (by omega);have wp:azy.wrap (((n:Nat):Int)+((j:Nat):Int))=((n+j:Nat):Int):=by rw [gB (by omega) (by omega)];omega
     obtain ⟨I,O⟩:=a7.out;obtain ⟨cx,c6,_,a5⟩:=I.row;obtain ⟨co,d0,_,b1⟩:=O.row;have d1:=a5 i o;have c8:=b1 i o;obtain ⟨_,d8⟩:=I.own i o;obtain ⟨_,b8⟩:=O.own i o;have B:(fun d=>if i < i then V i d else if i=i∧d < j then V i d else 0)=fun d=>if d < j then V i d else 0:=by
      funext d;rw [if_neg (aBL _)];by_cases y:d < j
      ·rw [if_pos ⟨rfl,y⟩,if_pos y]
      ·rw [if_neg (fun h=>y h.2),if_neg y]
     rw [B] at b8;have c2:n+j < 2*n:=by omega
     have b4:i < 2*n:=by omega
     have b9:=jE (w:=2*n) (X i) c2;have b6:=jE (w:=2*n) (X i) b4;have U:=apX (X i (n+j)) (X i i);rw [if_neg (W.out i o),if_neg (W.out i o),show aM (X i (n+j)) (cK (X i i))=V i j by rw [←hV]] at U;have H:=adU (fun d=>V i d) (fun _=>0) b7;have a6:j+1≤(aR n fun d=>if d < j then V i d else 0).length:=by rw [fW];omega
     have t:dC (m'.put (γ i) (some ⟨aR n (fun d=>if d < j+1 then V i d else 0),5,.flat,true⟩)) b n (2*n) n true β2 X∧dC (m'.put (γ i) (some ⟨aR n (fun d=>if d < j+1 then V i d else 0),5,.flat,true⟩)) c n n n true γ (fun l d=>if l < i then V l d else if l=i∧d < j+1 then V l d else 0):=by
      refine ⟨I.put_other (by have:=hγ.out i o;omega) fun l z=>by have:=hγ.out i o;have:=a8.out l z;omega,(O.put_row o _).congr fun l z d Z => ?_⟩;by_cases E:l=i
      ·subst E;rw [if_pos rfl,if_neg (aBL _)];by_cases y:d < j+1
       ·rw [if_pos y,if_pos ⟨rfl,y⟩]
       ·rw [if_neg y,if_neg (fun h=>y h.2)]
      ·rw [if_neg E,if_neg (show ¬ (l=i∧d < j) by omega),if_neg (show ¬ (l=i∧d < j+1) by omega)]
     simp only [bA] at b9 b6 U;replace a5:=aA.mk a5;replace b1:=aA.mk b1;replace B:=aA.mk B;replace I:=aA.mk I;replace O:=aA.mk O;replace t:=aA.mk t;simp only [↓pre,zaj,ado,rG,simprocAttr,bne,u,A,R,K,e9,G,o,c6,d0,d1,c8,d8,wp,c2,b4,b9,b6]
     (first | refine aI (U) (by first | rfl | simp only [aC,aE, *]) ?_ | refine aH (U) (by first | rfl | simp only [aC,aE, *]) (by intro k;first | rfl | simp only [ *,zaa]) ?_);simp only [↓pre,zaj,ado,rG,simprocAttr,bne,aS,b7,b8,a6,H]
     refine cX (by kernel_rfl) ?_;simp only [↓pre,zad,rG,simprocAttr,bne,u,A,R,K,e9,w3];exact ⟨q' - 1,by have:=P.out;omega,j+1,by have:=P.out;omega,rfl,t⟩
    ·have G:¬ ((j:Nat):Int) < ((n:Nat):Int):=by omega
     have hj:j=n:=by have:=P.out;omega
     have p:dC m' c n n n true γ (fun l d=>if l < i+1 then V l d else 0):=a7.out.2.congr fun l z d Z=>by
      by_cases y:l < i
      ·rw [if_pos y,if_pos (by omega)]
      ·rw [if_neg y];by_cases E:l=i
       ·rw [if_pos ⟨E,by omega⟩,if_pos (by omega)]
       ·rw [if_neg (by omega),if_neg (by omega)]
     have hx:=a7.out.1;replace p:=aA.mk p;replace hx:=aA.mk hx;simp only [↓pre,zad,rG,simprocAttr,bne,u,A,R,K,e9,G];exact ⟨⟨hx.out,p.out⟩⟩
  ·have s:¬ ((i:Nat):Int) < ((n:Nat):Int):=by omega
   have hi:i=n:=by have:=D.out;omega
   have p:dC m c n n n true γ (mP n M):=T.out.2.congr fun l z d Z=>by
    rw [if_pos (by omega),←hV];exact L.out l d z Z
   replace p:=aA.mk p;simp only [↓pre,zad,rG,simprocAttr,bne,u,R,K,s];exact ⟨1,by rw [kH,eC,p.out.fzT,aAk,eC,gU,jI];rfl⟩
 ·refine bU (fun q e m=>∃ i,q+i=n∧e 0=v∧e 4=aB (n:Nat)∧e 5 = .sl b 0 n n false∧e 6=aB (i:Nat)∧aA (dC m b n (2*n) n true β0 (fun l q=>if l < i then mD n M l q else 0))) n ⟨0,by omega,rfl,rfl,rfl,rfl,⟨hT.congr fun i hi j hj=>by rw [if_neg (by omega)]⟩⟩ ?_;rintro q e m ⟨i,D,e0,u,A,e6,T⟩;replace D:=aA.mk D;by_cases o:i < n
  ·have s:((i:Nat):Int) < ((n:Nat):Int):=by omega
   have w1:=cB (n:=i) (by omega);have wp:azy.wrap (((n:Nat):Int)+((i:Nat):Int))=((n+i:Nat):Int):=by rw [gB (by omega) (by omega)];omega
   obtain ⟨a,x,d2,d3⟩:=Y.at_ i o;obtain ⟨c3,a1,d9,a2⟩:=T.out.row;have c1:=a2 i o;obtain ⟨_,b5⟩:=T.out.own i o;have B:(fun q=>if i < i then mD n M i q else 0)=fun _=>(0:UInt8):=by funext q;rw [if_neg (aBL _)]
   rw [B] at b5;have c9:=C.out m (β0 i) (M i) a x b5 d3;replace a2:=aA.mk a2;replace B:=aA.mk B;have c5:=T.out.ne o;have b2:¬ b=β0 i:=fun h=>c5 h.symm
   have a6:n+i+1≤(aR (2*n) fun j=>if j < n then M i j else 0).length:=by rw [fW];omega
   have c0:n+i < 2*n:=by omega
   simp only [↓pre,zaj,ado,rG,adN,simprocAttr,bne,e0,u,A,e6,s,o,a1,c1,Y.rd.addr',d2,c9];refine cX (by kernel_rfl) ?_;have H:List.take (n+i) (aR (2*n) fun j=>if j < n then M i j else 0)++[AV.val (.int .u8 1)]++List.drop (n+i+1) (aR (2*n) fun j=>if j < n then M i j else 0)=aR (2*n) (mD n M i):=by
    have h:=aao (w:=2*n) (f:=fun j=>if j < n then M i j else 0) (g:=mD n M i) c0 fun j hj=>by
     unfold mD;by_cases y:j < n
     ·rw [if_pos y,if_neg (by omega),if_pos y]
     ·rw [if_neg y,if_neg y];by_cases E:j=n+i
      ·rw [if_pos E,if_pos E,if_neg (by omega),if_pos rfl]
      ·rw [if_neg E,if_neg E]
    have hb:mD n M i (n+i)=1:=by unfold mD;rw [if_neg (by omega),if_pos rfl]
    rw [hb] at h;exact h
   have t:dC (m.put (β0 i) (some ⟨aR (2*n) (mD n M i),5,.flat,true⟩)) b n (2*n) n true β0 (fun l q=>if l < i+1 then mD n M l q else 0):=(T.out.put_row o _).congr fun l z q D=>by
    by_cases E:l=i
    ·subst E;rw [if_pos rfl,if_pos (by omega)]
    ·rw [if_neg E];by_cases y:l < i
     ·rw [if_pos y,if_pos (by omega)]
     ·rw [if_neg y,if_neg (by omega)]
   replace t:=aA.mk t;simp only [↓pre,zaj,ado,rG,aas,simprocAttr,bne,aS,e0,u,A,e6,o,a1,c1,b2,wp,c0,a6,H,w1];exact ⟨q - 1,by have:=D.out;omega,i+1,by have:=D.out;omega,rfl,t⟩
  ·have s:¬ ((i:Nat):Int) < ((n:Nat):Int):=by omega
   have hi:i=n:=by have:=D.out;omega
   have p:dC m b n (2*n) n true β0 (mD n M):=T.out.congr fun l z q D=>by rw [if_pos (by omega)]
   replace p:=aA.mk p;simp only [↓pre,zad,rG,simprocAttr,bne,u,A,e6,s];exact ⟨_,p⟩
def zD:Nat→Bool:=fun d=>d != 40
theorem axC (k r:Nat) (hk:1≤k) (a1:k≤12) (X:1≤r) (a0:r≤4):aQ ayU 333 [aB (k:Nat),aB (r:Nat)] ⟨.tup [.tree r r (nC true r k (iD k)) false,aB 0],[]⟩:=by
 refine gA ?_;have C:=fun m=>ai2 m r k (by omega) (by omega)
 replace C:=aA.mk C;have V:¬ ((k:Nat):Int) < 1:=by omega
 have k2:¬ (12:Int) < ((k:Nat):Int):=by omega
 have k3:¬ ((r:Nat):Int) < 1:=by omega
 have Z:¬ (4:Int) < ((r:Nat):Int):=by omega
 have hx:=acp;refine bV Tryz.func333 zD (h:=?_);unfold Tryz.f333;simp only [↓pre,zad,zD,simprocAttr,bne,V,k2,k3,Z];refine jD (C.out _) ?_;rintro a2 m1 ⟨β,L⟩;obtain ⟨b,rfl,hT,_,_⟩:=L.mat X;replace L:=aA.mk L;simp only [↓pre,simprocAttr];rw [bS];refine bU (fun q e m=>∃ i,q+i=r∧e 0=aB (k:Nat)∧e 1=aB (r:Nat)∧e 6 = .sl b 0 r r false∧e 7=aB (i:Nat)∧aA (dC m b r k r true β (fun c a=>if c < i then iD k c a else 0))) r ⟨0,by omega,rfl,rfl,rfl,rfl,⟨hT.congr fun i hi j W=>by rw [if_neg (by omega)]⟩⟩ ?_;rintro q e m ⟨i,H,x,u,t,l,U⟩;replace H:=aA.mk H;by_cases w:i < r
 ·have p:((i:Nat):Int) < ((r:Nat):Int):=by omega
  have w1:=cB (n:=i) (by omega);have T:azy.wrap (((k:Nat):Int)+((i:Nat):Int))=((k+i:Nat):Int):=by rw [←aBX];exact dO (by omega)
  have u1:=aaq (n:=k+i) (by omega);simp only [↓pre,zad,zD,simprocAttr,bne,u,l,p];rw [bS];refine apl (fun e m=>e 0=aB (k:Nat)∧e 1=aB (r:Nat)∧e 6 = .sl b 0 r r false∧e 7=aB (i:Nat)∧aA (dC m b r k r true β (fun c a=>if c < i+1 then iD k c a else 0))) (fun e m hR => ?_) ?_
  ·clear x u t l;obtain ⟨x,u,t,l,Y⟩:=hR;simp only [↓pre,zad,zD,simprocAttr,bne,x,u,t,l,w1];exact ⟨q - 1,by have:=H.out;omega,i+1,by have:=H.out;omega,rfl,Y⟩
  ·refine bU (fun R e m=>∃ j,R+j=k∧e 0=aB (k:Nat)∧e 1=aB (r:Nat)∧e 6 = .sl b 0 r r false∧e 7=aB (i:Nat)∧e 8=aB (j:Nat)∧aA (dC m b r k r true β (fun c a=>if c < i then iD k c a else if c=i∧a < j then iD k c a else 0))) k ⟨0,by omega,x,u,t,l,rfl,⟨U.out.congr fun c B a E=>by rw [if_neg (show ¬ (c=i∧a < 0) by omega)]⟩⟩ ?_;clear x u t l;rintro R e m' ⟨j,s,x,u,t,l,P,v⟩;replace s:=aA.mk s;by_cases F:j < k
   ·have o:((j:Nat):Int) < ((k:Nat):Int):=by omega
    have w3:=cB (n:=j) (by omega);have u2:=aaq (n:=j) (by omega);obtain ⟨co,O,_,D⟩:=v.out.row;have M:=D i w;obtain ⟨_,I⟩:=v.out.own i w;have A:(fun a=>if i < i then iD k i a else if i=i∧a < j then iD k i a else 0)=fun a=>if a < j then iD k i a else 0:=by
     funext a;rw [if_neg (aBL _)];by_cases f:a < j
     ·rw [if_pos ⟨rfl,f⟩,if_pos f]
     ·rw [if_neg (fun h=>f h.2),if_neg f]
    rw [A] at I;have y:azQ (k+i) ^^^ azQ j≠0:=xH fun e=>by
     have:=congrArg UInt8.toNat e;rw [mZ (by omega),mZ (by omega)] at this;omega
    have J:=apW (azQ (k+i) ^^^ azQ j);have Q:iD k i j=cK (azQ (k+i) ^^^ azQ j):=by unfold iD fO;rw [if_neg (by omega)]
    rw [if_neg y,if_neg y,←Q] at J;have S:=hx (azQ (k+i)) (azQ j);generalize azQ (k+i) ^^^ azQ j=z at *
    have G:=adU (fun a=>iD k i a) (fun _=>0) F;have N:j+1≤(aR k fun a=>if a < j then iD k i a else 0).length:=by rw [fW];omega
    have g:dC (m'.put (β i) (some ⟨aR k (fun a=>if a < j+1 then iD k i a else 0),5,.flat,true⟩)) b r k r true β (fun c a=>if c < i then iD k c a else if c=i∧a < j+1 then iD k c a else 0):=(v.out.put_row w _).congr fun c B a E=>by
     by_cases K:c=i
     ·subst K;rw [if_pos rfl,if_neg (aBL _)];by_cases f:a < j+1
      ·rw [if_pos f,if_pos ⟨rfl,f⟩]
      ·rw [if_neg f,if_neg (fun h=>f h.2)]
     ·rw [if_neg K,if_neg (show ¬ (c=i∧a < j) by omega),if_neg (show ¬ (c=i∧a < j+1) by omega)]
    simp only [bA] at J;replace D:=aA.mk D;replace A:=aA.mk A;replace Q:=aA.mk Q;replace y:=aA.mk y;replace g:=aA.mk g;simp only [↓pre,zaj,amQ,zD,cO,uB,simprocAttr,bne,x,t,l,P,o,w,O,M,T,u1,u2,S]
    (first | refine aI (J) (by first | rfl | simp only [aC,aE, *]) ?_ | refine aH (J) (by first | rfl | simp only [aC,aE, *]) (by intro k;first | rfl | simp only [ *,zaa]) ?_);simp only [↓pre,zaj,amQ,zD,simprocAttr,bne,aS,F,I,N,G]
    refine cX (by kernel_rfl) ?_;simp only [↓pre,zad,zD,simprocAttr,bne,x,u,t,l,P,w3];exact ⟨R - 1,by have:=s.out;omega,j+1,by have:=s.out;omega,rfl,g⟩
   ·have o:¬ ((j:Nat):Int) < ((k:Nat):Int):=by omega
    have W:j=k:=by have:=s.out;omega
    have d:dC m' b r k r true β (fun c a=>if c < i+1 then iD k c a else 0):=v.out.congr fun c B a E=>by
     by_cases f:c < i
     ·rw [if_pos f,if_pos (by omega)]
     ·rw [if_neg f];by_cases K:c=i
      ·rw [if_pos ⟨K,by omega⟩,if_pos (by omega)]
      ·rw [if_neg (by omega),if_neg (by omega)]
    replace d:=aA.mk d;simp only [↓pre,zad,zD,simprocAttr,bne,x,u,t,l,P,o];exact d
 ·have p:¬ ((i:Nat):Int) < ((r:Nat):Int):=by omega
  have hi:i=r:=by have:=H.out;omega
  have d:dC m b r k r true β (iD k):=U.out.congr fun c B a E=>by rw [if_pos (by omega)]
  replace d:=aA.mk d;simp only [↓pre,zad,zD,simprocAttr,bne,u,t,l,p];exact ⟨1,by rw [kH,eC,d.out.fzT,aAk,eC,gU,jI];rfl⟩
theorem ai3 (k r:Nat) (g:1≤k) (a:k≤12) (f:r≤4):aQ ayU 305 [aB (k:Nat),aB (r:Nat)] ⟨aZ true,[]⟩:=by
 have b:(1:Int)≤((k:Nat):Int):=by omega
 have d:((k:Nat):Int)≤12:=by omega
 have e:(0:Int)≤((r:Nat):Int):=by omega
 have c:((r:Nat):Int)≤4:=by omega
 refine aV Tryz.func305 aD (h:=?_);unfold Tryz.f305;simp only [↓pre,zac,simprocAttr,b,d,e,c]
theorem ap2 (k r a:Nat) (C:1≤k) (q:k≤12) (p:r≤4) (H:a < k+r):aQ ayU 309 [aB (k:Nat),aB (r:Nat),aB (a:Nat)] ⟨.tup [.tree k k (aR k (fO k a)) true,aB 0],[]⟩:=by
 refine gA ?_;have c:=ai3 k r C q p;have z:¬ ((a:Nat):Int) < 0:=by omega
 have B:¬ ((k+r:Nat):Int)≤((a:Nat):Int):=by omega
 have o:azy.wrap (((k:Nat):Int)+((r:Nat):Int))=((k+r:Nat):Int):=by rw [←aBX];exact dO (by omega)
 have s:=fun m=>vZ m (n:=k) (by omega)
 by_cases h:a < k
 ·have t:¬ ((k:Nat):Int)≤((a:Nat):Int):=by omega
  have b:=aao (w:=k) (f:=fun _=>0) (g:=fO k a) h fun j G=>by
   unfold fO;rw [if_pos h,if_pos h,if_pos rfl];by_cases e:j=a
   ·rw [if_pos e.symm,if_pos e]
   ·rw [if_neg (fun h=>e h.symm),if_neg e]
  have D:fO k a a=1:=by unfold fO;rw [if_pos h,if_pos rfl]
  rw [D] at b;have b:List.take a (aR k fun _=>0)++[AV.val (.int .u8 1)]++List.drop (a+1) (aR k fun _=>0)=aR k (fO k a):=b;have x:a+1≤(aR k fun _=>0).length:=by rw [fW];omega
  refine bV Tryz.func309 aD (h:=?_);unfold Tryz.f309;simp only [↓pre,zab,simprocAttr]
  (first | refine aI (c) (by first | rfl | simp only [aC,aE, *]) ?_ | refine aH (c) (by first | rfl | simp only [aC,aE, *]) (by intro k;first | rfl | simp only [ *,zaa]) ?_);simp only [↓pre,zae,amN,bH,simprocAttr,aS,z,B,o,t,s,h,x,b]
  exact ⟨0,by rw [kH,eC,wW (by rw [cI,if_pos rfl]),aAk,eC,gU,jI];rfl⟩
 ·have t:((k:Nat):Int)≤((a:Nat):Int):=by omega
  have l:=axC k r C q (by omega) p;have u:azy.wrap (((a:Nat):Int) - ((k:Nat):Int))=((a - k:Nat):Int):=by rw [gB (by omega) (by omega)];omega
  have d:=aa7 true (n:=r) (w:=k) (i:=a - k) (iD k) (by omega);have y:iD k (a - k)=fO k a:=by unfold iD;rw [show k+(a - k)=a by omega]
  rw [y] at d;have A:aT (.tree r r (nC true r k (iD k)) false) r (nC true r k (iD k)):=kP _ _ _;generalize AV.tree r r (nC true r k (iD k)) false=F at *
  have E:=dB A;have v:a - k < r:=by omega
  replace y:=aA.mk y;refine bV Tryz.func309 aD (h:=?_);unfold Tryz.f309;simp only [↓pre,zab,simprocAttr]
  (first | refine aI (c) (by first | rfl | simp only [aC,aE, *]) ?_ | refine aH (c) (by first | rfl | simp only [aC,aE, *]) (by intro k;first | rfl | simp only [ *,zaa]) ?_);simp only [↓pre,zac,simprocAttr,z,B,o,t];(first | refine aI (l) (by first | rfl | simp only [aC,aE, *]) ?_ | refine aH (l) (by first | rfl | simp only [aC,aE, *]) (by intro k;first | rfl | simp only [ *,zaa]) ?_);simp only [↓pre,zae,amN,simprocAttr,E,u,A.addr',v,d]
  exact ⟨0,by rw [kH,eC,abU,aAk,eC,gU,jI];rfl⟩
theorem ap3 (v:AV) (C:List (List UInt8)) (cells:List AV) (L:Nat) (A:aap v C cells) (K:aa9 C L) (T:L≤65536) (R:C.length≤1000) (F:Bool) (w:F=true→∀ b∈C,b.length≠0):aQ ayU 306 [v,aB (C.length:Nat),aZ F] ⟨.tup [aB ((bP C C.length).length:Nat),aZ true],[]⟩:=by
 have S:=A.rd.plain;replace K:=aA.mk K;replace w:=aA.mk w;refine aV Tryz.func306 aD (h:=?_);unfold Tryz.f306;simp only [↓pre,zae,ae8,simprocAttr,A.rd.len'];rw [bS];refine bU (fun q e m=>∃ i B,q+i=C.length∧e 0=v∧e 1=aB (C.length:Nat)∧e 2=aZ F∧e 8=aB ((bP C i).length:Nat)∧e 9=aB (B:Nat)∧e 10=aB (i:Nat)∧aA (0 < (bP C i).length→B=L)) C.length ⟨0,0,by omega,rfl,rfl,rfl,rfl,rfl,rfl,⟨fun h=>absurd h (by simp [bP])⟩⟩ ?_;rintro q e m ⟨i,B,t,M,H,J,G,O,r,P⟩;replace t:=aA.mk t;by_cases p:i < C.length
 ·have d:((i:Nat):Int) < ((C.length:Nat):Int):=by omega
  have w1:=cB (n:=i) (by omega);obtain ⟨b,u⟩:∃ b,C[i]? = some b:=⟨_,azm p⟩
  obtain ⟨a,x,y,s⟩:=A.at_ i b u;have c:=yT C i;rw [tC u] at c;have Q:=afB C i;by_cases I:b.length=0
  ·rw [if_neg (by omega),aBl] at c;have j:((b.length:Nat):Int)=0:=by omega
   have D:F=false:=by
    cases F with
    | false=>rfl
    | true=>exact absurd I (w.out rfl b (az8 u))
   subst D;replace u:=aA.mk u;replace c:=aA.mk c;simp only [↓pre,zae,ae8,simprocAttr,M,H,J,G,O,r,d,p,A.rd.addr',y,s.len',j,w1];exact ⟨q - 1,by have:=t.out;omega,i+1,B,by have:=t.out;omega,by rw [c.out],rfl,rfl,⟨by rw [c.out];exact P.out⟩⟩
  ·have l:b.length=L:=by
    rcases K.out b (az8 u) with h | h
    ·exact absurd h I
    ·exact h
   rw [if_pos I] at c;have g:(bP C (i+1)).length=(bP C i).length+1:=by rw [c,aA2];rfl
   have j:¬ ((b.length:Nat):Int)=0:=by omega
   have k:¬ (65536:Int) < ((b.length:Nat):Int):=by omega
   have N:=cB (n:=(bP C i).length) (by omega);replace u:=aA.mk u;replace c:=aA.mk c;replace g:=aA.mk g;replace l:=aA.mk l;by_cases E:0 < (bP C i).length
   ·have o:=P.out E;have f:(0:Int) < (((bP C i).length:Nat):Int):=by omega
    have z:b.length=B:=l.out.trans o.symm;replace o:=aA.mk o;rw [z] at j k s;replace z:=aA.mk z;simp only [↓pre,zae,ae8,simprocAttr,M,H,J,G,O,r,d,p,A.rd.addr',y,s.len',j,k,f,w1,N];exact ⟨q - 1,by have:=t.out;omega,i+1,B,by have:=t.out;omega,by rw [g.out],rfl,rfl,⟨fun _=>o.out⟩⟩
   ·have f:¬ (0:Int) < (((bP C i).length:Nat):Int):=by omega
    simp only [↓pre,zae,ae8,simprocAttr,M,H,J,G,r,d,p,A.rd.addr',y,s.len',j,k,f,w1,N];exact ⟨q - 1,by have:=t.out;omega,i+1,b.length,by have:=t.out;omega,by rw [g.out],rfl,rfl,⟨fun _=>l.out⟩⟩
 ·have d:¬ ((i:Nat):Int) < ((C.length:Nat):Int):=by omega
  have hi:i=C.length:=by have:=t.out;omega
  subst hi;simp only [↓pre,zac,simprocAttr,H,G,r,d]
theorem ap4 (m0:aF) (G:AV) (k r a n L:Nat) (D:Mx) (N:List AV) (V:lW m0 G k N) (A:rL m0 G) (I:xJ k L D N) (T:1≤k) (O:k≤12) (Y:r≤4) (ha:a+n≤k+r) (hL:L≤65536):dV ayU 307 [aB (k:Nat),aB (r:Nat),aB (a:Nat),aB (a+n:Nat),G] m0 fun C m'=>bY .var m' 52 1 C n (dJ L (gQ k D) a n)∧gX m0 m'∧kB m0 C:=by
 have g:=fun B h=>ap2 k r B T O Y h
 replace g:=aA.mk g;refine bV Tryz.func307 aD (h:=?_);unfold Tryz.f307;simp only [↓pre,simprocAttr,sx];rw [bS];refine bU (fun q e m=>∃ i H,q+i=n∧e 0=aB (k:Nat)∧e 1=aB (r:Nat)∧e 3=aB (a+n:Nat)∧e 4=G∧e 11=H∧e 12=aB (a+i:Nat)∧aA (bY .var m 52 1 H i (dJ L (gQ k D) a i)∧gX m0 m∧kB m0 H)) n ⟨0,aW,by omega,rfl,rfl,rfl,rfl,rfl,rfl,⟨gK,gX.refl _,wX _⟩⟩ ?_;rintro q e m ⟨i,H,E,R,U,K,S,z,v,F⟩;replace E:=aA.mk E;by_cases Z:i < n
 ·have p:((a+i:Nat):Int) < ((a+n:Nat):Int):=by omega
  have w1:=cB (n:=a+i) (by omega);obtain ⟨P,c,o⟩:=F.out;have t:=g.out (a+i) (by omega);obtain ⟨X,s,u⟩:=(V.keep c.w A).lend2 (a := .tree k k (aR k (fO k (a+i))) true) rfl;have l:=axq (.tree k k (aR k (fO k (a+i))) true) X k L (fO k (a+i)) D [] N (by rw [aBl];exact kP _ _ _) ⟨u,I⟩ T (by omega) hL;rw [show pB k (fO k (a+i)) D=gQ k D (a+i) from rfl] at l;have d:gX m0 ((m.push ⟨aR L (gQ k D (a+i)),5,.flat,true⟩).put m.next (some ⟨aR L (gQ k D (a+i)),5,.flat,false⟩)):=⟨c.mm,by rw [fC,cQ];have:=c.next;omega,fun j x W hl=>by have:=c.next;rw [cI,if_neg (by omega),cF,if_neg (by omega)];exact c.at_ j x W hl⟩
  have M:=aip (m:=m.push ⟨aR L (gQ k D (a+i)),5,.flat,true⟩) (b:=m.next) (n:=L) (f:=true) (by rw [cF,if_pos rfl]);have Q:=kP k (aR k (fO k (a+i))) true;generalize AV.tree k k (aR k (fO k (a+i))) true=a0 at *
  have s1:=dB Q;have p1:=Q.plain;simp only [aB] at t l;replace F:=aA.mk F;replace c:=aA.mk c;replace P:=aA.mk P;replace o:=aA.mk o;replace u:=aA.mk u;replace d:=aA.mk d;simp only [↓pre,zac,simprocAttr,R,U,K,v,p]
  (first | refine aI (t) (by first | rfl | simp only [aC,aE, *]) ?_ | refine aH (t) (by first | rfl | simp only [aC,aE, *]) (by intro k;first | rfl | simp only [ *,zaa]) ?_);simp only [↓pre,zab,simprocAttr,S,s1]
  refine wU l s (by simp [fA.apart,hY,iA,afD]) ?_;simp only [↓pre,zab,as9,cO,simprocAttr,z,M];refine adc (kd := .var) (sz:=1) (y:=24) (zl:=[.slice none 0 0]) (by kernel_rfl) (P.out.pp _ _) (by kernel_rfl) (by kernel_rfl) (by kernel_rfl) rfl lV rfl (by omega) (by omega) d.out o.out ?_;intro a1 m' J c o;simp only [↓pre,zab,simprocAttr,R,U,K,S,v,w1];refine ⟨q - 1,by have:=E.out;omega,i+1,_,by have:=E.out;omega,rfl,rfl,⟨?_,c,o⟩⟩;rw [afC];exact J
 ·have p:¬ ((a+i:Nat):Int) < ((a+n:Nat):Int):=by omega
  have hi:i=n:=by have:=E.out;omega
  subst hi;simp only [↓pre,zac,simprocAttr,K,z,v,p];exact F.out
theorem axD (d:AV) (k r a n L:Nat) (D:Mx) (e:List AV) (c:qD d k L D e) (l:1≤k) (b:k≤12) (g:r≤4) (f:a+n≤k+r) (m:1≤n) (j:L≤65536):aQ ayU 307 [aB (k:Nat),aB (r:Nat),aB (a:Nat),aB (a+n:Nat),d] ⟨.tree n n (dJ L (gQ k D) a n) false,[]⟩:=by
 refine gA (mW (ap4 aF.empty d k r a n L D e (asC c.rd) (rL.rd c.rd) c.at_ l b g f j) ?_);rintro i m' ⟨h,_⟩;have:=adG h (aio _ _ _ _) 0;unfold bE at this;rw [if_neg (by omega)] at this;exact ⟨1,this⟩
theorem axE (m0:aF) (n:AV) (k r L:Nat) (D:Mx) (s:List AV) (w:lW m0 n k s) (m:rL m0 n) (l:xJ k L D s) (z:1≤k) (q:k≤12) (y:r≤4) (B:1≤L) (o:L≤65536):dV ayU 258 [aB (k:Nat),aB (r:Nat),n] m0 fun j m'=>∃ t,j = .tup [t,aB 0]∧bY .var m' 52 1 t r (dJ L (gQ k D) k r)∧gX m0 m'∧kB m0 t:=by
 have e:=ai3 k r z q y;have w1:azy.wrap (((k:Nat):Int)+((r:Nat):Int))=((k+r:Nat):Int):=by rw [←aBX];exact dO (by omega)
 obtain ⟨x,d,g⟩:=w.lend 2;have a:=ap3 x (tabs L k D) s L (qD.rows ⟨g,l⟩) (aot L k D) o (by rw [afE];omega) true (fun _ b A=>by
  obtain ⟨i,_,rfl⟩:=azp.1 A;rw [pA];omega)
 rw [afE,aou D B,aBN] at a;have u:dN 3 m0 [n,.val (.int .i64 k),.val (.bool true)]=some [x,.val (.int .i64 k),.val (.bool true)]:=by simp [dN,d,lend]
 have p:=ap4 m0 n k r k r L D s w m l z q y (aza _) o;simp only [aB,aZ] at e a p;replace g:=aA.mk g;refine bV Tryz.func258 aD (h:=?_);unfold Tryz.f258;simp only [↓pre,zab,simprocAttr]
 (first | refine aI (e) (by first | rfl | simp only [aC,aE, *]) ?_ | refine aH (e) (by first | rfl | simp only [aC,aE, *]) (by intro k;first | rfl | simp only [ *,zaa]) ?_);simp only [↓pre,zac,simprocAttr]
 refine abO a u rfl rfl ?_;simp only [↓pre,zac,simprocAttr,w1];refine jD p ?_;rintro j C ⟨v,c,f⟩;replace v:=aA.mk v;replace c:=aA.mk c;replace f:=aA.mk f;simp only [↓pre,simprocAttr];exact ⟨j,rfl,v.out,c.out,f.out⟩
theorem ap5 (C:List (List UInt8)) (i:Nat):∀ m,(bP C (i+m)).take (bP C i).length=bP C i
 | 0=>List.take_length
 | m+1=>by
  have a:=ap5 C i m;have b:(bP C i).length≤(bP C (i+m)).length:=by
   have:=congrArg List.length a;rw [List.length_take] at this;omega
  rw [←Nat.add_assoc,yT,aB5 b,a]
set_option maxHeartbeats 1000000 in
theorem axF (v:AV) (k r L:Nat) (C:List (List UInt8)) (cells:List AV) (hv:aap v C cells) (h7:C.length=k+r) (hC:aa9 C L) (hk:1≤k) (b6:k≤12) (hr:r≤4) (hL:1≤L) (b9:L≤65536) (j2:k≤(bP C (k+r)).length):aQ ayU 261 [aB (k:Nat),aB (r:Nat),v] ⟨.tup [.tree (k+r) (k+r) (dJ L (aco k ((bP C (k+r)).take k) (gI C)) 0 (k+r)) false,aB 0],[]⟩:=by
 refine gA ?_;have hp:=hv.rd.plain;have g0:=ai3 k r hk b6 hr;have a2:=ap3 v C cells L hv hC b9 (by omega) false (fun h=>by cases h);rw [h7] at a2;have O:=fun f4 h=>ap2 k r f4 hk b6 hr h
 have f7:((bP C (k+r)).take k).length=k:=by rw [List.length_take];omega
 have H:∀ a∈(bP C (k+r)).take k,a < k+r∧(C.getD a []).length=L:=fun a ha=>by
  obtain ⟨h1,h2⟩:=ain (List.mem_of_mem_take ha);refine ⟨h1, ?_⟩;obtain ⟨b,u⟩:∃ b,C[a]? = some b:=⟨_,azm (by omega)⟩
  rw [tC u] at h2 ⊢;rcases hC b (az8 u) with h | h
  ·exact absurd h h2
  ·exact h
 have i3:((bP C (k+r)).take k).Nodup:=(aon C (k+r)).sublist (List.take_sublist _ _);have T:∀ i,i≤k+r→(bP C i).length≤k→bP C i=(((bP C (k+r)).take k).take (bP C i).length):=fun i hi Z=>by
  have:=ap5 C i (k+r - i);rw [show i+(k+r - i)=k+r by omega] at this;rw [List.take_take,aCe Z,this]
 have k1:¬ (((bP C (k+r)).length:Nat):Int) < ((k:Nat):Int):=by omega
 have w1:azy.wrap (((k:Nat):Int)+((r:Nat):Int))=((k+r:Nat):Int):=by rw [←aBX];exact dO (by omega)
 generalize a8:(bP C (k+r)).take k=at_ at *
 replace hC:=aA.mk hC;replace H:=aA.mk H;replace a8:=aA.mk a8;replace O:=aA.mk O;replace T:=aA.mk T;have j0:aF.empty.next=0:=rfl;refine bV Tryz.func261 aD (h:=?_);unfold Tryz.f261;simp only [↓pre,zab,simprocAttr]
 (first | refine aI (g0) (by first | rfl | simp only [aC,aE, *]) ?_ | refine aH (g0) (by first | rfl | simp only [aC,aE, *]) (by intro k;first | rfl | simp only [ *,zaa]) ?_);simp only [↓pre,zac,simprocAttr,w1];(first | refine aI (a2) (by first | rfl | simp only [aE, *]) ?_ | refine aH (a2) (by first | rfl | simp only [aC,aE, *]) (by intro k;first | rfl | simp only [ *,zaa]) ?_);simp only [↓pre,zac,simprocAttr,k1]
 rw [bS];refine zW (fun e m=>∃ G g,e 0=aB (k:Nat)∧e 1=aB (r:Nat)∧e 10=G∧e 11=g∧aA (bY .var m 52 1 G k (nY k at_)∧bY .var m 52 1 g k (kN cells at_)∧∀ b,cG G=some b→cG g≠some b)) (fun e m hR => ?_) ?_
 ·obtain ⟨G,g,N,U,D,p,hJ⟩:=hR;obtain ⟨B,z,S⟩:=hJ.out;have h8:cP (nY k at_)=true:=aau _ fun c hc=>by
   unfold nY at hc;obtain ⟨a,_,rfl⟩:=azp.1 hc;rfl
  have E:xJ k L (fun t=>gI C (at_.getD t 0)) (kN cells at_):=fun t ht=>by
   obtain ⟨a,ha⟩:∃ a,at_[t]? = some a:=⟨_,azm (by omega)⟩
   obtain ⟨a2,b0⟩:=H.out a (az8 ha);obtain ⟨b,u⟩:∃ b,C[a]? = some b:=⟨_,azm (by omega)⟩
   obtain ⟨ca,x,K,M⟩:=hv.at_ a b u;refine ⟨ca,x, ?_, ?_⟩
   ·unfold kN;rw [azo,ha,Option.map_some,azs,K];rfl
   ·simp only [azs,ha,aAE];unfold aR;have:=aow b0;rw [this,tC u];rw [tC u] at b0;rw [b0] at M;exact M
  have g4:cP (kN cells at_)=true:=aau _ fun c hc=>by
   obtain ⟨t,ht⟩:=List.getElem?_of_mem hc;have T:t < k:=by have:=(List.getElem?_eq_some_iff.1 ht).1;unfold kN at this;rw [List.length_map] at this;omega
   obtain ⟨a,x,h1,h2⟩:=E t T;rw [ht] at h1;cases h1;exact h2.plain
  obtain ⟨av,m2,g8,g6,j1,i6,f1⟩:=(yH B (.inr ⟨rfl,h8⟩)).fz;have a5:bY .var m2 52 1 g k (kN cells at_):=z.frz i6 f1 fun b u s n c f h=>by
   subst h;exact S b rfl u
  have a6:=axB av k (lP k at_) (nY k at_) ⟨g6,aox f7⟩ hk (by omega) (anW f7 i3 fun a ha=>by have:=(H.out a ha).1;omega);have e3:=(afx false true k k (mP k (lP k at_))).rd;generalize AV.tree k k (nC true k k (mP k (lP k at_))) false=IV at *
  have s1:=dB e3;have g5:=yH a5 (.inr ⟨rfl,g4⟩);have i9:=adb a5;have g2:fzs m [G]=some ([av],m2):=by simp [fzs,g8]
  simp only [aB] at a6;replace E:=aA.mk E;simp only [↓pre,zab,simprocAttr,D];refine abP a6 g2 ?_;simp only [↓pre,zab,simprocAttr,s1];rw [bS];refine bU (fun q e m=>∃ j ld,q+j=k∧e 0=aB (k:Nat)∧e 1=aB (r:Nat)∧e 11=g∧e 15=IV∧e 17=ld∧e 18=aB (j:Nat)∧aA (bY .var m 52 1 ld j (dJ L (lD k at_ (gI C)) 0 j)∧lW m g k (kN cells at_)∧rL m g∧∀ b,cG ld=some b→∀ s n c f,g ≠ .sl b s n c f)) k ⟨0,aW,by omega,N,U,p,rfl,rfl,rfl,⟨gK,g5,i9,fun b h=>by cases h⟩⟩ ?_;clear N U D p;rintro q e m ⟨j,ld,I,N,U,p,e4,f0,d2,i0⟩;replace I:=aA.mk I;obtain ⟨d9,hF,hO,b4⟩:=i0.out;by_cases V:j < k
  ·have d:((j:Nat):Int) < ((k:Nat):Int):=by omega
   have wj:=cB (n:=j) (by omega);have c3:=aa7 true (w:=k) (mP k (lP k at_)) V;obtain ⟨e9,m3,f2,g1,i5,c9,a0⟩:=hF.fz;have b2:fzs m [.tree k k (aR k (mP k (lP k at_) j)) true,g]=some ([.tree k k (aR k (mP k (lP k at_) j)) true,e9],m3):=by
    simp [fzs,bW (kP k (aR k (mP k (lP k at_) j)) true),f2]
   have P:=axp (.tree k k (aR k (mP k (lP k at_) j)) true) e9 k L (mP k (lP k at_) j) (fun t=>gI C (at_.getD t 0)) [] (kN cells at_) (by rw [aBl];exact kP _ _ _) ⟨g1,E.out⟩ hk (by omega) b9;rw [show pB k (mP k (lP k at_) j) (fun t=>gI C (at_.getD t 0))=lD k at_ (gI C) j from rfl] at P;have t2:=kP L (aR L (lD k at_ (gI C) j)) true;have s2:=dB t2;have d6:bY .var m3 52 1 ld j (dJ L (lD k at_ (gI C)) 0 j):=d9.frz c9 a0 b4;have i1:nS m m3:=⟨i5,Nat.le_of_eq c9.symm,fun j k hj _=>by obtain ⟨wr,h,_⟩:=a0 j k hj;exact ⟨wr,h⟩⟩
   have g7:=hF.keep i1 hO;have b7:rL m3 g:=fun b s n c f h=>by rw [c9];exact hO b s n c f h
   have X:=afC L (lD k at_ (gI C)) 0 j;rw [azq] at X;simp only [aB] at P;replace X:=aA.mk X;replace a0:=aA.mk a0;simp only [↓pre,zae,aca,simprocAttr,N,p,e4,d2,d,e3.addr',V,c3];refine abP P b2 ?_;simp only [↓pre,zab,aca,cO,aba,simprocAttr,f0,s2];refine vN (kd := .var) (sz:=1) (y:=24) (zl:=[.slice none 0 0]) (by kernel_rfl) d6 (by kernel_rfl) (by kernel_rfl) (by kernel_rfl) rfl lV rfl (by omega) (by omega) fun f9 m4 a1 b1 c1 d1 _ => ?_
   have i7:lW m4 g k (kN cells at_):=by
    rcases g7.form with h | ⟨b,s,c,f,kk,rfl,h2,h3,h4,h5⟩
    ·exact ⟨.inl h⟩
    ·exact ⟨.inr ⟨b,s,c,f,kk,rfl,c1 b kk h2 (b7 _ _ _ _ _ rfl) (fun u=>b4 b u _ _ _ _ rfl),h3,h4,h5⟩⟩
   have g3:rL m4 g:=fun b s n c f h=>azd (b7 b s n c f h) b1
   have d7:∀ b,cG f9=some b→∀ s n c f,g ≠ .sl b s n c f:=fun b u s n c f h=>by
    rcases d1 b u with h1 | h1
    ·have:=b7 _ _ _ _ _ h;omega
    ·exact b4 b h1 _ _ _ _ h
   rw [←X.out] at a1;replace a1:=aA.mk a1;clear c1 d1;simp only [↓pre,zab,simprocAttr,N,U,p,e4,d2,wj];exact ⟨q - 1,by have:=I.out;omega,j+1,f9,by have:=I.out;omega,rfl,rfl,⟨a1.out,i7,g3,d7⟩⟩
  ·have d:¬ ((j:Nat):Int) < ((k:Nat):Int):=by omega
   have hj:j=k:=by have:=I.out;omega
   subst hj;have h6:=aov L (lD j at_ (gI C)) 0 j;obtain ⟨e6,m4,f6,d5,_⟩:=(yH d9 (.inr ⟨rfl,h6⟩)).fz;have b5:=axD e6 j r 0 (j+r) L (lD j at_ (gI C)) (dJ L (lD j at_ (gI C)) 0 j) ⟨d5,fun i hi=>⟨_,[],by have:=aat (L:=L) (F:=lD j at_ (gI C)) (a:=0) hi;rw [azq] at this;exact this,by rw [aBl];exact kP _ _ _⟩⟩ hk b6 hr (by omega) (by omega) b9;rw [azq,show ((0:Nat):Int)=0 from rfl] at b5;have t3:=kP (j+r) (dJ L (gQ j (lD j at_ (gI C))) 0 (j+r)) false;have s3:=dB t3;have b2:fzs m [.val (.int .i64 (j:Nat)),.val (.int .i64 (r:Nat)),.val (.int .i64 0),.val (.int .i64 (j+r:Nat)),ld]=some ([.val (.int .i64 (j:Nat)),.val (.int .i64 (r:Nat)),.val (.int .i64 0),.val (.int .i64 (j+r:Nat)),e6],m4):=by
    simp [fzs,fz,f6]
   simp only [aB] at b5;simp only [↓pre,zac,simprocAttr,N,U,f0,d2,d,w1];refine abP b5 b2 ?_;simp only [↓pre,simprocAttr,sx,s3];exact ⟨0,by rw [kH,eC,abU,aAk,eC,gU,jI];rfl⟩
 ·refine bU (fun q e m=>∃ i G g,q+i=k+r∧e 0=aB (k:Nat)∧e 1=aB (r:Nat)∧e 2=v∧e 10=G∧e 11=g∧e 12=aB (i:Nat)∧aA ((bP C i).length≤k∧bY .var m 52 1 G (bP C i).length (nY k (bP C i))∧bY .var m 52 1 g (bP C i).length (kN cells (bP C i))∧nS aF.empty m∧kB aF.empty G∧kB aF.empty g∧∀ b,cG G=some b→cG g≠some b)) (k+r) ⟨0,aW,aW,by omega,rfl,rfl,rfl,rfl,rfl,rfl,⟨by simp [bP],gK,gK,nS.refl _,wX _,wX _,fun b h=>by cases h⟩⟩ ?_;rintro q e m ⟨i,G,g,I,N,U,e2,D,p,J,hJ⟩;replace I:=aA.mk I;obtain ⟨Z,B,z,h9,i8,g9,S⟩:=hJ.out;have b3:lenE ayU 45 g=some (.val (.int .i64 ((bP C i).length:Nat))):=by
   rcases z.form with ⟨rfl,h,_⟩ | ⟨b,rfl,_⟩
   ·rw [h];kernel_rfl
   ·exact aim
  by_cases V:i < k+r
  ·have d:((i:Nat):Int) < ((k+r:Nat):Int):=by omega
   have wi:=cB (n:=i) (by omega);by_cases i4:(bP C i).length < k
   ·have l:(((bP C i).length:Nat):Int) < ((k:Nat):Int):=by omega
    obtain ⟨b,u⟩:∃ b,C[i]? = some b:=⟨_,azm (by omega)⟩
    obtain ⟨ca,x,K,M⟩:=hv.at_ i b u;have c2:i < C.length:=by omega
    have o:=yT C i;rw [tC u] at o;by_cases h0:b.length=0
    ·rw [if_neg (by omega),aBl] at o;have b8:¬ (0:Int) < ((b.length:Nat):Int):=by omega
     replace u:=aA.mk u;replace o:=aA.mk o;simp only [↓pre,zae,aca,simprocAttr,N,U,e2,D,p,J,w1,d,b3,l,c2,hv.rd.addr',K,M.len',b8,wi];exact ⟨q - 1,by have:=I.out;omega,i+1,G,g,by have:=I.out;omega,rfl,rfl,rfl,⟨by rw [o.out];exact hJ.out⟩⟩
    ·rw [if_pos h0] at o;have b8:(0:Int) < ((b.length:Nat):Int):=by omega
     have Q:(bP C (i+1)).length=(bP C i).length+1:=by rw [o,aA2];rfl
     obtain ⟨cc,f,rfl,_⟩:∃ cc f,ca = .tree b.length cc (b.map bA++x) f∧b.length≤cc:=by
      rcases M.form with ⟨_,h⟩ | ⟨_,_,_,h⟩ | h
      ·omega
      ·omega
      ·exact h
     have c4:nY k (bP C (i+1))=nY k (bP C i)++[.tree k k (aR k (fO k i)) true]:=by rw [o];unfold nY;rw [aBs];rfl
     have a9:kN cells (bP C (i+1))=kN cells (bP C i)++[.tree b.length cc (b.map bA++x) f]:=by
      rw [o];unfold kN;rw [aBs,List.map_cons,List.map_nil,azs,K];rfl
     have d0:=O.out i V;have t1:=kP k (aR k (fO k i)) true;have s1:=dB t1;simp only [aB] at d0;replace u:=aA.mk u;replace o:=aA.mk o;replace Q:=aA.mk Q;replace c4:=aA.mk c4;replace a9:=aA.mk a9;simp only [↓pre,zae,aca,simprocAttr,N,U,e2,p,J,w1,d,b3,l,c2,hv.rd.addr',K,M.len',b8]
     (first | refine aI (d0) (by first | rfl | simp only [aC,aE, *]) ?_ | refine aH (d0) (by first | rfl | simp only [aC,aE, *]) (by intro k;first | rfl | simp only [ *,zaa]) ?_);simp only [↓pre,zab,aca,cO,aba,simprocAttr,D,s1]
     refine aeG (m0:=aF.empty) (kd := .var) (sz:=1) (y:=24) (zl:=[.slice none 0 0]) (by kernel_rfl) B (by kernel_rfl) (by kernel_rfl) (by kernel_rfl) rfl lV rfl (by omega) (by omega) h9 i8 ?_;intro a3 m' d4 f8 e7 i2 e8 a7;obtain ⟨f5,f3⟩:=z.beside i2 e8 a7 fun b u h=>S b h u
     simp only [↓pre,zae,aca,cO,aba,simprocAttr,e2,p,J,c2,hv.rd.addr',K];refine aeG (m0:=aF.empty) (kd := .var) (sz:=1) (y:=24) (zl:=[.slice none 0 0]) (by kernel_rfl) f5 (by kernel_rfl) (by kernel_rfl) (by kernel_rfl) rfl lV rfl (by omega) (by omega) f8 g9 ?_;intro W c8 c7 c0 d3 d8 e5 a4;obtain ⟨c6,c5⟩:=d4.beside d8 e5 a4 fun b u h=>f3 b h u
     have R:(bP C (i+1)).length≤k∧bY .var c8 52 1 a3 (bP C (i+1)).length (nY k (bP C (i+1)))∧bY .var c8 52 1 W (bP C (i+1)).length (kN cells (bP C (i+1)))∧nS aF.empty c8∧kB aF.empty a3∧kB aF.empty W∧∀ b,cG a3=some b→cG W≠some b:=by
      rw [Q.out,c4.out,a9.out];exact ⟨by omega,c6,c7,c0,e7,d3,c5⟩
     replace R:=aA.mk R;simp only [↓pre,zab,simprocAttr,N,U,e2,J,wi];exact ⟨q - 1,by have:=I.out;omega,i+1,a3,W,by have:=I.out;omega,rfl,rfl,rfl,R⟩
   ·have l:¬ (((bP C i).length:Nat):Int) < ((k:Nat):Int):=by omega
    have Y:(bP C i).length=k:=by omega
    have A:=T.out i (by omega) Z;rw [Y,aBa (by omega)] at A;rw [Y,A] at B z;replace A:=aA.mk A;simp only [↓pre,zae,simprocAttr,N,U,D,p,J,w1,d,b3,l];exact ⟨G,g,rfl,rfl,⟨B,z,S⟩⟩
  ·have d:¬ ((i:Nat):Int) < ((k+r:Nat):Int):=by omega
   have hi:i=k+r:=by have:=I.out;omega
   rw [hi] at Z B z;have Y:(bP C (k+r)).length=k:=by omega
   have A:bP C (k+r)=at_:=by rw [←a8.out,aBa (by omega)]
   rw [Y,A] at B z;replace A:=aA.mk A;simp only [↓pre,zac,simprocAttr,N,U,D,p,J,w1,d];exact ⟨G,g,rfl,rfl,⟨B,z,S⟩⟩
structure OfR (k r c w ix:Int) (bs:List UInt8) (kd i0 ce st:Int) (vv dv:AV):Prop where
 r1:∃ n y,aT vv n y
 r2:∃ n y,aT dv n y
 is:eF k r c w bs ix=true→kd=(bN k r bs).kd∧ce=(bN k r bs).ce∧st=(bN k r bs).st∧vv=jZ (some (bN k r bs).vec)∧dv = .tree (bN k r bs).data.length (bN k r bs).data.length (aJ (bN k r bs).data) false
theorem acH (k r c w ix:Int) (v:AV) (bs:List UInt8) (x:List AV) (d:aT v bs.length (aJ bs++x)) (b:bG k r c w=true):∃ kd a ce st vv dv,aQ ayU 227 [aC k r c w,v,aB ix] ⟨.tup [.agg [.val (.int .u8 kd),.val (.int .i64 a),.val (.int .i64 ce),.val (.int .i64 st),vv,dv],aZ (eF k r c w bs ix)],[]⟩∧OfR k r c w ix bs kd a ce st vv dv:=by
 have h:=am7 k r c w ix v bs x d b;cases hs:eF k r c w bs ix with
 | false =>
  rw [hs,if_neg (by decide)] at h;exact ⟨0,0,0,0,aW,aW,h,⟨⟨0,[],⟨.inl ⟨rfl,rfl⟩⟩⟩,⟨0,[],⟨.inl ⟨rfl,rfl⟩⟩⟩,fun h=>by rw [hs] at h;cases h⟩⟩
 | true =>
  rw [hs,if_pos rfl] at h;exact ⟨_,_,_,_,_,_,h,⟨⟨_,_,kP _ _ _⟩,⟨_,_,kP _ _ _⟩,fun _=>⟨rfl,rfl,rfl,rfl,rfl⟩⟩⟩
theorem ai4 (k r c w:Int) (bs:List UInt8) (ix kd ver:Int):eX k r c w bs ix kd ver=(eF k r c w bs ix && (decide ((bN k r bs).kd=kd) && decide ((bN k r bs).ce=ver))):=by
 unfold eX jY;cases h:eF k r c w bs ix with
 | false=>rfl
 | true =>
  have a:dP k r c w bs=true:=by
   unfold eF at h;rw [Bool.and_eq_true] at h;exact h.1
  unfold dW;rw [if_pos a];rfl
def xP (k r c w:Int) (p:aO) (ix kd ver:Int):Int:=if eX k r c w p.1 ix kd ver=true then 0 else if eX k r c w p.2 ix kd ver=true then 1 else -1
def qJ:Nat→Bool:=fun d=>d != 12
theorem ap6 (k r c w kd ix ver:Int) (a b:AV) (p:aO) (Y xb:List AV) (K:aT a p.1.length (aJ p.1++Y)) (G:aT b p.2.length (aJ p.2++xb)) (Z:bG k r c w=true):aQ ayU 226 [aC k r c w,.agg [a,b],.val (.int .u8 kd),aB ix,aB ver] ⟨aB (xP k r c w p ix kd ver),[]⟩:=by
 refine gA ?_;have D:∀ i:Nat,i < 2→∃ L,[a,b][i]? = some L∧plain L=true∧∃ v T ce st vv dv,aQ ayU 227 [aC k r c w,L,aB ix] ⟨.tup [.agg [.val (.int .u8 v),.val (.int .i64 T),.val (.int .i64 ce),.val (.int .i64 st),vv,dv],aZ (eF k r c w (if i=0 then p.1 else p.2) ix)],[]⟩∧OfR k r c w ix (if i=0 then p.1 else p.2) v T ce st vv dv:=fun i hi=>by
  obtain rfl | rfl:i=0∨i=1:=by omega
  ·exact ⟨a,rfl,K.plain,acH k r c w ix a p.1 Y K Z⟩
  ·exact ⟨b,rfl,G.plain,acH k r c w ix b p.2 xb G Z⟩
 replace D:=aA.mk D;have fa:=bW K;have fb:=bW G;have oa:=bR K;have ob:=bR G;have s:∀ i:Nat,i < 2→(∀ j,j < i→eX k r c w (if j=0 then p.1 else p.2) ix kd ver=false)→eX k r c w (if i=0 then p.1 else p.2) ix kd ver=true→xP k r c w p ix kd ver=(i:Nat):=fun i hi o g=>by
  unfold xP;obtain rfl | rfl:i=0∨i=1:=by omega
  ·rw [if_pos rfl] at g;rw [if_pos g];rfl
  ·rw [if_neg (by decide)] at g;have:=o 0 (by omega);rw [if_pos rfl] at this;rw [if_neg (by rw [this];decide),if_pos g];rfl
 have z:(∀ j,j < 2→eX k r c w (if j=0 then p.1 else p.2) ix kd ver=false)→xP k r c w p ix kd ver = -1:=fun o=>by
  have g:=o 0 (by omega);have h3:=o 1 (by omega);rw [if_pos rfl] at g;rw [if_neg (by decide)] at h3;unfold xP;rw [if_neg (by rw [g];decide),if_neg (by rw [h3];decide)]
 generalize hH:xP k r c w p ix kd ver=HI at *
 replace s:=aA.mk s;replace z:=aA.mk z;refine bV Tryz.func226 qJ (h:=?_);unfold Tryz.f226;simp only [↓pre,zad,sZ,qJ,simprocAttr,aC,bne,fa,fb];rw [bS];refine bU (fun q e m=>∃ i,q+i=2∧e 2 = .val (.int .u8 kd)∧e 3=aB ix∧e 4=aB ver∧e 5 = .tptr 0 [aB k,aB r,aB c,aB w]∧e 6 = .tptr 0 [a,b]∧e 11=aB (i:Nat)∧aA (∀ j,j < i→eX k r c w (if j=0 then p.1 else p.2) ix kd ver=false)) 2 ⟨0,by omega,rfl,rfl,rfl,rfl,rfl,rfl,⟨fun j hj=>by omega⟩⟩ ?_;rintro q e m ⟨i,x,F,E,M,J,N,l,S⟩;replace x:=aA.mk x;by_cases C:i < 2
 ·have y:((i:Nat):Int) < 2:=by omega
  have R:=cB (n:=i) (by omega);obtain ⟨L,Q,a0,v,T,ce,st,vv,dv,u,t⟩:=D.out i C;obtain ⟨n1,y1,X⟩:=t.r1;obtain ⟨n2,y2,P⟩:=t.r2;have I:=bW X;have O:=bW P;have q1:=bR X;have q2:=bR P;have t1:=dB X;have t2:=dB P;have d:=ai4 k r c w (if i=0 then p.1 else p.2) ix kd ver;have A:=t.is;have V:=fun o g=>s.out i C o g
  have f:eX k r c w (if i=0 then p.1 else p.2) ix kd ver=false→∀ j,j < i+1→eX k r c w (if j=0 then p.1 else p.2) ix kd ver=false:=fun h j hj=>by
   by_cases e:j=i
   ·subst e;exact h
   ·exact S.out j (by omega)
  simp only [aB] at u;generalize eF k r c w (if i=0 then p.1 else p.2) ix=B at *
  generalize eX k r c w (if i=0 then p.1 else p.2) ix kd ver=H at *
  replace A:=aA.mk A;replace V:=aA.mk V;replace f:=aA.mk f;replace t:=aA.mk t;simp only [↓pre,zaj,sZ,qJ,simprocAttr,bne,E,J,N,l,y,C,Q];cases B with
  | false =>
   rw [aB3] at d;replace d:=aA.mk d
   (first | refine aI (u) (by first | rfl | simp only [aC,aE, *]) ?_ | refine aH (u) (by first | rfl | simp only [aE, *]) (by intro k;first | rfl | simp only [ *,zaa]) ?_);simp only [↓pre,zad,sZ,qJ,bD,simprocAttr,bne]
   refine oO (by kernel_rfl) ?_;simp only [↓pre,za,sZ,qJ,simprocAttr,bne,aS,I,O];refine cX (by kernel_rfl) ?_;simp only [↓pre,zad,qJ,simprocAttr,bne,F,E,M,J,N,l,R];exact ⟨q - 1,by have:=x.out;omega,i+1,by have:=x.out;omega,rfl,⟨f.out d.out⟩⟩
  | true =>
   obtain ⟨U,W,u3,u4,u5⟩:=A.out rfl;replace u4:=aA.mk u4;replace u5:=aA.mk u5;rw [Bool.true_and,←U,←W] at d;replace U:=aA.mk U;replace W:=aA.mk W;replace u3:=aA.mk u3;by_cases o:v=kd
   ·by_cases g:ce=ver
    ·rw [decide_eq_true o,decide_eq_true g] at d;replace d:=aA.mk d
     (first | refine aI (u) (by first | rfl | simp only [aC,aE, *]) ?_ | refine aH (u) (by first | rfl | simp only [aE, *]) (by intro k;first | rfl | simp only [ *,zaa]) ?_);simp only [↓pre,zad,sZ,qJ,bD,simprocAttr,bne,o,g]
     refine oO (by kernel_rfl) ?_;simp only [↓pre,za,sZ,qJ,simprocAttr,bne,aS,I,O];refine cX (by kernel_rfl) ?_;simp only [↓pre,za,sZ,qJ,simprocAttr,bne,F,M,l];exact ⟨0,by rw [V.out S.out d.out,gU]⟩
    ·rw [decide_eq_true o,decide_eq_false g] at d;replace d:=aA.mk d
     (first | refine aI (u) (by first | rfl | simp only [aC,aE, *]) ?_ | refine aH (u) (by first | rfl | simp only [aE, *]) (by intro k;first | rfl | simp only [ *,zaa]) ?_);simp only [↓pre,zad,sZ,qJ,bD,simprocAttr,bne,o]
     refine oO (by kernel_rfl) ?_;simp only [↓pre,za,sZ,qJ,simprocAttr,bne,aS,I,O];refine cX (by kernel_rfl) ?_;simp only [↓pre,za,sZ,qJ,simprocAttr,bne,F,E,M,J,N,l,g,R];exact ⟨q - 1,by have:=x.out;omega,i+1,by have:=x.out;omega,rfl,⟨f.out d.out⟩⟩
   ·rw [decide_eq_false o,aB3] at d;replace d:=aA.mk d
    (first | refine aI (u) (by first | rfl | simp only [aC,aE, *]) ?_ | refine aH (u) (by first | rfl | simp only [aE, *]) (by intro k;first | rfl | simp only [ *,zaa]) ?_);simp only [↓pre,zad,sZ,qJ,bD,simprocAttr,bne]
    refine oO (by kernel_rfl) ?_;simp only [↓pre,za,sZ,qJ,simprocAttr,bne,aS,I,O];refine cX (by kernel_rfl) ?_;simp only [↓pre,za,sZ,qJ,simprocAttr,bne,F,E,M,J,N,l,o,R];exact ⟨q - 1,by have:=x.out;omega,i+1,by have:=x.out;omega,rfl,⟨f.out d.out⟩⟩
 ·have y:¬ ((i:Nat):Int) < 2:=by omega
  have hi:i=2:=by have:=x.out;omega
  subst hi;have:=z.out S.out;simp only [↓pre,zad,qJ,simprocAttr,bne,l];exact ⟨0,by rw [this,gU]⟩
end Go.Proofs.YtaekhhlgnbhnpaaGreat