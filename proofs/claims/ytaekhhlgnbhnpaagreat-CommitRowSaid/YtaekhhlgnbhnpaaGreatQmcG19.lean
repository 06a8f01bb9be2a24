import Derived.KernelRfl
import Derived.Test.YtaekhhlgnbhnpaaGreatQmcG15
import Derived.Test.YtaekhhlgnbhnpaaGreatQmcG10
import Derived.Test.YtaekhhlgnbhnpaaGreatQmcG11
import Derived.Test.YtaekhhlgnbhnpaaGreatQmcG16
import Derived.Test.YtaekhhlgnbhnpaaGreatQmcG12
set_option linter.defProp false
set_option linter.unusedVariables false
set_option linter.unusedSimpArgs false
open Go.Proofs.Tryz
open BitVec renaming toNat_ofNat→aAY
open Bool renaming and_true→aAI,and_self→aAx
open Go.IntKind renaming u8→aBQ,bits→aAS,wrap→aAR,signed→aAT,i64→azy
open Go.Proofs.Tryz renaming prog→ayU
open Int renaming natCast_add→aBX
open List renaming range→aAp,all_eq_true→aAu,mem_range→aAz,nodup_cons→aBK,range_succ→aAW,filter_cons→aBM,map_cons→aAr,mem_map→azp,getElem?_eq_some_iff→ay8,getD_eq_getElem?_getD→azs,length_range→aBN,nodup_range→aBO,mem_filter→aBP,getElem?_map→azo,getElem?_range→aBS,ext_getElem?→aAi,append_assoc→azW,length_take→aBT,getElem?_append_left→azg,getElem?_take_of_lt→aBU,getElem?_append_right→azh,getElem?_drop→aAv,length_cons→aAF,length_nil→aAG,getElem?_eq_none→ay6,take_of_length_le→aBa,drop_eq_nil_of_le→aBV,map_congr_left→aAw,length_append→aA2,append_nil→aBl,drop_zero→aBx,map_map→aBy,getElem?_eq_getElem→azm,mem_of_getElem?→az8,map_append→aBs
open Nat renaming zero_xor→aBI,mod_lt→azt,mod_eq_of_lt→aAZ,le_refl→aza,lt_irrefl→aBL,sub_self→azc,zero_add→azq,reduceEqDiff→aBW,mul_one→azG,lt_of_lt_of_le→azd
open Option renaming bind_some→aAk,map_some→az6
open UInt8 renaming ofNat→azQ,toNat_inj→aBf,toNat_xor→aBJ,toNat_and→aBR
namespace Go.Gf
def xt (a:Nat):Nat:=if a < 128 then 2*a else (2*a) ^^^ 0x11d
def gm:Nat→Nat→Nat→Nat
 | 0,_,_=>0
 | n+1,a,b=>(if b % 2=1 then a else 0) ^^^ gm n (xt a) (b / 2)
def gmul (a b:Nat):Nat:=gm 8 a b
theorem auK (b c:Nat):((b ^^^ c) % 2=1)↔¬ ((b % 2=1)↔(c % 2=1)):=by
 have h:=Nat.testBit_xor b c 0;simp only [Nat.testBit_zero] at h;by_cases d:b % 2=1 <;> by_cases a:c % 2=1 <;> simp [d,a] at h ⊢ <;> omega
theorem ah1:∀ (n a b c:Nat),gm n a (b ^^^ c)=gm n a b ^^^ gm n a c
 | 0,_,_,_=>by unfold gm;rfl
 | n+1,a,b,c=>by
  have g:=ah1 n (xt a) (b / 2) (c / 2);have f:=auK b c;unfold gm;rw [Nat.xor_div_two,g];generalize gm n (xt a) (b / 2)=x;generalize gm n (xt a) (c / 2)=y;by_cases e:b % 2=1 <;> by_cases d:c % 2=1
  ·rw [if_neg (by rw [f];simp [e,d]),if_pos e,if_pos d,aBI];rw [show (a ^^^ x) ^^^ (a ^^^ y)=(a ^^^ a) ^^^ (x ^^^ y) by ac_rfl,Nat.xor_self,aBI]
  ·rw [if_pos (by rw [f];simp [e,d]),if_pos e,if_neg d,aBI]
   ac_rfl
  ·rw [if_pos (by rw [f];simp [e,d]),if_neg e,if_pos d,aBI]
   ac_rfl
  ·rw [if_neg (by rw [f];simp [e,d]),if_neg e,if_neg d,aBI,aBI,aBI]
def eT:Nat:=70160881166704368827218703435136616750530459438269794890424969378298545675077208731798828898087927652446353395360628748027273188182808436399538186061104243134188885576122562338679313492324190829158544377810568631194580132524405266702234305646236648896994794467054525044798919765581988418950285252905306116225263236585714808161311289784028762024137133735135393922581566890382566480334369299400480864790538739986285574563168380416343369614948461817839620668187777978661530364712890858126432457562886306102556561631759900551331094983229723298224611133722330829711659991602983068895685602467964643306841827719562658305
def lT:Nat:=22135253156888987530748098150270024343632497605293634117281264061560962248099620766229961468867162294233796152347975563017024165690400661622462404646302566225833645086064538892198543335321514950294300187779610338557442029018619797274438901674641748676613670242915365385819254959901651105240253464034662486586186382979728982817772067067513442677601938078891989292316012868233806586592927239821351197800766822366321181463280924672822998103315976779850880337712374790938628529953751181886374687897611504386983350015558142994211516619836411558782076806704747441947939324473761869443721989389604670425385080942269787340800
def gE (n:Nat):Nat:=(eT >>> (8*n)) % 256
def gL (a:Nat):Nat:=(lT >>> (8*a)) % 256
def anK:Bool:=(aAp 256).all fun a=>(aAp 256).all fun b=>gmul a b == (if a=0 then 0 else if b=0 then 0 else gE ((gL a+gL b) % 255))
theorem auL:anK=true:=by kernel_rfl
def anL:Bool:=(aAp 255).all fun n=>gL (gE n) == n && gE n != 0 && decide (gE n < 256)
theorem auM:anL=true:=by kernel_rfl
def anM:Bool:=(aAp 256).all fun a=>a == 0 || (gE (gL a) == a && decide (gL a < 255))
theorem auN:anM=true:=by kernel_rfl
theorem mC {a b:Nat} (d:a < 256) (e:b < 256):gmul a b=(if a=0 then 0 else if b=0 then 0 else gE ((gL a+gL b) % 255)):=by
 have h:=auL;unfold anK at h;rw [aAu] at h;have c:=h a (aAz.2 d);rw [aAu] at c;exact eq_of_beq (c b (aAz.2 e))
theorem yQ {n:Nat} (h:n < 255):gL (gE n)=n∧gE n≠0∧gE n < 256:=by
 have b:=auM;unfold anL at b;rw [aAu] at b;have a:=b n (aAz.2 h);simp only [Bool.and_eq_true,beq_iff_eq,bne_iff_ne,decide_eq_true_eq] at a;exact ⟨a.1.1,a.1.2,a.2⟩
theorem afo {a:Nat} (h:a < 256) (d:a≠0):gE (gL a)=a∧gL a < 255:=by
 have c:=auN;unfold anM at c;rw [aAu] at c;have b:=c a (aAz.2 h);simp only [Bool.or_eq_true,Bool.and_eq_true,beq_iff_eq,decide_eq_true_eq] at b;rcases b with b | b
 ·exact absurd b d
 ·exact b
theorem afp {a b:Nat} (c:a < 256) (d:b < 256):gmul a b < 256:=by
 rw [mC c d];split
 ·omega
 ·split
  ·omega
  ·exact (yQ (azt _ (by decide))).2.2
theorem auO {a b:Nat} (c:a < 256) (d:b < 256):gmul a b=gmul b a:=by
 rw [mC c d,mC d c,Nat.add_comm (gL a)];by_cases f:a=0 <;> by_cases e:b=0 <;> simp [f,e]
theorem ah2 {a b:Nat} (c:a < 256) (e:b < 256) (f:a≠0) (d:b≠0):gmul a b≠0:=by
 rw [mC c e,if_neg f,if_neg d];exact (yQ (azt _ (by decide))).2.1
theorem auP {a b c:Nat} (f:a < 256) (d:b < 256) (g:c < 256):gmul (gmul a b) c=gmul a (gmul b c):=by
 have e:=afp f d;have h:=afp d g;by_cases i:a=0
 ·rw [mC e g,mC f h,mC f d,if_pos i,if_pos rfl];simp [i]
 ·by_cases j:b=0
  ·rw [mC e g,mC f h,mC f d,mC d g,if_pos j,if_pos j];simp [i]
  ·by_cases k:c=0
   ·rw [mC e g,mC f h,mC d g,if_pos k,if_pos k];simp [i]
   ·have l:=ah2 f d i j;have m:=ah2 d g j k;rw [mC e g,mC f h,if_neg l,if_neg k,if_neg i,if_neg m];rw [mC f d,if_neg i,if_neg j,mC d g,if_neg j,if_neg k];rw [(yQ (azt _ (by decide))).1,(yQ (azt _ (by decide))).1];congr 1;omega
theorem auQ {a:Nat} (b:a < 256):gmul a 1=a:=by
 rw [mC b (by decide)];split
 ·rename_i h;rw [h]
 ·rename_i h;rw [if_neg (by decide)];have:=afo b h;have e:gL 1=0:=by kernel_rfl
  rw [e,Nat.add_zero,aAZ this.2];exact this.1
def ginv (a:Nat):Nat:=gE ((255 - gL a) % 255)
theorem ah3 (a:Nat):ginv a < 256:=(yQ (azt _ (by decide))).2.2
theorem auR {a:Nat} (b:a < 256) (c:a≠0):gmul a (ginv a)=1:=by
 have h:=afo b c;have hi:=yQ (n:=(255 - gL a) % 255) (azt _ (by decide));rw [mC b (ah3 a),if_neg c,if_neg (show ginv a≠0 from hi.2.1)];unfold ginv;rw [hi.1];have e:(gL a+(255 - gL a) % 255) % 255=0:=by omega
 have d:gE 0=1:=by kernel_rfl
 rw [e,d]
def aM (a b:UInt8):UInt8:=azQ (gmul a.toNat b.toNat)
def cK (a:UInt8):UInt8:=azQ (ginv a.toNat)
theorem mZ {n:Nat} (h:n < 256):(azQ n).toNat=n:=by rw [UInt8.toNat_ofNat'];exact aAZ h
theorem jW (a:UInt8):a.toNat < 256:=a.toNat_lt
theorem uL (a b:UInt8):(aM a b).toNat=gmul a.toNat b.toNat:=mZ (afp (jW a) (jW b))
theorem qY (a b:UInt8):aM a b=aM b a:=by unfold aM;rw [auO (jW a) (jW b)]
theorem adA (a b c:UInt8):aM (aM a b) c=aM a (aM b c):=by
 apply aBf.1;rw [uL,uL,uL,uL];exact auP (jW a) (jW b) (jW c)
theorem xG (a:UInt8):aM a 1=a:=by
 apply aBf.1;rw [uL];exact auQ (jW a)
theorem qZ (a:UInt8):aM 1 a=a:=by rw [qY,xG]
theorem tB (a:UInt8):aM a 0=0:=by
 apply aBf.1;rw [uL,mC (jW a) (jW 0)];split
 ·rfl
 ·rfl
theorem vX (a:UInt8):aM 0 a=0:=by rw [qY,tB]
theorem rX {a:UInt8} (h:a≠0):aM a (cK a)=1:=by
 apply aBf.1;rw [uL];unfold cK;rw [mZ (ah3 _)];exact auR (jW a) fun e=>h (aBf.1 e)
theorem vY (a b c:UInt8):aM a (b ^^^ c)=aM a b ^^^ aM a c:=by
 apply aBf.1;rw [aBJ,uL,uL,uL,aBJ];exact ah1 8 _ _ _
theorem ah4 (a b c:UInt8):aM (a ^^^ b) c=aM a c ^^^ aM b c:=by
 rw [qY,vY,qY c a,qY c b]
theorem afq {a b:UInt8} (d:a≠0) (f:b≠0):aM a b≠0:=by
 intro h;have c:=congrArg UInt8.toNat h;rw [uL] at c;exact ah2 (jW a) (jW b) (fun e=>d (aBf.1 e)) (fun e=>f (aBf.1 e)) c
theorem afr {a:UInt8} (h:a≠0):cK a≠0:=by
 intro e;have:=rX h;rw [e,tB] at this;exact absurd this (by decide)
instance:Std.Associative aM:=⟨adA⟩
instance:Std.Commutative aM:=⟨qY⟩
theorem acl (a:UInt8):a ^^^ a=0:=UInt8.xor_self
theorem uM (a:UInt8):a ^^^ 0=a:=UInt8.xor_zero
theorem acm (a:UInt8):0 ^^^ a=a:=UInt8.zero_xor
instance:Std.Associative (α:=UInt8) (· ^^^ ·):=⟨UInt8.xor_assoc⟩
instance:Std.Commutative (α:=UInt8) (· ^^^ ·):=⟨UInt8.xor_comm⟩
theorem ah5 {a b:UInt8} (h:a ^^^ b=0):a=b:=by
 have:a ^^^ b ^^^ b=0 ^^^ b:=by rw [h]
 rw [UInt8.xor_assoc,acl,uM,acm] at this;exact this
theorem xH {a b:UInt8} (h:a≠b):a ^^^ b≠0:=fun e=>h (ah5 e)
def gM:Nat→(Nat→UInt8)→UInt8
 | 0,_=>0
 | n+1,f=>gM n f ^^^ f n
theorem aam {f g:Nat→UInt8}:∀ n,(∀ i,i < n→f i=g i)→gM n f=gM n g
 | 0,_=>rfl
 | n+1,h=>by unfold gM;rw [aam n fun i hi=>h i (by omega),h n (by omega)]
theorem ah6 {f:Nat→UInt8}:∀ n,(∀ i,i < n→f i=0)→gM n f=0
 | 0,_=>rfl
 | n+1,h=>by unfold gM;rw [ah6 n fun i hi=>h i (by omega),h n (by omega)];rfl
theorem adB (c:UInt8) (f:Nat→UInt8):∀ n,aM c (gM n f)=gM n fun i=>aM c (f i)
 | 0=>tB c
 | n+1=>by unfold gM;rw [vY,adB c f n]
theorem auS (c:UInt8) (f:Nat→UInt8) (n:Nat):aM (gM n f) c=gM n fun i=>aM (f i) c:=by
 rw [qY,adB];exact aam n fun i _=>qY _ _
theorem afs (f g:Nat→UInt8):∀ n,gM n (fun i=>f i ^^^ g i)=gM n f ^^^ gM n g
 | 0=>(uM 0).symm
 | n+1=>by
  show gM n (fun i=>f i ^^^ g i) ^^^ (f n ^^^ g n)=(gM n f ^^^ f n) ^^^ (gM n g ^^^ g n);rw [afs f g n];ac_rfl
theorem acn {f:Nat→UInt8} {k:Nat}:∀ n,k < n→(∀ i,i < n→i≠k→f i=0)→gM n f=f k
 | 0,h,_=>by omega
 | n+1,h,h0=>by
  unfold gM;by_cases b:k=n
  ·subst b;rw [ah6 k fun i hi=>h0 i (by omega) (by omega),acm]
  ·rw [acn n (by omega) fun i hi a=>h0 i (by omega) a,h0 n (by omega) (fun e=>b e.symm),uM]
theorem adC {a b c:UInt8} (d:a≠0) (h:aM a b=aM a c):b=c:=by
 have:=congrArg (aM (cK a)) h;rw [←adA,←adA,qY (cK a) a,rX d,qZ,qZ] at this;exact this
theorem mul_zero {a b:UInt8} (c:a≠0) (h:aM a b=0):b=0:=adC c (h.trans (tB a).symm)
theorem auT {zi zn wj wn:UInt8} (m:zi≠wj) (l:zn≠wj):aM (zi ^^^ wn) (cK (zi ^^^ wj)) ^^^ aM (zn ^^^ wn) (cK (zn ^^^ wj))=aM (zi ^^^ zn) (aM (aM (wn ^^^ wj) (cK (zn ^^^ wj))) (cK (zi ^^^ wj))):=by
 have h:=xH m;have j:=xH l;refine adC h (adC j ?_);have e:=rX h;have i:=rX j;generalize cK (zi ^^^ wj)=p at *
 generalize cK (zn ^^^ wj)=q at *
 have n:aM (zn ^^^ wj) (aM (zi ^^^ wj) (aM (zi ^^^ wn) p ^^^ aM (zn ^^^ wn) q))=aM (zn ^^^ wj) (zi ^^^ wn) ^^^ aM (zi ^^^ wj) (zn ^^^ wn):=by
  rw [vY,vY];congr 1
  ·rw [show aM (zi ^^^ wj) (aM (zi ^^^ wn) p)=aM (aM (zi ^^^ wj) p) (zi ^^^ wn) by ac_rfl,e,qZ]
  ·rw [show aM (zn ^^^ wj) (aM (zi ^^^ wj) (aM (zn ^^^ wn) q))=aM (aM (zn ^^^ wj) q) (aM (zi ^^^ wj) (zn ^^^ wn)) by ac_rfl,i,qZ]
 have k:aM (zn ^^^ wj) (aM (zi ^^^ wj) (aM (zi ^^^ zn) (aM (aM (wn ^^^ wj) q) p)))=aM (zi ^^^ zn) (wn ^^^ wj):=by
  rw [show aM (zn ^^^ wj) (aM (zi ^^^ wj) (aM (zi ^^^ zn) (aM (aM (wn ^^^ wj) q) p)))=aM (aM (zn ^^^ wj) q) (aM (aM (zi ^^^ wj) p) (aM (zi ^^^ zn) (wn ^^^ wj))) by ac_rfl,e,i,qZ,qZ]
 rw [n,k];simp only [vY,ah4];rw [qY zn zi,qY wj zi,qY wj zn];have key:∀ a b c d f g:UInt8,((a ^^^ d) ^^^ (f ^^^ c)) ^^^ ((a ^^^ g) ^^^ (b ^^^ c))=(b ^^^ f) ^^^ (d ^^^ g):=by
  intro a b c d f g;rw [show ((a ^^^ d) ^^^ (f ^^^ c)) ^^^ ((a ^^^ g) ^^^ (b ^^^ c))=((a ^^^ a) ^^^ (c ^^^ c)) ^^^ ((b ^^^ f) ^^^ (d ^^^ g)) by ac_rfl,acl,acl,uM,acm]
 exact key _ _ _ _ _ _
def lO {α:Type} (l:List α) (f:α→UInt8):UInt8:=l.foldr (fun a s=>f a ^^^ s) 0
theorem qC {α:Type} (a:α) (l:List α) (f:α→UInt8):lO (a::l) f=f a ^^^ lO l f:=rfl
theorem ah7 {α:Type} {f g:α→UInt8}:∀ (l:List α),(∀ a∈l,f a=g a)→lO l f=lO l g
 | [],_=>rfl
 | a::l,h=>by rw [qC,qC,h a (by simp),ah7 l fun b c=>h b (by simp [c])]
theorem anN {α:Type} {f:α→UInt8}:∀ (l:List α),(∀ a∈l,f a=0)→lO l f=0
 | [],_=>rfl
 | a::l,h=>by rw [qC,h a (by simp),anN l fun b c=>h b (by simp [c])];rfl
theorem aft {α:Type} (c:UInt8) (f:α→UInt8):∀ l:List α,aM c (lO l f)=lO l fun a=>aM c (f a)
 | []=>tB c
 | a::l=>by rw [qC,qC,vY,aft c f l]
theorem anO {α:Type} (f g:α→UInt8):∀ l:List α,lO l (fun a=>f a ^^^ g a)=lO l f ^^^ lO l g
 | []=>(uM 0).symm
 | a::l=>by rw [qC,qC,qC,anO f g l];ac_rfl
theorem anP:∀ (W Z:List UInt8) (x:UInt8→UInt8),W.length=Z.length→W.Nodup→Z.Nodup→(∀ z∈Z,∀ w∈W,z≠w)→(∀ z∈Z,lO W (fun w=>aM (x w) (cK (z ^^^ w)))=0)→∀ w∈W,x w=0
 | [],_,_,_,_,_,_,_=>fun w b=>by cases b
 | w0::W,[],_,hl,_,_,_,_=>by simp at hl
 | w0::W,z0::Z,x,hl,b,f,hd,h=>by
  rw [aBK] at b f;have g:=h z0 (by simp);rw [qC] at g;have d:z0≠w0:=hd z0 (by simp) w0 (by simp);have q:=anP W Z (fun w=>aM (x w) (aM (w0 ^^^ w) (cK (z0 ^^^ w)))) (by simpa using hl) b.2 f.2 (fun z f w b=>hd z (by simp [f]) w (by simp [b])) (fun z c=>by
   have o:=h z (by simp [c]);rw [qC] at o;have k:z≠w0:=hd z (by simp [c]) w0 (by simp);have i:z ^^^ z0≠0:=xH fun e=>f.1 (e ▸ c)
   refine mul_zero i ?_;rw [aft];have e:lO W (fun w=>aM (z ^^^ z0) (aM (aM (x w) (aM (w0 ^^^ w) (cK (z0 ^^^ w)))) (cK (z ^^^ w))))=aM (z ^^^ w0) (lO W fun w=>aM (x w) (cK (z ^^^ w))) ^^^ aM (z0 ^^^ w0) (lO W fun w=>aM (x w) (cK (z0 ^^^ w))):=by
    rw [aft,aft,←anO];refine ah7 W fun w b => ?_
    have st:=auT (zi:=z) (zn:=z0) (wj:=w) (wn:=w0) (hd z (by simp [c]) w (by simp [b])) (hd z0 (by simp) w (by simp [b]));have:=congrArg (aM (x w)) st;rw [vY] at this;rw [show aM (z ^^^ w0) (aM (x w) (cK (z ^^^ w)))=aM (x w) (aM (z ^^^ w0) (cK (z ^^^ w))) by ac_rfl,show aM (z0 ^^^ w0) (aM (x w) (cK (z0 ^^^ w)))=aM (x w) (aM (z0 ^^^ w0) (cK (z0 ^^^ w))) by ac_rfl,this]
    ac_rfl
   have p:=congrArg (aM (z ^^^ w0)) o;have n:=congrArg (aM (z0 ^^^ w0)) g;rw [vY,tB,show aM (z ^^^ w0) (aM (x w0) (cK (z ^^^ w0)))=aM (x w0) (aM (z ^^^ w0) (cK (z ^^^ w0))) by ac_rfl,rX (xH k),xG] at p;rw [vY,tB,show aM (z0 ^^^ w0) (aM (x w0) (cK (z0 ^^^ w0)))=aM (x w0) (aM (z0 ^^^ w0) (cK (z0 ^^^ w0))) by ac_rfl,rX (xH d),xG] at n;rw [e,←ah5 p,←ah5 n];exact acl _)
  have l:∀ w∈W,x w=0:=fun w a=>by
   have m:=q w a;have r:aM (w0 ^^^ w) (cK (z0 ^^^ w))≠0:=afq (xH fun e=>b.1 (e ▸ a)) (afr (xH (hd z0 (by simp) w (by simp [a]))));rw [qY] at m;exact mul_zero r m
  intro w a;rcases List.mem_cons.1 a with rfl | a
  ·rw [anN W fun w' j=>by rw [l w' j,vX],uM,qY] at g;exact mul_zero (afr (xH d)) g
  ·exact l w a
abbrev Mx:=Nat→Nat→UInt8
def eG (m:Mx) (a n:Nat):Mx:=fun i=>if i=a then m n else if i=n then m a else m i
def nA (m:Mx) (n:Nat) (c:UInt8):Mx:=fun i q=>if i=n then aM (m n q) c else m i q
def gC (m:Mx) (n:Nat) (k:Nat→UInt8):Mx:=fun i q=>if i=n then m i q else m i q ^^^ aM (k i) (m n q)
def dQ (m:Mx) (j:Nat):Nat→Nat→Nat
 | 0,at_=>at_
 | f+1,at_=>if m at_ j≠0 then at_ else dQ m j f (at_+1)
theorem aan (m:Mx) (j:Nat):∀ f a,a≤dQ m j f a∧dQ m j f a≤a+f
 | 0,a=>⟨aza _,aza _⟩
 | f+1,a=>by
  unfold dQ;split
  ·omega
  ·have:=aan m j f (a+1);omega
theorem adD (m:Mx) (j:Nat):∀ f a,dQ m j f a < a+f→m (dQ m j f a) j≠0
 | 0,a,h=>by unfold dQ at h;omega
 | f+1,a,h=>by
  unfold dQ at h ⊢;split at h
  ·rename_i b;rw [if_pos b];exact b
  ·rename_i b;rw [if_neg b];exact adD m j f (a+1) (by omega)
theorem anQ (m:Mx) (j:Nat):∀ f a i,a≤i→i < dQ m j f a→m i j=0
 | 0,a,i,h1,h2=>by unfold dQ at h2;omega
 | f+1,a,i,h1,h2=>by
  unfold dQ at h2;split at h2
  ·omega
  ·rename_i b;by_cases e:i=a
   ·subst e;simpa using b
   ·exact anQ m j f (a+1) i (by omega) h2
structure GSt where
 n:Nat
 m:Mx
 b:Mx
def uN (N j:Nat) (s:GSt):GSt :=
 let a:=dQ s.m j (N - s.n) s.n
 if N≤a then s else
  let e:=eG s.m a s.n
  let f:=eG s.b a s.n
  let c:=cK (e s.n j)
  let d:=nA e s.n c
  let g:=nA f s.n c
  ⟨s.n+1,gC d s.n (fun i=>d i j),gC g s.n (fun i=>d i j)⟩
def gsol (N:Nat) (m b:Mx):Nat→GSt
 | 0=>⟨0,m,b⟩
 | j+1=>uN N j (gsol N m b j)
def jX:Mx:=fun i j=>if i=j then 1 else 0
def kern (N:Nat) (m:Mx) (x:Nat→UInt8):Prop:=∀ i,i < N→gM N (fun q=>aM (m i q) (x q))=0
def auU (N j:Nat) (m:Mx):Prop:=∀ i q,i < N→q < j→m i q=if i=q then 1 else 0
def aa5 (N:Nat) (M0 m b:Mx):Prop:=∀ i q,i < N→m i q=gM N fun t=>aM (b i t) (M0 t q)
structure ah8 (N j:Nat) (M0:Mx) (s:GSt):Prop where
 n:s.n=j
 unit:auU N j s.m
 prod:aa5 N M0 s.m s.b
 ker:∀ x,kern N s.m x→kern N M0 x
theorem auV {N a n:Nat} {m:Mx} {x:Nat→UInt8} (d:a < N) (e:n < N) (h:kern N (eG m a n) x):kern N m x:=by
 intro i hi;by_cases c:i=a
 ·have:=h n e;unfold eG at this;by_cases b:n=a
  ·rw [if_pos b] at this;rw [c,←b];exact this
  ·rw [if_neg b,if_pos rfl] at this;rw [c];exact this
 ·by_cases b:i=n
  ·have:=h a d;unfold eG at this;rw [if_pos rfl] at this;rw [b];exact this
  ·have:=h i hi;unfold eG at this;rw [if_neg c,if_neg b] at this;exact this
theorem auW {N n:Nat} {m:Mx} {c:UInt8} {x:Nat→UInt8} (a:c≠0) (h:kern N (nA m n c) x):kern N m x:=by
 intro i hi;have:=h i hi;unfold nA at this;by_cases e:i=n
 ·subst e;simp only [if_true] at this;refine mul_zero a ?_;rw [adB];rw [←this];exact aam N fun q _=>by ac_rfl
 ·simp only [if_neg e] at this;exact this
theorem auX {N n:Nat} {m:Mx} {k:Nat→UInt8} {x:Nat→UInt8} (c:n < N) (h:kern N (gC m n k) x):kern N m x:=by
 have a:=h n c;unfold gC at a;simp only [if_true] at a;intro i hi;have:=h i hi;unfold gC at this;by_cases e:i=n
 ·subst e;exact a
 ·simp only [if_neg e] at this;have b:gM N (fun q=>aM (m i q ^^^ aM (k i) (m n q)) (x q))=gM N (fun q=>aM (m i q) (x q)) ^^^ aM (k i) (gM N fun q=>aM (m n q) (x q)):=by
   rw [adB,←afs];exact aam N fun q _=>by rw [ah4,adA]
  rw [b,a,tB,uM] at this;exact this
theorem auY {N a n:Nat} {M0 m b:Mx} (e:a < N) (f:n < N) (h:aa5 N M0 m b):aa5 N M0 (eG m a n) (eG b a n):=by
 intro i q hi;unfold eG;by_cases c:i=a
 ·simp only [if_pos c];exact h n q f
 ·by_cases d:i=n
  ·simp only [if_neg c,if_pos d];exact h a q e
  ·simp only [if_neg c,if_neg d];exact h i q hi
theorem auZ {N n:Nat} {M0 m b:Mx} {c:UInt8} (a:n < N) (h:aa5 N M0 m b):aa5 N M0 (nA m n c) (nA b n c):=by
 intro i q hi;unfold nA;by_cases e:i=n
 ·simp only [if_pos e];rw [h n q a,auS];exact aam N fun t _=>by ac_rfl
 ·simp only [if_neg e];exact h i q hi
theorem au0 {N n:Nat} {M0 m b:Mx} {k:Nat→UInt8} (a:n < N) (h:aa5 N M0 m b):aa5 N M0 (gC m n k) (gC b n k):=by
 intro i q hi;unfold gC;by_cases e:i=n
 ·simp only [if_pos e];exact h i q hi
 ·simp only [if_neg e];rw [h i q hi,h n q a,adB,←afs];exact aam N fun t _=>by rw [ah4,adA]
theorem au1 {N j:Nat} {M0:Mx} {s:GSt} (B:j < N) (h:ah8 N j M0 s) (H:∀ x,kern N M0 x→∀ q,q < N→x q=0):ah8 N (j+1) M0 (uN N j s):=by
 have J:=h.n;have I:=aan s.m j (N - s.n) s.n;have d:dQ s.m j (N - s.n) s.n < N:=by
  by_cases d:dQ s.m j (N - s.n) s.n < N
  ·exact d
  ·exfalso;have F:∀ i,s.n≤i→i < N→s.m i j=0:=fun i f c=>anQ s.m j (N - s.n) s.n i f (by omega)
   have w:kern N s.m (fun q=>if q < j then s.m q j else if q=j then 1 else 0):=by
    intro i hi;by_cases G:i < j
    ·have e:gM N (fun q=>aM (s.m i q) (if q < j then s.m q j else if q=j then 1 else 0))=gM N (fun q=>(if q=i then s.m i j else 0) ^^^ (if q=j then s.m i j else 0)):=aam N fun q o=>by
      by_cases f:q < j
      ·rw [if_pos f,h.unit i q hi f];have c:¬ q=j:=by omega
       by_cases y:q=i
       ·subst y;rw [if_pos rfl,if_pos rfl,if_neg c,qZ,uM]
       ·rw [if_neg (fun e=>y e.symm),if_neg y,if_neg c,vX];rfl
      ·rw [if_neg f];by_cases c:q=j
       ·subst c;rw [if_pos rfl,if_pos rfl,if_neg (by omega),xG,acm]
       ·rw [if_neg c,if_neg c,if_neg (by omega),tB];rfl
     rw [e,afs,acn (k:=i) N hi fun q _ l=>if_neg l,acn (k:=j) N B fun q _ l=>if_neg l,if_pos rfl,if_pos rfl];exact acl _
    ·refine ah6 N fun q o => ?_
     show aM (s.m i q) (if q < j then s.m q j else if q=j then 1 else 0)=0;by_cases f:q < j
     ·rw [h.unit i q hi f,if_neg (by omega),vX]
     ·rw [if_neg f];by_cases c:q=j
      ·subst c;rw [F i (by omega) hi,vX]
      ·rw [if_neg c,tB]
   have:=H _ (h.ker _ w) j B;rw [if_neg (aBL j),if_pos rfl] at this;exact absurd this (by decide)
 have p:=adD s.m j (N - s.n) s.n (by omega);unfold uN;simp only;generalize dQ s.m j (N - s.n) s.n=a at *
 rw [if_neg (by omega)];have b:s.n < N:=by omega
 have E:eG s.m a s.n s.n j≠0:=by
  unfold eG;by_cases e:s.n=a
  ·rw [if_pos e,e];exact p
  ·rw [if_neg e,if_pos rfl];exact p
 have v:=afr E;refine ⟨by show s.n+1=j+1;omega, ?_,au0 b (auZ b (auY d b h.prod)),fun x w=>h.ker x (auV d b (auW v (auX b w)))⟩;have t:∀ i q,i < N→q < j→eG s.m a s.n i q=if i=q then 1 else 0:=by
  intro i q hi o;have u:=h.unit a q d o;have r:=h.unit s.n q b o;rw [if_neg (by omega)] at u r;unfold eG;by_cases z:i=a
  ·rw [if_pos z,r,if_neg (by omega)]
  ·by_cases D:i=s.n
   ·rw [if_neg z,if_pos D,u,if_neg (by omega)]
   ·rw [if_neg z,if_neg D];exact h.unit i q hi o
 intro i q hi o;dsimp only;generalize eG s.m a s.n=C at *
 have g:aM (C s.n j) (cK (C s.n j))=1:=rX E;unfold gC nA;by_cases A:q=j
 ·subst A;by_cases e:i=s.n
  ·simp only [if_pos e,g];rw [if_pos (by omega)]
  ·simp only [if_neg e,if_true,g,xG];rw [if_neg (by omega)];exact acl _
 ·have f:=t i q hi (by omega);have c:=t s.n q b (by omega);rw [if_neg (by omega)] at c;by_cases e:i=s.n
  ·simp only [if_pos e,c,vX];rw [if_neg (by omega)]
  ·simp only [if_neg e,if_true,c,vX,tB,uM];exact f
theorem afu {N:Nat} {M0:Mx} (b:∀ x,kern N M0 x→∀ q,q < N→x q=0):∀ j,j≤N→ah8 N j M0 (gsol N M0 jX j)
 | 0,_=>⟨rfl,fun i q _ h=>by omega,fun i q hi=>by
  show M0 i q=_;have d:gM N (fun t=>aM (jX i t) (M0 t q))=M0 i q:=by
   rw [acn (k:=i) N hi fun t _ a=>by unfold jX;rw [if_neg (fun e=>a e.symm),vX]];unfold jX;rw [if_pos rfl,qZ]
  exact d.symm,fun x c=>c⟩
 | j+1,h=>au1 (by omega) (afu b j (by omega)) b
theorem au2 {N:Nat} {M0:Mx} (c:∀ x,kern N M0 x→∀ q,q < N→x q=0):(gsol N M0 jX N).n=N∧∀ i q,i < N→q < N→(gM N fun t=>aM ((gsol N M0 jX N).b i t) (M0 t q))=if i=q then 1 else 0:=by
 have h:=afu c N (aza _);exact ⟨h.n,fun i q hi a=>by rw [←h.prod i q hi];exact h.unit i q hi a⟩
def uO (N j:Nat) (s:Nat×Mx):Nat×Mx :=
 let a:=dQ s.2 j (N - s.1) s.1
 if N≤a then s else
  let b:=eG s.2 a s.1
  (s.1+1,gC b s.1 (fun i=>aM (b i j) (cK (b s.1 j))))
def rsol (N:Nat) (x:Mx):Nat→Nat×Mx
 | 0=>(0,x)
 | j+1=>uO N j (rsol N x j)
structure ah9 (N:Nat) (s:GSt) (r:Nat×Mx):Prop where
 n:r.1=s.n
 rows:∃ f:Nat→UInt8,(∀ i,i < N→f i≠0)∧∀ i,i < N→∀ q,q < N→r.2 i q=aM (f i) (s.m i q)∧r.2 i (N+q)=aM (f i) (s.b i q)
theorem anR {N j:Nat} {m x:Mx} {f:Nat→UInt8} (e:j < N) (c:∀ i,i < N→f i≠0) (h:∀ i,i < N→x i j=aM (f i) (m i j)):∀ k a,a+k≤N→dQ x j k a=dQ m j k a
 | 0,_,_=>rfl
 | k+1,a,ha=>by
  unfold dQ;rw [anR e c h k (a+1) (by omega)];have d:=h a (by omega);by_cases b:m a j=0
  ·rw [if_neg (show ¬ x a j≠0 by rw [d,b,tB];simp),if_neg (show ¬ m a j≠0 by simp [b])]
  ·rw [if_pos (show x a j≠0 by rw [d];exact afq (c a (by omega)) b),if_pos b]
theorem au3 {N j:Nat} {s:GSt} {r:Nat×Mx} (z:j < N) (R:s.n≤N) (h:ah9 N s r):ah9 N (uN N j s) (uO N j r):=by
 obtain ⟨P,f,y,t⟩:=h;obtain ⟨T,x⟩:=r;simp only at P t;subst P;have C:dQ x j (N - s.n) s.n=dQ s.m j (N - s.n) s.n:=anR z y (fun i hi=>(t i hi j z).1) _ _ (by omega);have S:=aan s.m j (N - s.n) s.n;have F:=adD s.m j (N - s.n) s.n;unfold uN uO;simp only [C];generalize dQ s.m j (N - s.n) s.n=a at *
 by_cases A:N≤a
 ·rw [if_pos A,if_pos A];exact ⟨rfl,f,y,t⟩
 ·rw [if_neg A,if_neg A];have d:s.n < N:=by omega
  have v:a < N:=by omega
  have L:s.m a j≠0:=F (by omega)
  -- swapped
  have D:∃ g:Nat→UInt8,(∀ i,i < N→g i≠0)∧∀ i,i < N→∀ q,q < N→eG x a s.n i q=aM (g i) (eG s.m a s.n i q)∧eG x a s.n i (N+q)=aM (g i) (eG s.b a s.n i q):=by
   refine ⟨fun i=>if i=a then f s.n else if i=s.n then f a else f i,fun i hi => ?_,fun i hi q u => ?_⟩
   ·simp only;split
    ·exact y _ d
    ·split
     ·exact y _ v
     ·exact y _ hi
   ·unfold eG;by_cases G:i=a
    ·simp only [if_pos G];exact t _ d q u
    ·by_cases J:i=s.n
     ·simp only [if_neg G,if_pos J];exact t _ v q u
     ·simp only [if_neg G,if_neg J];exact t _ hi q u
  have o:eG s.m a s.n s.n j≠0:=by
   unfold eG;by_cases e:s.n=a
   ·rw [if_pos e,e];exact L
   ·rw [if_neg e,if_pos rfl];exact L
  obtain ⟨g,K,k⟩:=D;generalize eG x a s.n=O at *
  generalize eG s.m a s.n=c at *
  generalize eG s.b a s.n=B at *
  have l:=K _ d;have p:=rX o;have E:cK (O s.n j)=aM (cK (g s.n)) (cK (c s.n j)):=by
   have e:=(k _ d j z).1;have I:O s.n j≠0:=by rw [e];exact afq l o
   refine adC I ?_;rw [rX I,e];rw [show aM (aM (g s.n) (c s.n j)) (aM (cK (g s.n)) (cK (c s.n j)))=aM (aM (g s.n) (cK (g s.n))) (aM (c s.n j) (cK (c s.n j))) by ac_rfl,rX l,p,xG]
  refine ⟨rfl,fun i=>if i=s.n then aM (g s.n) (c s.n j) else g i,fun i hi => ?_,fun i hi q u => ?_⟩
  ·simp only;split
   ·exact afq l o
   ·exact K i hi
  ·obtain ⟨r1,r2⟩:=k i hi q u;obtain ⟨M,H⟩:=k _ d q u;obtain ⟨Q,_⟩:=k i hi j z;dsimp only;unfold gC nA;by_cases e:i=s.n
   ·subst e;simp only [if_true];rw [M,H];constructor
    ·rw [show aM (aM (g s.n) (c s.n j)) (aM (c s.n q) (cK (c s.n j)))=aM (aM (g s.n) (c s.n q)) (aM (c s.n j) (cK (c s.n j))) by ac_rfl,p,xG]
    ·rw [show aM (aM (g s.n) (c s.n j)) (aM (B s.n q) (cK (c s.n j)))=aM (aM (g s.n) (B s.n q)) (aM (c s.n j) (cK (c s.n j))) by ac_rfl,p,xG]
   ·simp only [if_neg e,if_true];rw [E,Q,r1,r2,M,H,vY,vY];have w:=rX l;constructor
    ·rw [show aM (aM (aM (g i) (c i j)) (aM (cK (g s.n)) (cK (c s.n j)))) (aM (g s.n) (c s.n q))=aM (aM (g s.n) (cK (g s.n))) (aM (g i) (aM (c i j) (aM (c s.n q) (cK (c s.n j))))) by ac_rfl,w,qZ]
    ·rw [show aM (aM (aM (g i) (c i j)) (aM (cK (g s.n)) (cK (c s.n j)))) (aM (g s.n) (B s.n q))=aM (aM (g s.n) (cK (g s.n))) (aM (g i) (aM (c i j) (aM (B s.n q) (cK (c s.n j))))) by ac_rfl,w,qZ]
theorem aia {N:Nat} (m b:Mx):∀ j,(gsol N m b j).n≤N
 | 0=>Nat.zero_le _
 | j+1=>by
  have a:=aia (N:=N) m b j;show (uN N j (gsol N m b j)).n≤N;have c:=aan (gsol N m b j).m j (N - (gsol N m b j).n) (gsol N m b j).n;unfold uN;simp only;split
  ·exact a
  ·show (gsol N m b j).n+1≤N;omega
def mD (N:Nat) (m:Mx):Mx:=fun i q=>if q < N then m i q else if q=N+i then 1 else 0
theorem aib {N:Nat} (m:Mx):∀ j,j≤N→ah9 N (gsol N m jX j) (rsol N (mD N m) j)
 | 0,_=>⟨rfl,fun _=>1,fun _ _=>(by decide:(1:UInt8)≠0),fun i hi q a=>by
  show mD N m i q=aM 1 (m i q)∧mD N m i (N+q)=aM 1 (jX i q);unfold mD jX;rw [qZ,qZ,if_pos a,if_neg (by omega)];refine ⟨rfl, ?_⟩;by_cases e:i=q
  ·rw [if_pos e,if_pos (by omega)]
  ·rw [if_neg e,if_neg (by omega)]⟩
 | j+1,h=>au3 (by omega) (aia m jX j) (aib m j (by omega))
theorem au4 {N:Nat} {M0:Mx} (k:∀ x,kern N M0 x→∀ q,q < N→x q=0):(rsol N (mD N M0) N).1=N∧∀ i q,i < N→q < N→aM ((rsol N (mD N M0) N).2 i (N+q)) (cK ((rsol N (mD N M0) N).2 i i))=(gsol N M0 jX N).b i q:=by
 have h:=afu k N (aza _);obtain ⟨j,f,e,c⟩:=aib M0 N (aza _);refine ⟨j.trans h.n,fun i q hi d => ?_⟩;have a:=(c i hi i hi).1;have g:=(c i hi q d).2;rw [h.unit i i hi hi,if_pos rfl,xG] at a;rw [a,g,show aM (aM (f i) ((gsol N M0 jX N).b i q)) (cK (f i))=aM (aM (f i) (cK (f i))) ((gsol N M0 jX N).b i q) by ac_rfl,rX (e i hi),qZ]
def fO (k a q:Nat):UInt8:=if a < k then (if a=q then 1 else 0) else cK (azQ a ^^^ azQ q)
theorem anS {α:Type} (f:α→UInt8):∀ (a b:List α),lO (a++b) f=lO a f ^^^ lO b f
 | [],b=>(acm _).symm
 | x::a,b=>by rw [List.cons_append,qC,qC,anS f a b];ac_rfl
theorem anT (f:Nat→UInt8):∀ n,gM n f=lO (aAp n) f
 | 0=>rfl
 | n+1=>by
  rw [aAW,anS,←anT f n];show gM n f ^^^ f n=gM n f ^^^ (f n ^^^ 0);rw [uM]
theorem anU {α:Type} (p:α→Bool) (f:α→UInt8):∀ (l:List α),(∀ a∈l,p a=false→f a=0)→lO l f=lO (l.filter p) f
 | [],_=>rfl
 | a::l,h=>by
  have c:=anU p f l fun b d=>h b (by simp [d])
  rw [aBM,qC];split
  ·rw [qC,c]
  ·rename_i e;rw [h a (by simp) (by simpa using e),acm,c]
theorem anV {α β:Type} (g:α→β) (f:β→UInt8):∀ l:List α,lO (l.map g) f=lO l fun a=>f (g a)
 | []=>rfl
 | a::l=>by rw [aAr,qC,qC,anV g f l]
theorem aic:∀ (l:List Nat),l.Nodup→(∀ a∈l,a < 256)→(l.map azQ).Nodup
 | [],_,_ => .nil
 | a::l,h,hb=>by
  rw [aBK] at h;rw [aAr,aBK];refine ⟨fun f => ?_,aic l h.2 fun b d=>hb b (by simp [d])⟩;obtain ⟨b,c,e⟩:=azp.1 f;have:=congrArg UInt8.toNat e;rw [mZ (hb b (by simp [c])),mZ (hb a (by simp))] at this;exact h.1 (this ▸ c)
theorem aid {α:Type} (p:α→Bool):∀ l:List α,(l.filter p).length+(l.filter fun a => !p a).length=l.length
 | []=>rfl
 | a::l=>by
  have:=aid p l;rw [aBM,aBM];cases h:p a <;> simp <;> omega
theorem mds {k:Nat} {at_:List Nat} (J:at_.length=k) (A:at_.Nodup) (v:∀ a∈at_,a < 256) {x:Nat→UInt8} (h:kern k (fun t q=>fO k (at_.getD t 0) q) x):∀ q,q < k→x q=0:=by
 have m:∀ a∈at_,gM k (fun q=>aM (fO k a q) (x q))=0:=by
  intro a c;obtain ⟨t,C⟩:=List.getElem?_of_mem c;have E:=(ay8.1 C).1;have:=h t (by omega);simp only [azs,C,Option.getD_some] at this;exact this
 have B:∀ q,q < k→q∈at_→x q=0:=by
  intro q d n;have:=m q n;rw [acn (k:=q) k d fun i _ y=>by unfold fO;rw [if_pos d,if_neg (fun e=>y e.symm),vX]] at this;unfold fO at this;rw [if_pos d,if_pos rfl,qZ] at this;exact this
 have l:((aAp k).filter fun q => !decide (q∈at_)).length=(at_.filter fun a => !decide (a < k)).length:=by
  have H:=aid (fun q=>decide (q∈at_)) (aAp k);have I:=aid (fun a=>decide (a < k)) at_;rw [aBN] at H;have:((aAp k).filter fun q=>decide (q∈at_)).length=(at_.filter fun a=>decide (a < k)).length:=by
   apply List.Perm.length_eq;rw [List.perm_ext_iff_of_nodup (aBO.filter _) (A.filter _)];intro a;simp only [aBP,aAz,decide_eq_true_eq];exact And.comm
  omega
 have f:∀ q,q < k→q < 256:=by
  intro q d;have:k≤256:=by
   have j:at_.length≤(aAp 256).length:=A.length_le_of_subset fun a c=>aAz.2 (v a c)
   rw [aBN] at j;omega
  omega
 have G:=anP (((aAp k).filter fun q => !decide (q∈at_)).map azQ) ((at_.filter fun a => !decide (a < k)).map azQ) (fun w=>x w.toNat) (by rw [List.length_map,List.length_map];exact l)
  (aic _ (aBO.filter _) fun a c=>f a (aAz.1 (aBP.1 c).1))
  (aic _ (A.filter _) fun a c=>v a (aBP.1 c).1)
  (fun z u w D e=>by
   obtain ⟨a,c,rfl⟩:=azp.1 u;obtain ⟨b,g,rfl⟩:=azp.1 D;rw [aBP] at c g;have s:=aAz.1 g.1;have:=congrArg UInt8.toNat e;rw [mZ (v a c.1),mZ (f b s)] at this;have o:=c.2;simp at o;omega)
  (fun z u=>by
   obtain ⟨a,c,rfl⟩:=azp.1 u;rw [aBP] at c;have p:¬ a < k:=by simpa using c.2
   rw [anV];have o:=m a c.1;rw [anT,anU (fun q => !decide (q∈at_)) _ _ fun q d F=>by rw [B q (aAz.1 d) (by simpa using F),tB]] at o;rw [←o];refine ah7 _ fun q d => ?_
   have r:=aAz.1 (aBP.1 d).1;unfold fO;rw [if_neg p,mZ (f q r)];exact qY _ _)
 intro q d;by_cases n:q∈at_
 ·exact B q d n
 ·have:=G (azQ q) (azp.2 ⟨q,aBP.2 ⟨aAz.2 d,by simp [n]⟩,rfl⟩);rw [mZ (f q d)] at this;exact this
def mP (N:Nat) (M0:Mx):Mx:=(gsol N M0 jX N).b
def afv (N:Nat) (M0:Mx):Prop:=∀ x,kern N M0 x→∀ q,q < N→x q=0
theorem au5 {N i:Nat} (hi:i < N) (x:Nat→UInt8):(gM N fun q=>aM (if i=q then 1 else 0) (x q))=x i:=by
 rw [acn (k:=i) N hi fun q _ a=>by rw [if_neg (fun e=>a e.symm),vX],if_pos rfl,qZ]
def lP (k:Nat) (at_:List Nat):Mx:=fun t q=>fO k (at_.getD t 0) q
theorem anW {k:Nat} {at_:List Nat} (d:at_.length=k) (c:at_.Nodup) (b:∀ a∈at_,a < 256):afv k (lP k at_):=fun x h=>mds d c b h
def lD (k:Nat) (at_:List Nat) (C:Mx):Mx:=fun i p=>gM k fun t=>aM (mP k (lP k at_) i t) (C (at_.getD t 0) p)
def gQ (k:Nat) (D:Mx):Mx:=fun i p=>gM k fun q=>aM (fO k i q) (D q p)
def aco (k:Nat) (at_:List Nat) (C:Mx):Mx:=gQ k (lD k at_ C)
theorem aie {k:Nat} (D:Mx) {i:Nat} (hi:i < k) (p:Nat):gQ k D i p=D i p:=by
 unfold gQ;rw [aam k fun q a=>by unfold fO;rw [if_pos hi],au5 hi]
end Go.Gf
set_option maxRecDepth 10000
namespace Go.Proofs.YtaekhhlgnbhnpaaGreat
open Go Go.Tw Go.Proofs Go.Gf
theorem anX {P:Program} {k:IntKind} {a:Int}:unE P .neg (.val (.int k a))=some (.val (.int k (k.wrap (-a)))):=by
 simp [unE,Op.unary,Op.intArith,cT,Pure.pure]
theorem acp (a b:UInt8):yD .u8 (a.toNat:Int) (b.toNat:Int)=((a ^^^ b).toNat:Int):=by
 rw [asg (jW a) (jW b),aBJ]
theorem aif (a b:UInt8):aQ ayU 300 [bA a,bA b] ⟨bA (a ^^^ b),[]⟩:=by
 refine aV Tryz.func300 aD (h:=?_);unfold Tryz.f300;simp only [↓pre,zab,uB,acp,simprocAttr,bA]
def twI (a:Int):Int:=yD .u8 (aBQ.wrap (a*2 ^ min 1 8)) (uA .u8 29 (aBQ.wrap (-(a / 2 ^ min 7 8))))
def anY:Bool:=(aAp 256).all fun a=>decide (twI (a:Int)=(xt a:Int)) && decide (xt a < 256)
theorem au6:anY=true:=by kernel_rfl
theorem anZ (a:UInt8):twI (a.toNat:Int)=(xt a.toNat:Int)∧xt a.toNat < 256:=by
 have h:=au6;unfold anY at h;rw [aAu] at h;have b:=h a.toNat (aAz.2 (jW a));simpa using b
def xtU (a:UInt8):UInt8:=azQ (xt a.toNat)
theorem aig (a:UInt8):(xtU a).toNat=xt a.toNat:=mZ (anZ a).2
theorem an0 (a:UInt8):aQ ayU 348 [bA a] ⟨bA (xtU a),[]⟩:=by
 have h:=(anZ a).1;unfold twI at h;have b:((xtU a).toNat:Int)=(xt a.toNat:Int):=by rw [aig]
 refine aV Tryz.func348 aD (h:=?_);unfold Tryz.f348;simp only [↓pre,zab,uB,cO,anX,simprocAttr,bA,aAS,h,b]
def stI (c a b:Int):Int:=yD .u8 c (uA .u8 a (aBQ.wrap (-(uA .u8 b 1))))
theorem afw (a b:UInt8):uA .u8 (a.toNat:Int) (b.toNat:Int)=((a &&& b).toNat:Int):=by
 have h:(a &&& b).toNat < 256:=jW _;rw [aBR] at h;unfold uA;rw [wV,wV,BitVec.toNat_and,aAY,aAY,aBR];simp only [aAS];have d:=jW a;have c:=jW b;rw [aAZ (by omega),aAZ (by omega)];simp [aAR,aAS,aAT];omega
theorem au7 (c a b:UInt8):stI (c.toNat:Int) (a.toNat:Int) (b.toNat:Int)=((if b.toNat % 2=1 then c ^^^ a else c).toNat:Int):=by
 unfold stI;have f:uA .u8 (b.toNat:Int) 1=((b.toNat % 2:Nat):Int):=by
  have:=afw b 1;rw [show ((1:UInt8).toNat:Int)=1 from rfl] at this;rw [this,aBR];show ((b.toNat &&& 1:Nat):Int)=_;rw [Nat.and_one_is_mod]
 rw [f];by_cases h:b.toNat % 2=1
 ·rw [if_pos h,h];have d:aBQ.wrap (-((1:Nat):Int))=((255:UInt8).toNat:Int):=by decide
  rw [d,afw,acp];have:a &&& 255=a:=by
   apply aBf.1;rw [aBR];have:=jW a;show a.toNat &&& 255=a.toNat;have e:=Nat.and_two_pow_sub_one_eq_mod a.toNat 8;rw [show (2 ^ 8 - 1:Nat)=255 from rfl] at e;rw [e];omega
  rw [this]
 ·rw [if_neg h,show b.toNat % 2=0 by omega];have d:aBQ.wrap (-((0:Nat):Int))=((0:UInt8).toNat:Int):=by decide
  rw [d,afw,acp];have:a &&& 0=0:=by
   apply aBf.1;rw [aBR];show a.toNat &&& 0=0;exact Nat.and_zero _
  rw [this,uM]
def hfU (b:UInt8):UInt8:=azQ (b.toNat / 2)
theorem aih (b:UInt8):(hfU b).toNat=b.toNat / 2:=mZ (by have:=jW b;omega)
theorem aii:∀ (n a:Nat),gm n a 0=0
 | 0,_=>by unfold gm;rfl
 | n+1,a=>by unfold gm;rw [if_neg (by decide),Nat.zero_div,aii n,Nat.xor_self]
theorem aij (a b:UInt8):aQ ayU 330 [bA a,bA b] ⟨bA (aM a b),[]⟩:=by
 have n:=an0;have d:=au7;unfold stI at d;refine aV Tryz.func330 aD (h:=?_);unfold Tryz.f330;simp only [↓pre,simprocAttr,sx];rw [bS];refine bU (fun q e m=>∃ x y z:UInt8,y.toNat < 2 ^ q∧e 0=bA x∧e 1=bA y∧e 5=bA z∧aA (z.toNat ^^^ gm q x.toNat y.toNat=(aM a b).toNat)) 8 ⟨a,b,0,jW b,rfl,rfl,rfl,⟨?_⟩⟩ ?_
 ·rw [uL];exact aBI _
 rintro q e m ⟨x,y,z,f,o,g,j,l⟩;by_cases i:y=0
 ·subst i;have r:z=aM a b:=by
   apply aBf.1;have:=l.out;rw [show (0:UInt8).toNat=0 from rfl,aii,Nat.xor_zero] at this;exact this
  rw [←r];simp only [↓pre,zab,Int.natCast_zero,simprocAttr,g,j,bA,show (0:UInt8).toNat=0 from rfl,eq_self]
 ·have c:¬ ((y.toNat:Nat):Int)=0:=fun h=>i (aBf.1 (by show y.toNat=0;omega))
  have t:q≠0:=fun e=>by subst e;exact c (by simp at f;omega)
  obtain ⟨p,rfl⟩:∃ p,q=p+1:=⟨q - 1,by omega⟩
  have hs:=d z x y;have s:((y.toNat:Nat):Int) / 2 ^ min 1 8=((hfU y).toNat:Int):=by rw [aih];simp
  replace f:=aA.mk f;simp only [↓pre,zab,uB,anX,simprocAttr,o,g,j,bA,c,hs]
  (first | refine aI (n x) (by first | rfl | simp only [aC,aE, *]) ?_ | refine aH (n x) (by first | rfl | simp only [aC,aE, *]) (by intro k;first | rfl | simp only [ *,zaa]) ?_);simp only [↓pre,zab,cO,simprocAttr,g,bA,aAS,s]
  refine ⟨p,by omega,xtU x,hfU y,(if y.toNat % 2=1 then z ^^^ x else z), ?_,rfl,rfl,rfl,⟨?_⟩⟩
  ·have:=f.out;rw [aih];rw [Nat.pow_succ] at this;omega
  ·have:=l.out;unfold gm at this;rw [aih,aig,←this];by_cases h:y.toNat % 2=1
   ·rw [if_pos h,if_pos h,aBJ,Nat.xor_assoc]
   ·rw [if_neg h,if_neg h,aBI]
def gZ (f:Nat→Nat):List AV:=(aAp 256).map fun j => .val (.int .u8 (f j:Int))
theorem aa6 (f:Nat→Nat):(gZ f).length=256:=by simp [gZ]
theorem acq (f:Nat→Nat) {j:Nat} (h:j < 256):(gZ f)[j]? = some (.val (.int .u8 (f j:Int))):=by
 unfold gZ;rw [azo,aBS h];rfl
theorem an1 {f g:Nat→Nat} {i:Nat} (hi:i < 256) (d:∀ j,j < 256→g j=if j=i then g i else f j):cH (gZ f) i [.val (.int .u8 (g i:Int))]=gZ g:=by
 have c:=aa6 f;unfold cH;apply aAi;intro j;by_cases a:j < 256
 ·rw [acq g a,azW];have b:((gZ f).take i).length=i:=by rw [aBT,c];omega
  by_cases h:j < i
  ·rw [azg (by omega),aBU h,acq f a,d j a,if_neg (by omega)]
  ·rw [azh (by omega),b];by_cases e:j=i
   ·subst e;rw [azc];rfl
   ·rw [azh (by simp;omega),aAv];simp only [zak];rw [show i+(0+1)+(j - i - (0+1))=j by omega,acq f a,d j a,if_neg e]
 ·rw [ay6 (by simp [c];omega),ay6 (by rw [aa6];omega)]
def mE (n j:Nat):Nat:=if j < n then gE j else 0
def nB (n v:Nat):Nat:=if v≠0∧gL v < n then gL v else 0
theorem au8 {n:Nat} (b:n < 256):cH (gZ (mE n)) n [.val (.int .u8 (gE n:Int))]=gZ (mE (n+1)):=by
 have h:=an1 (f:=mE n) (g:=mE (n+1)) b fun j c=>by
  unfold mE;by_cases h:j=n
  ·rw [if_pos h,h]
  ·rw [if_neg h];by_cases a:j < n
   ·rw [if_pos a,if_pos (by omega)]
   ·rw [if_neg a,if_neg (by omega)]
 rw [show mE (n+1) n=gE n by unfold mE;rw [if_pos (by omega)]] at h;exact h
theorem au9 {n:Nat} (j:n < 255):cH (gZ (nB n)) (gE n) [.val (.int .u8 (n:Int))]=gZ (nB (n+1)):=by
 obtain ⟨i,d,c⟩:=yQ j;have h:=an1 (f:=nB n) (g:=nB (n+1)) c fun v k=>by
  unfold nB;by_cases h:v=gE n
  ·rw [if_pos h,h]
  ·rw [if_neg h];by_cases a:v=0
   ·rw [if_neg (by simp [a]),if_neg (by simp [a])]
   ·have:=afo k a;have l:gL v≠n:=fun e=>h (by rw [←this.1,e])
    by_cases b:gL v < n
    ·rw [if_pos ⟨a,by omega⟩,if_pos ⟨a,b⟩]
    ·rw [if_neg (fun h=>by omega),if_neg (fun h=>b h.2)]
 rw [show nB (n+1) (gE n)=n by unfold nB;rw [i,if_pos ⟨d,by omega⟩]] at h;exact h
def an2:Bool:=(aAp 255).all fun n=>xt (gE n) == gE ((n+1) % 255)
theorem ava:an2=true:=by kernel_rfl
def eU (n:Nat):UInt8:=azQ (gE (n % 255))
theorem aik (n:Nat):(eU n).toNat=gE (n % 255):=mZ (yQ (azt _ (by decide))).2.2
theorem avb {n:Nat} (h:n < 255):xtU (eU n)=eU (n+1):=by
 apply aBf.1;rw [aig,aik,aik,aAZ h];have a:=ava;unfold an2 at a;rw [aAu] at a;exact eq_of_beq (a n (aAz.2 h))
theorem acr {m:aF} {b:Nat} {k:eZ} (h:m.at_ b=some k):m.put b (some k)=m:=by
 obtain ⟨n,a,mm⟩:=m;unfold aF.put;congr 1;funext j;simp only;split
 ·rename_i e;rw [e];exact h.symm
 ·rfl
def adE:Nat→Bool:=fun d=>d != 0 && d != 1 && d != 17 && d != 18
theorem avc (m:aF):bD ayU false m 338=some ⟨.ptr m.next 0,m.push ⟨gZ (fun _=>0),338,.var,true⟩,none⟩:=by kernel_rfl
theorem avd:aQ ayU 347 [] ⟨.tup [.agg (gZ (mE 255)),.agg (gZ (nB 255))],[]⟩:=by
 have S:=an0;have N:(fun _=>0)=mE 0:=by funext j;simp [mE]
 have Q:(fun _=>0)=nB 0:=by funext j;simp [nB]
 refine aV Tryz.func347 adE (h:=?_);unfold Tryz.f347;simp only [↓pre,za,adE,avc,simprocAttr,bne];rw [bS];refine bU (fun q e m=>∃ n,q+n=255∧e 0 = .ptr 0 0∧e 1 = .ptr 1 0∧e 2=bA (eU n)∧e 4=aB (n:Nat)∧m.at_ 0=some ⟨gZ (mE n),338,.var,true⟩∧m.at_ 1=some ⟨gZ (nB n),338,.var,true⟩) 255 ⟨0,rfl,rfl,rfl,rfl,rfl,by rw [←N];rfl,by rw [←Q];rfl⟩ ?_;rintro q e m ⟨n,u,F,J,L,G,o,p⟩;replace u:=aA.mk u;have t:=aa6 (mE n);have s:=aa6 (nB n);by_cases d:n < 255
 ·have g:((n:Nat):Int) < 255:=by omega
  have w1:=cB (n:=n) (by omega);have r:((eU n).toNat:Int)=(gE n:Int):=by rw [aik,aAZ d]
  have v:=(yQ d).2.2;have I:=au8 (n:=n) (by omega);have y:=au9 d;unfold cH at I y;simp only [zak,azq] at I y;have E:n≤255:=by omega
  have z:gE n≤255:=by omega
  have l:n < 256:=by omega
  have O:aBQ.wrap ((n:Nat):Int)=((n:Nat):Int):=by simp [aAR,aAS,aAT];omega
  have i:=avb d;have a:=S (eU n);rw [i] at a;simp only [bA,r] at a L;replace i:=aA.mk i;replace r:=aA.mk r;simp only [↓pre,zaj,amT,adE,cO,simprocAttr,bne,aS,F,J,L,G,o,p,t,s,g,l,v,E,z,I,y,O]
  (first | refine aI (a) (by first | rfl | simp only [aC,aE, *]) ?_ | refine aH (a) (by first | rfl | simp only [aC,aE, *]) (by intro k;first | rfl | simp only [ *,zaa]) ?_);simp only [↓pre,za,adE,simprocAttr,bne,F,J,G,w1,bA]
  exact ⟨q - 1,by have:=u.out;omega,n+1,by have:=u.out;omega,rfl,rfl,rfl,rfl⟩
 ·have g:¬ ((n:Nat):Int) < 255:=by omega
  have R:n=255:=by have:=u.out;omega
  subst R;have C:(gZ (mE 255)).take 256=gZ (mE 255):=aBa (by omega);have w:(gZ (nB 255)).take 256=gZ (nB 255):=aBa (by omega);have K:(gZ (mE 255)).drop 256=[]:=aBV (by omega);have B:(gZ (nB 255)).drop 256=[]:=aBV (by omega);have b:∀ f,∀ c∈gZ f,zV ayU c:=fun f c M=>by
   unfold gZ at M;obtain ⟨j,_,rfl⟩:=azp.1 M;exact aev _
  have H:=fun m=>aew (P:=ayU) m 3 [] [] _ (b (mE 255))
  have A:=fun m=>aew (P:=ayU) m 3 [] [] _ (b (nB 255))
  replace b:=aA.mk b;have D:=acr o;have x:=acr p;simp only [↓pre,zad,amT,adE,simprocAttr,bne,aS,F,J,G,o,p,t,s,C,K,w,B,D,x,H,A]
theorem an3 {m:aF}:∀ (cs:List AV),(∀ c∈cs,∃ v,c = .val v)→fzs m cs=some (cs,m)
 | [],_=>by unfold fzs;rfl
 | c::cs,h=>by
  obtain ⟨v,rfl⟩:=h c (by simp);have b:=an3 (m:=m) cs fun x a=>h x (by simp [a])
  unfold fzs fz;simp [b]
theorem ave (m:aF):bD ayU true m 338=some ⟨.ptr m.next 0,m.push ⟨gZ (fun _=>0),338,.hole,true⟩,none⟩:=by kernel_rfl
theorem avf (a:UInt8):aQ ayU 329 [bA a,aB (-1)] ⟨.tup [bA (if a=0 then 0 else cK a),aB (if a=0 then 10 else 0)],[]⟩:=by
 have H:=avd;by_cases s:a=0
 ·subst s;rw [if_pos rfl,if_pos rfl];refine aV Tryz.func329 aD (h:=?_);unfold Tryz.f329;simp only [↓pre,post,↓reduceIte,aBW,reduceCtorEq,sb,bZ,cZ,aB,jB,canon,fN,bA,show (0:UInt8).toNat=0 from rfl,Int.natCast_zero,eq_self,wT,Int.reduceNeg,Int.reduceLT]
 ·rw [if_neg s,if_neg s];have G:a.toNat≠0:=fun h=>s (aBf.1 h)
  have C:¬ ((a.toNat:Nat):Int)=0:=by omega
  have d:=jW a;obtain ⟨E,M⟩:=afo d G;have D:(gZ (nB 255))[a.toNat]? = some (.val (.int .u8 (gL a.toNat:Int))):=by
   rw [acq _ d];unfold nB;rw [if_pos ⟨G,M⟩]
  have e:((cK a).toNat:Int)=(gE ((255 - gL a.toNat) % 255):Int):=by
   unfold cK;rw [mZ (ah3 _)];rfl
  have r:Int.tmod (-1) 255 = -1:=by decide
  have p:azy.wrap ((gL a.toNat:Nat):Int)=((gL a.toNat:Nat):Int):=dO (by omega);have v:azy.wrap (((gL a.toNat:Nat):Int) * -1) = -((gL a.toNat:Nat):Int):=by
   rw [show ((gL a.toNat:Nat):Int) * -1 = -((gL a.toNat:Nat):Int) by omega];exact gB (by omega) (by omega)
  have i:Int.tmod (-((gL a.toNat:Nat):Int)) 255 = -((gL a.toNat:Nat):Int):=by
   rw [Int.neg_tmod,Int.tmod_eq_of_lt (by omega) (by omega)]
  generalize cK a=N at *
  generalize F:gL a.toNat=L at *
  replace F:=aA.mk F;replace E:=aA.mk E;have g:(255:Int)≠0:=by decide
  have x:=aa6 (mE 255);have u:=aa6 (nB 255);have y:aF.empty.next=0:=rfl;have B:∀ (f:Nat→Nat) (k:Nat),gT k (gZ f)=gZ f:=fun f k=>by
   have key:∀ l:List Nat,gT k (l.map fun j=>AV.val (.int .u8 (f j:Int)))=l.map fun j=>AV.val (.int .u8 (f j:Int)):=by
    intro l
    induction l with
    | nil=>unfold gT;rfl
    | cons a l I=>rw [aAr];unfold gT;rw [I];rfl
   exact key _
  have z:=aa6 (fun _=>0);have w:∀ (f:Nat→Nat) (m:aF),fzs m (gZ f)=some (gZ f,m):=fun f m=>an3 _ fun c p=>by
   unfold gZ at p;obtain ⟨j,_,rfl⟩:=azp.1 p;exact ⟨_,rfl⟩
  refine aV Tryz.func329 aD (h:=?_);unfold Tryz.f329;simp only [↓pre,post,↓reduceIte,aBW,reduceCtorEq,sb,bZ,cZ,aB,jB,aD,bA,eq_self,C,vL,gH]
  (first | refine aI (H) (by first | rfl | simp only [cP,plain,aC,aB,aZ,aAI,aAx, *]) ?_ | refine aH (H) (by first | rfl | simp only [cP,plain,aC,aB,aZ,aAI,aAx, *]) (by intro k;first | rfl | simp only [shift,gT,aB,aZ, *]) ?_);simp only [↓pre,↓reduceIte,aBW,reduceCtorEq,Nat.reduceLT,sb,bZ,cZ,xS,cH,AV.cells,gD,zG,shift,gT,eB,gN,ahC,aD,aG,bH,ave,aS,eq_self,azG,x,u,z,w,B,y]
  by_cases A:L=0
  ·subst A;have t:¬ -(((0:Nat):Nat):Int) < 0:=by omega
   have n:(gZ (mE 255))[0]? = some (.val (.int .u8 ((1:Nat):Int))):=by
    rw [acq _ (by decide)];have:mE 255 0=1:=by kernel_rfl
    rw [this]
   have K:gE ((255 - 0) % 255)=1:=by kernel_rfl
   rw [K] at e;rw [e];have J : -(((0:Nat):Nat):Int)=0:=by decide
   rw [J] at v i t;simp only [↓pre,post,↓reduceIte,aBW,Nat.reduceLT,sb,aes,bZ,cZ,mH,qM,canon,fN,ahC,aD,aG,bH,cO,eq_self,azG,gH,d,D,p,v,r,i,g,t,n]
  ·have t : -((L:Nat):Int) < 0:=by omega
   have o:azy.wrap (-((L:Nat):Int)+255)=((255 - L:Nat):Int):=by
    rw [show -((L:Nat):Int)+255=((255 - L:Nat):Int) by omega];exact dO (by omega)
   have b:(255 - L) % 255=255 - L:=aAZ (by omega);have q:255 - L < 256:=by omega
   have n:(gZ (mE 255))[255 - L]? = some (.val (.int .u8 (gE (255 - L):Int))):=by
    rw [acq _ q];unfold mE;rw [if_pos (by omega)]
   rw [b] at e;rw [e];replace b:=aA.mk b;simp only [↓pre,post,↓reduceIte,aBW,sb,aes,bZ,cZ,mH,qM,canon,fN,ahC,aD,aG,bH,cO,eq_self,azG,jP,d,D,p,v,r,i,g,t,n,o,q]
theorem an4 (a:UInt8):aQ ayU 299 [bA a] ⟨.tup [bA (if a=0 then 0 else cK a),aB (if a=0 then 10 else 0)],[]⟩:=by
 have h:=avf a;generalize (if a=0 then 0 else cK a)=x at *
 generalize (if a=0 then (10:Int) else 0)=y at *
 refine aV Tryz.func299 aD (h:=?_);unfold Tryz.f299;simp only [↓pre,post,↓reduceIte,reduceCtorEq,sb,bZ,aB,jB,aD,bA]
 (first | refine aI (h) (by first | rfl | simp only [cP,plain,aC,aB,aZ,aAI,aAx, *]) ?_ | refine aH (h) (by first | rfl | simp only [cP,plain,aC,aB,aZ,aAI,aAx, *]) (by intro k;first | rfl | simp only [shift,gT,aB,aZ, *]) ?_);simp only [↓pre,↓reduceIte,aBW,sb,bZ,cZ,aB,xS,canon,fN,shift,gT,eB,gN,bA]
def tab (w:Nat) (f:Nat→UInt8):List UInt8:=(aAp w).map f
theorem pA (w:Nat) (f:Nat→UInt8):(tab w f).length=w:=by simp [tab]
theorem an5 {w:Nat} (f:Nat→UInt8) {j:Nat} (h:j < w):(tab w f)[j]? = some (f j):=by
 unfold tab;rw [azo,aBS h];rfl
theorem avg {w:Nat} {f g:Nat→UInt8} (h:∀ j,j < w→f j=g j):tab w f=tab w g:=by
 unfold tab;apply aAw;intro j a;exact h j (aAz.1 a)
def aR (w:Nat) (f:Nat→UInt8):List AV:=(tab w f).map bA
theorem fW (w:Nat) (f:Nat→UInt8):(aR w f).length=w:=by simp [aR,pA]
theorem jE {w:Nat} (f:Nat→UInt8) {j:Nat} (h:j < w):(aR w f)[j]? = some (bA (f j)):=by
 unfold aR;rw [azo,an5 f h];rfl
theorem rY {w:Nat} {f g:Nat→UInt8} (h:∀ j,j < w→f j=g j):aR w f=aR w g:=by unfold aR;rw [avg h]
theorem aao {w:Nat} {f g:Nat→UInt8} {i:Nat} (hi:i < w) (d:∀ j,j < w→g j=if j=i then g i else f j):cH (aR w f) i [bA (g i)]=aR w g:=by
 have c:=fW w f;unfold cH;apply aAi;intro j;by_cases a:j < w
 ·rw [jE g a,azW];have b:((aR w f).take i).length=i:=by rw [aBT,c];omega
  by_cases h:j < i
  ·rw [azg (by omega),aBU h,jE f a,d j a,if_neg (by omega)]
  ·rw [azh (by omega),b];by_cases e:j=i
   ·subst e;rw [azc];rfl
   ·rw [azh (by simp;omega),aAv];simp only [zak];rw [show i+(0+1)+(j - i - (0+1))=j by omega,jE f a,d j a,if_neg e]
 ·rw [ay6 (by simp [c];omega),ay6 (by rw [fW];omega)]
structure qD (v:AV) (n w:Nat) (M:Mx) (cells:List AV):Prop where
 rd:aT v n cells
 at_:∀ i,i < n→∃ a x,cells[i]? = some a∧aT a w (aR w (M i)++x)
structure aap (v:AV) (L:List (List UInt8)) (cells:List AV):Prop where
 rd:aT v L.length cells
 at_:∀ (i:Nat) (b:List UInt8),L[i]? = some b→∃ a x,cells[i]? = some a∧aT a b.length (b.map bA++x)
theorem qD.rows {v:AV} {n w:Nat} {M:Mx} {cells:List AV} (h:qD v n w M cells):aap v ((aAp n).map fun i=>tab w (M i)) cells:=by
 refine ⟨by simpa using h.rd,fun i b c => ?_⟩;have hi:i < n:=by have:=(ay8.1 c).1;simpa using this
 rw [azo,aBS hi] at c;cases c;obtain ⟨a,x,e,d⟩:=h.at_ i hi;exact ⟨a,x,e,by rw [pA];exact d⟩
theorem avh (v:AV) (n w:Nat) (M:Mx) (cells:List AV) (c:qD v n w M cells) (H:1≤n) (u:n≤32) (D:1≤w) (C:w≤32):aQ ayU 325 [v] ⟨aB 0,[]⟩:=by
 have E:=c.rd.plain;have t:¬ ((n:Nat):Int) < 1:=by omega
 have A:¬ (32:Int) < ((n:Nat):Int):=by omega
 have y:¬ ((w:Nat):Int) < 1:=by omega
 have s:¬ (32:Int) < ((w:Nat):Int):=by omega
 have l:0 < n:=by omega
 obtain ⟨G,F,p,o⟩:=c.at_ 0 (by omega);refine aV Tryz.func325 aD (h:=?_);unfold Tryz.f325;simp only [↓pre,zae,amO,simprocAttr,c.rd.len',t,A];rw [bS];refine bU (fun q e m=>∃ i,q+i=n∧e 0=v∧e 13=v∧e 14=aB (n:Nat)∧e 15=aB (i:Nat)) n ⟨0,by omega,rfl,rfl,rfl,rfl⟩ ?_;rintro q e m ⟨i,j,B,k,d,g⟩;replace j:=aA.mk j;by_cases f:i < n
 ·have b:((i:Nat):Int) < ((n:Nat):Int):=by omega
  have w1:=cB (n:=i) (by omega);obtain ⟨a,x,z,r⟩:=c.at_ i f;simp only [↓pre,zae,amO,simprocAttr,B,k,d,g,c.rd.addr',f,b,z,r.len',l,p,o.len',y,s,w1];exact ⟨q - 1,by have:=j.out;omega,i+1,by have:=j.out;omega,rfl⟩
 ·have b:¬ ((i:Nat):Int) < ((n:Nat):Int):=by omega
  simp only [↓pre,zac,simprocAttr,d,g,b]
theorem aaq {n:Nat} (h:n < 256):aBQ.wrap ((n:Nat):Int)=((azQ n).toNat:Int):=by
 rw [mZ h];simp [aAR,aAS,aAT];omega
theorem avi (i j:Nat):aQ ayU 297 [aB (i:Nat),aB (j:Nat)] ⟨bA (jX i j),[]⟩:=by
 unfold jX;by_cases h:i=j
 ·have a:((i:Nat):Int)=((j:Nat):Int):=by omega
  rw [if_pos h];refine aV Tryz.func297 aD (h:=?_);unfold Tryz.f297;simp only [↓pre,zab,simprocAttr,a];rfl
 ·have a:¬ ((i:Nat):Int)=((j:Nat):Int):=by omega
  rw [if_neg h];refine aV Tryz.func297 aD (h:=?_);unfold Tryz.f297;simp only [↓pre,zab,simprocAttr,a];rfl
def iD (k:Nat):Mx:=fun i j=>fO k (k+i) j
theorem avj (k i j:Nat) (f:k+i < 256) (m:j < k):aQ ayU 298 [aB (i:Nat),aB (j:Nat),.tptr 0 [aB (k:Nat)]] ⟨bA (iD k i j),[]⟩:=by
 have c:=aif (azQ (k+i)) (azQ j);have b:=an4 (azQ (k+i) ^^^ azQ j);have a:azQ (k+i) ^^^ azQ j≠0:=xH fun e=>by
  have:=congrArg UInt8.toNat e;rw [mZ f,mZ (by omega)] at this;omega
 rw [if_neg a,if_neg a] at b;have d:iD k i j=cK (azQ (k+i) ^^^ azQ j):=by unfold iD fO;rw [if_neg (by omega)]
 rw [d];have w1:=aaq f;have l:=aaq (n:=j) (by omega);have g:azy.wrap (((k:Nat):Int)+((i:Nat):Int))=((k+i:Nat):Int):=by rw [←aBX];exact dO (by omega)
 replace a:=aA.mk a;replace d:=aA.mk d;generalize azQ (k+i)=x at *
 generalize azQ j=y at *
 simp only [bA] at c b;refine aV Tryz.func298 aD (h:=?_);unfold Tryz.f298;simp only [↓pre,zab,as8,cO,simprocAttr,g,w1,l,bA]
 (first | refine aI (c) (by first | rfl | simp only [aC,aE, *]) ?_ | refine aH (c) (by first | rfl | simp only [aC,aE, *]) (by intro k;first | rfl | simp only [ *,zaa]) ?_);simp only [↓pre,zab,simprocAttr];(first | refine aI (b) (by first | rfl | simp only [aC,aE, *]) ?_ | refine aH (b) (by first | rfl | simp only [aC,aE, *]) (by intro k;first | rfl | simp only [ *,zaa]) ?_);simp only [↓pre,zab,simprocAttr]
structure dC (m:aF) (b n w t:Nat) (fl:Bool) (β:Nat→Nat) (M:Mx):Prop where
 row:∃ cells,m.at_ b=some ⟨cells,52,.var,true⟩∧cells.length=n∧∀ i,i < t→cells[i]? = some (.sl (β i) 0 w w fl)
 lt:b < m.next
 own:∀ i,i < t→β i < m.next∧m.at_ (β i)=some ⟨aR w (M i),5,.flat,true⟩
 inj:∀ i j,i < t→j < t→β i=β j→i=j
theorem dC.ne {m:aF} {b n w t:Nat} {c:Bool} {β:Nat→Nat} {M:Mx} (h:dC m b n w t c β M) {i:Nat} (hi:i < t):β i≠b:=by
 intro e;obtain ⟨cells,a,_⟩:=h.row;have:=(h.own i hi).2;rw [e,a] at this;simp at this
theorem dC.congr {m:aF} {b n w t:Nat} {c:Bool} {β:Nat→Nat} {M a:Mx} (h:dC m b n w t c β M) (d:∀ i,i < t→∀ j,j < w→M i j=a i j):dC m b n w t c β a :=
 ⟨h.row,h.lt,fun i hi=>by rw [←rY (d i hi)];exact h.own i hi,h.inj⟩
theorem dC.keep {m m':aF} {b n w t:Nat} {d:Bool} {β:Nat→Nat} {M:Mx} (h:dC m b n w t d β M) (e:m.next≤m'.next) (f:∀ j k,m.at_ j=some k→j < m.next→(j=b∨∃ i,i < t∧j=β i)→m'.at_ j=some k):dC m' b n w t d β M:=by
 obtain ⟨cells,o,g,a⟩:=h.row;refine ⟨⟨cells,f b _ o h.lt (.inl rfl),g,a⟩,azd h.lt e,fun i hi => ?_,h.inj⟩;obtain ⟨c,l⟩:=h.own i hi;exact ⟨azd c e,f _ _ l c (.inr ⟨i,hi,rfl⟩)⟩
theorem dC.put_row {m:aF} {b n w t:Nat} {k:Bool} {β:Nat→Nat} {M:Mx} (h:dC m b n w t k β M) {i:Nat} (hi:i < t) (g:Nat→UInt8):dC (m.put (β i) (some ⟨aR w g,5,.flat,true⟩)) b n w t k β (fun f=>if f=i then g else M f):=by
 obtain ⟨cells,o,l,c⟩:=h.row;have d:=h.ne hi;refine ⟨⟨cells,by rw [cI,if_neg (fun e=>d e.symm)];exact o,l,c⟩,h.lt,fun j a=>⟨(h.own j a).1, ?_⟩,h.inj⟩;rw [cI];by_cases e:j=i
 ·subst e;rw [if_pos rfl];simp only [if_true]
 ·rw [if_neg (fun p=>e (h.inj j i a hi p))];simp only [if_neg e];exact (h.own j a).2
theorem dC.add_row {m:aF} {b n w t:Nat} {d:Bool} {β:Nat→Nat} {M:Mx} (h:dC m b n w t d β M) (y:t < n) {cells:List AV} (s:m.at_ b=some ⟨cells,52,.var,true⟩) (g:Nat→UInt8) :
 dC ((m.push ⟨aR w g,5,.flat,true⟩).put b (some ⟨cH cells t [.sl m.next 0 w w d],52,.var,true⟩)) b n w (t+1) d (fun i=>if i=t then m.next else β i) (fun i=>if i=t then g else M i):=by
 obtain ⟨a,c,u,o⟩:=h.row;rw [s] at c;obtain rfl:cells=a:=by simpa using c
 have r:=h.lt;have f:(cH cells t [.sl m.next 0 w w d]).length=n:=by
  unfold cH;simp only [aA2,zak,aBT,List.length_drop];omega
 refine ⟨⟨_,by rw [cI,if_pos rfl],f,fun i hi => ?_⟩,by rw [fC,cQ];omega,fun i hi => ?_,fun i j hi v e => ?_⟩
 ·unfold cH;have l:(cells.take t).length=t:=by rw [aBT];omega
  by_cases e:i=t
  ·subst e;rw [azW,azh (by omega),l,azc];simp
  ·rw [azW,azg (by omega),aBU (by omega),o i (by omega)];simp [e]
 ·by_cases e:i=t
  ·simp only [if_pos e];exact ⟨by rw [fC,cQ];omega,by rw [cI,if_neg (by omega),cF,if_pos rfl]⟩
  ·simp only [if_neg e];obtain ⟨x,q⟩:=h.own i (by omega);refine ⟨by rw [fC,cQ];omega, ?_⟩;rw [cI,if_neg (h.ne (by omega)),cF,if_neg (by omega)];exact q
 ·by_cases k:i=t <;> by_cases p:j=t
  ·omega
  ·simp only [if_pos k,if_neg p] at e;have:=(h.own j (by omega)).1;omega
  ·simp only [if_neg k,if_pos p] at e;have:=(h.own i (by omega)).1;omega
  ·simp only [if_neg k,if_neg p] at e;exact h.inj i j (by omega) (by omega) e
def nC (a:Bool) (n w:Nat) (M:Mx):List AV:=(aAp n).map fun i => .tree w w (aR w (M i)) a
theorem avk (a:Bool) (n w:Nat) (M:Mx):(nC a n w M).length=n:=by simp [nC]
theorem aa7 (a:Bool) {n w i:Nat} (M:Mx) (h:i < n):(nC a n w M)[i]? = some (.tree w w (aR w (M i)) a):=by
 unfold nC;rw [azo,aBS h];rfl
theorem afx (f a:Bool) (n w:Nat) (M:Mx):qD (.tree n n (nC a n w M) f) n w M (nC a n w M) :=
 ⟨⟨.inr (.inr ⟨n,f,rfl,aza _⟩)⟩,fun i hi=>⟨_,[],aa7 a M hi,⟨.inr (.inr ⟨w,a,by rw [aBl],aza _⟩)⟩⟩⟩
theorem an6 {k:Nat} {m:aF}:∀ (cs a:List AV),cs.length=a.length→(∀ (i:Nat) (c b:AV),cs[i]? = some c→a[i]? = some b→fzT k m c=some b)→nQ k m cs=some a
 | [],[],_,_=>jI
 | c::cs,b::a,hl,h=>by
  rw [eC,h 0 c b rfl rfl,aAk,an6 cs a (by simpa using hl) fun i x e f d=>h (i+1) x e (by simpa using f) (by simpa using d)];rfl
 | [],_::_,hl,_=>by simp at hl
 | _::_,[],hl,_=>by simp at hl
theorem dC.fzT {m:aF} {b n w:Nat} {d:Bool} {β:Nat→Nat} {M:Mx} (h:dC m b n w n d β M) (f:Bool):Go.Tw.fzT 1 m (.sl b 0 n n f)=some (.tree n n (nC d n w M) f):=by
 obtain ⟨cells,k,j,e⟩:=h.row;refine aey k (an6 _ _ (by rw [aBx,j,avk]) fun i c l a g => ?_);rw [aBx] at a;have hi:i < n:=by have:=(ay8.1 a).1;omega
 rw [e i hi] at a;rw [aa7 d M hi] at g;cases a;cases g;rw [wW (h.own i hi).2,aBx]
theorem acs {el:TypeId} {x:Value} (a:bX ayU el=some 1) (b:gF ayU el=some [x]) (n:Nat):iJ ayU el n=some ((aAp n).map fun _ => .val x):=by
 unfold iJ;rw [a,aAk];by_cases h:n=0
 ·subst h;rfl
 ·rw [if_neg (by omega),b,aAk,if_pos (show [x].length=1 from rfl),azG];congr 1;apply aAw;intro i _;rw [Nat.mod_one];rfl
theorem ail (m:aF) {n:Nat} (f:n≤32):nK ayU m 45 n n=some ⟨.sl m.next 0 n n true,m.push ⟨(aAp n).map fun _=>aW,52,.var,true⟩,none⟩:=by
 have d:bO ayU 45=some 52:=by kernel_rfl
 have a:bX ayU 52=some 1:=by kernel_rfl
 have c:jN ayU 52=some 24:=by kernel_rfl
 have b:bK ayU 52 = .var:=by kernel_rfl
 have e:=acs a (x := .slice none 0 0) (by kernel_rfl) n;simp only [nK,d,a,c,b,e,bI,aAk,azG];rw [if_pos (by omega),aBa (by simp)];rfl
theorem vZ (m:aF) {n:Nat} (g:n≤65536):nK ayU m 52 n n=some ⟨.sl m.next 0 n n true,m.push ⟨aR n fun _=>0,5,.flat,true⟩,none⟩:=by
 have f:bO ayU 52=some 5:=by kernel_rfl
 have a:bX ayU 5=some 1:=by kernel_rfl
 have d:jN ayU 5=some 1:=by kernel_rfl
 have c:bK ayU 5 = .flat:=by kernel_rfl
 have b:=acs a (x := .int .u8 0) (by kernel_rfl) n;have e:((aAp n).map fun _=>AV.val (.int .u8 0))=aR n fun _=>0:=by
  unfold aR tab;rw [aBy];rfl
 rw [e] at b;simp only [nK,f,a,d,c,b,bI,aAk,azG];rw [if_pos (by omega),aBa (by rw [fW];omega)]
theorem afy {P:Program} {t:TypeId} {b d n c:Nat} {f:Bool} (h:(bO P t).isSome=true):lenE P t (.sl b d n c f)=some (.val (.int .i64 (n:Nat))):=by
 obtain ⟨el,a⟩:=Option.isSome_iff_exists.1 h;simp [lenE,a,sN,aB]
theorem aim {b a n c:Nat} {f:Bool}:lenE ayU 45 (.sl b a n c f)=some (.val (.int .i64 (n:Nat))):=afy (by kernel_rfl)
theorem an7 {b a n c:Nat} {f:Bool}:lenE ayU 52 (.sl b a n c f)=some (.val (.int .i64 (n:Nat))):=afy (by kernel_rfl)
theorem an8 {b a n c k:Nat} {f:Bool}:oJ ayU 45 k (.sl b a n c f)=if k < n then some (.ptr b (a+k*1)) else none:=by
 rw [aex (by kernel_rfl)];have e:bO ayU 45=some 52:=by kernel_rfl
 have d:bX ayU 52=some 1:=by kernel_rfl
 rw [e,aAk,d,aAk]
theorem an9 {b a n c k:Nat} {f:Bool}:oJ ayU 52 k (.sl b a n c f)=if k < n then some (.ptr b (a+k*1)) else none:=by
 rw [aex (by kernel_rfl)];have e:bO ayU 52=some 5:=by kernel_rfl
 have d:bX ayU 5=some 1:=by kernel_rfl
 rw [e,aAk,d,aAk]
def lE:=(⟨@aim,@an7,@an8,@an9⟩:_∧_∧_∧_)
theorem avl {cs:List AV} {i:Nat} {x:AV} (h:i < cs.length):(cs.take i++[x]++cs.drop (i+1))[i]? = some x:=by
 have a:(cs.take i).length=i:=by rw [aBT];omega
 rw [azW,azh (by omega),a,azc];rfl
def aar:Nat→Bool:=fun d=>d != 33
theorem aoa (m0:aF) (n w:Nat) (g:FuncId) (d:List AV) (f:Mx) (hn:n≤32) (hw:w≤32) (hc:cP d=true) (hg:∀ i j,i < n→j < w→aQ ayU g (aB (i:Nat)::aB (j:Nat)::d) ⟨bA (f i j),[]⟩) :
 dV ayU 296 [aB (n:Nat),aB (w:Nat),.clo g d] m0 fun r m'=>∃ β,r = .sl m0.next 0 n n true∧dC m' m0.next n w n true β f∧(∀ i,i < n→m0.next < β i)∧(∀ j k,m0.at_ j=some k→j < m0.next→m'.at_ j=some k)∧m'.mm=m0.mm:=by
 have a2:=ail m0 hn;have a6:=fun m=>vZ m (n:=w) (by omega)
 replace hg:=aA.mk hg;replace hn:=aA.mk hn;replace hw:=aA.mk hw;refine bV Tryz.func296 aar (h:=?_);unfold Tryz.f296;simp only [↓pre,za,ae6,aar,afy,simprocAttr,bne,a2];generalize hb:m0.next=b at *
 rw [bS];refine bU (fun q e m=>∃ i β,q+i=n∧e 1=aB (w:Nat)∧e 2 = .clo g d∧e 7 = .sl b 0 n n true∧e 13=aB (n:Nat)∧e 14=aB (i:Nat)∧aA (dC m b n w i true β f∧(∀ c,c < i→b < β c)∧(∀ j k,m0.at_ j=some k→j < b→m.at_ j=some k)∧m.mm=m0.mm)) n ⟨0,fun _=>0,by omega,rfl,rfl,rfl,rfl,rfl,⟨⟨⟨_,by rw [cF,if_pos hb.symm],by simp,fun i h=>by omega⟩,by rw [cQ];omega,fun i h=>by omega,fun i j h=>by omega⟩,fun i h=>by omega,fun j k R h2=>by rw [cF,if_neg (by omega)];exact R,rfl⟩⟩ ?_;rintro q e m ⟨i,β,W,Z,F,M,u,v,hJ⟩;replace W:=aA.mk W;obtain ⟨Q,hβ,D,T⟩:=hJ.out;obtain ⟨cells,G,b5,U⟩:=Q.row;have a4:=Q.lt;by_cases E:i < n
 ·have y:((i:Nat):Int) < ((n:Nat):Int):=by omega
  have w1:=cB (n:=i) (by have:=hn.out;omega);have a3:¬ b=m.next:=by omega
  have b1:i+1≤cells.length:=by omega
  have S:=avl (cs:=cells) (i:=i) (x := .sl m.next 0 w w true) (by omega);have K:=Q.add_row E G (fun _=>0);unfold cH at K;simp only [zak,azq] at K;have B:∀ j k,m0.at_ j=some k→j < b→((m.push ⟨aR w fun _=>0,5,.flat,true⟩).put b (some ⟨cells.take i++[.sl m.next 0 w w true]++cells.drop (i+1),52,.var,true⟩)).at_ j=some k:=fun j k R h2=>by
   rw [cI,if_neg (by omega),cF,if_neg (by omega)];exact D j k R h2
  replace K:=aA.mk K;replace B:=aA.mk B;replace D:=aA.mk D;replace hβ:=aA.mk hβ;replace Q:=aA.mk Q;replace U:=aA.mk U;simp only [↓pre,zaj,ae6,aar,afy,simprocAttr,bne,aS,a6,Z,M,u,v,y,G,E,a3,b1,S];rw [bS];generalize V:(fun c=>if c=i then m.next else β c)=β' at *
  have b7:β' i=m.next:=by rw [←V];simp
  have b0:b < m.next:=a4;have a0:∀ c,c < i+1→b < β' c:=fun c h=>by
   rw [←V];by_cases e:c=i
   ·simp only [if_pos e];exact b0
   ·simp only [if_neg e];exact hβ.out c (by omega)
  refine bU (fun q e m=>∃ j,q+j=w∧e 1=aB (w:Nat)∧e 2 = .clo g d∧e 7 = .sl b 0 n n true∧e 8=aB (i:Nat)∧e 13=aB (n:Nat)∧e 14=aB (i:Nat)∧e 26=aB (w:Nat)∧e 27=aB (j:Nat)∧aA (dC m b n w (i+1) true β' (fun c a=>if c < i then f c a else if a < j then f i a else 0)∧(∀ j k,m0.at_ j=some k→j < b→m.at_ j=some k)∧m.mm=m0.mm)) w ⟨0,by omega,Z,F,M,rfl,u,v,rfl,rfl,⟨K.out.congr fun c Y a L => ?_,B.out,T⟩⟩ ?_
  ·by_cases e:c=i
   ·rw [if_pos e,if_neg (by omega),if_neg (by omega)]
   ·rw [if_neg e,if_pos (by omega)]
  replace K:=aA.mk K;rintro q2 e m2 ⟨j,C,Z,F,M,e8,u,v,N,P,a9⟩;replace C:=aA.mk C;obtain ⟨o,t,I⟩:=a9.out;obtain ⟨a1,J,b2,z⟩:=o.row;have a5:=z i (by omega);obtain ⟨b6,H⟩:=o.own i (by omega);have O:=fW w (fun a=>if i < i then f i a else if a < j then f i a else 0);by_cases A:j < w
  ·have s:((j:Nat):Int) < ((w:Nat):Int):=by omega
   have w2:=cB (n:=j) (by have:=hw.out;omega);have p:=hg.out i j E A;have b4:j≤w - 1:=by omega
   have hP:=o.put_row (i:=i) (by omega) (fun a=>if a < j+1 then f i a else 0);have l:=aao (w:=w) (f:=fun a=>if i < i then f i a else if a < j then f i a else 0) (g:=fun a=>if a < j+1 then f i a else 0) A fun a L=>by
    simp only [aBL,if_false];by_cases e:a=j
    ·subst e;rw [if_pos rfl]
    ·rw [if_neg e];by_cases F:a < j
     ·rw [if_pos F,if_pos (by omega)]
     ·rw [if_neg F,if_neg (by omega)]
   simp only [show j < j+1 by omega,if_true] at l;unfold cH at l;simp only [aBL,zak,azq,if_false] at l H O;have a8:j+1≤(aR w fun a=>if a < j then f i a else 0).length:=by omega
   simp only [bA] at l p;have X:cP (aB (i:Nat)::aB (j:Nat)::d)=true:=by simp only [cP,plain,aB,hc,aAx]
   have b3:=o.ne (i:=i) (by omega);replace hP:=aA.mk hP;replace t:=aA.mk t;replace o:=aA.mk o;replace z:=aA.mk z;simp only [aB] at X p;simp only [↓pre,zaj,ae6,aar,simprocAttr,bne,F,M,e8,N,P,s,J,E,a5];refine aH p X (fun _=>rfl) ?_;simp only [↓pre,zaj,ae6,aar,simprocAttr,bne,aS,A,H,a8,l];refine cX (by kernel_rfl) ?_;simp only [↓pre,za,aar,simprocAttr,bne,Z,F,M,e8,u,v,N,P,w2];refine ⟨q2 - 1,by have:=C.out;omega,j+1,by have:=C.out;omega,rfl,⟨hP.out.congr fun c Y a L => ?_,fun x k R h2 => ?_,I⟩⟩
   ·by_cases e:c=i
    ·subst e;simp only [if_true,aBL,if_false]
    ·simp only [if_neg e,if_pos (show c < i by omega)]
   ·rw [if_neg (by have:=a0 i (by omega);omega)];exact t.out x k R h2
  ·have s:¬ ((j:Nat):Int) < ((w:Nat):Int):=by omega
   simp only [↓pre,zad,aar,simprocAttr,bne,Z,F,M,u,v,N,P,s,w1];refine ⟨q - 1,by have:=W.out;omega,i+1,β',by have:=W.out;omega,rfl,⟨o.congr fun c Y a L => ?_,a0,t,I⟩⟩;by_cases e:c < i
   ·rw [if_pos e]
   ·rw [if_neg e,if_pos (by omega),show c=i by omega]
 ·have y:¬ ((i:Nat):Int) < ((n:Nat):Int):=by omega
  have a7:i=n:=by have:=W.out;omega
  subst a7;simp only [↓pre,zad,aar,simprocAttr,bne,M,u,v,y];exact ⟨β,Q,hβ,D,T⟩
theorem aob (m0:aF) (n:Nat) (m:1≤n) (a:n≤32):dV ayU 243 [aB (n:Nat)] m0 fun r m'=>∃ β,r = .tup [.sl m0.next 0 n n true,aB 0]∧dC m' m0.next n n n true β jX∧(∀ i,i < n→m0.next < β i)∧(∀ j k,m0.at_ j=some k→j < m0.next→m'.at_ j=some k)∧m'.mm=m0.mm:=by
 have c:=aoa m0 n n 297 [] jX a a rfl fun i j _ _=>avi i j
 have l:¬ ((n:Nat):Int) < 1:=by omega
 have g:¬ (32:Int) < ((n:Nat):Int):=by omega
 refine bV Tryz.func243 aD (h:=?_);unfold Tryz.f243;simp only [↓pre,zac,simprocAttr,l,g];refine jD c ?_;rintro r m' ⟨β,rfl,f,e,d,b⟩;simp only [↓pre,simprocAttr,sx];exact ⟨β,f,e,d,b⟩
theorem avm (n:Nat) (c:1≤n) (a:n≤32):aQ ayU 243 [aB (n:Nat)] ⟨.tup [.tree n n (nC true n n jX) true,aB 0],[]⟩:=by
 refine gA (mW (aob aF.empty n c a) ?_);rintro r m' ⟨β,rfl,b,_⟩;exact ⟨1,by rw [kH,eC,b.fzT,aAk,eC];unfold aB;rw [gU,jI];rfl⟩
theorem avn (k r:Nat) (p:1≤k) (d:k≤12) (o:1≤r) (a:r≤4):aQ ayU 244 [aB (k:Nat),aB (r:Nat)] ⟨.tup [.tree r r (nC true r k (iD k)) true,aB 0],[]⟩:=by
 refine gA ?_;have b:=aoa aF.empty r k 298 [.tptr 0 [aB (k:Nat)]] (iD k) (by omega) (by omega) rfl fun i j hi c=>avj k i j (by omega) c
 have l:¬ ((k:Nat):Int) < 1:=by omega
 have g:¬ (12:Int) < ((k:Nat):Int):=by omega
 have f:¬ ((r:Nat):Int) < 1:=by omega
 have m:¬ (4:Int) < ((r:Nat):Int):=by omega
 refine bV Tryz.func244 aD (h:=?_);unfold Tryz.f244;simp only [↓pre,zac,as4,simprocAttr,List.size_toArray,l,g,f,m];refine jD b ?_;rintro n m' ⟨β,rfl,e,_⟩;simp only [↓pre,simprocAttr];exact ⟨1,by rw [kH,eC,e.fzT,aAk,eC,gU,jI];rfl⟩
theorem avo (m0:aF) (v:AV) (n:Nat) (cells:List AV) (g:aT v n cells) (i:n≤cells.length) (k:1≤n) (j:n≤65536):dV ayU 345 [v] m0 fun r m'=>r = .sl m0.next 0 n n false∧m'=m0.push ⟨cells.take n,52,.var,true⟩:=by
 have b:=fun m=>aT.src (P:=ayU) (el:=52) (sz:=1) (m:=m) g (by omega)
 have a:=fun m=>ahb (P:=ayU) (kd := .var) (y:=24) (zl:=[.slice none 0 0]) (by kernel_rfl) (by kernel_rfl) (by kernel_rfl) (by kernel_rfl) rfl (b m) (by omega) (by omega) (by omega)
 simp only [azG] at a;have d:∀ m,fY ayU m 45 0 []=some ⟨.tree 0 0 [] true,m,none⟩:=fun m=>ag6 (el:=52) (sz:=1) (z:=[]) (by kernel_rfl) (by kernel_rfl) (by kernel_rfl) rfl rfl (by decide)
 obtain ⟨c,f,rfl,_⟩:∃ c f,v = .tree n c cells f∧n≤c:=by
  rcases g.form with ⟨_,h⟩ | ⟨_,_,_,h⟩ | h
  ·omega
  ·omega
  ·exact h
 have e:∀ x y,eA ayU .eql 45 x y (.tree n c cells f) (.val (.slice none 0 0))=some (.val (.bool false)):=fun x y=>by kernel_rfl
 refine bV Tryz.func345 aD (h:=?_);unfold Tryz.f345;simp only [↓pre,zab,atd,cO,gH,simprocAttr,d,a,e]
theorem avp (m0:aF) (v:AV) (n:Nat) (cells:List AV) (g:aT v n cells) (i:n≤cells.length) (k:1≤n) (j:n≤65536):dV ayU 346 [v] m0 fun r m'=>r = .sl m0.next 0 n n false∧m'=m0.push ⟨cells.take n,5,.flat,true⟩:=by
 have b:=fun m=>aT.src (P:=ayU) (el:=5) (sz:=1) (m:=m) g (by omega)
 have a:=fun m=>ahb (P:=ayU) (kd := .flat) (y:=1) (zl:=[.int .u8 0]) (by kernel_rfl) (by kernel_rfl) (by kernel_rfl) (by kernel_rfl) rfl (b m) (by omega) (by omega) (by omega)
 simp only [azG] at a;have d:∀ m,fY ayU m 52 0 []=some ⟨.tree 0 0 [] true,m,none⟩:=fun m=>ag6 (el:=5) (sz:=1) (z:=[]) (by kernel_rfl) (by kernel_rfl) (by kernel_rfl) rfl rfl (by decide)
 obtain ⟨c,f,rfl,_⟩:∃ c f,v = .tree n c cells f∧n≤c:=by
  rcases g.form with ⟨_,h⟩ | ⟨_,_,_,h⟩ | h
  ·omega
  ·omega
  ·exact h
 have e:∀ x y,eA ayU .eql 52 x y (.tree n c cells f) (.val (.slice none 0 0))=some (.val (.bool false)):=fun x y=>by kernel_rfl
 refine bV Tryz.func346 aD (h:=?_);unfold Tryz.f346;simp only [↓pre,zab,ate,cO,gH,simprocAttr,d,a,e]
theorem avq (m0:aF) (v:AV) (n w:Nat) (M:Mx) (cells:List AV) (L:qD v n w M cells) (s:1≤n) (D:n≤32) (T:1≤w) (Z:w≤32) (S:n≤cells.length):dV ayU 327 [v] m0 fun r m'=>∃ β,r = .sl m0.next 0 n n false∧dC m' m0.next n w n false β M∧(∀ i,i < n→m0.next < β i)∧(∀ j k,m0.at_ j=some k→j < m0.next→m'.at_ j=some k)∧m'.mm=m0.mm:=by
 have V:=avo m0 v n cells L.rd S s (by omega);refine bV Tryz.func327 aD (h:=?_);unfold Tryz.f327;simp only [↓pre,zab,simprocAttr];refine jD V ?_;rintro r m' ⟨rfl,rfl⟩;simp only [↓pre,zai,lE,simprocAttr];generalize W:m0.next=b at *
 rw [bS];refine bU (fun q e m=>∃ i β,q+i=n∧e 0=v∧e 3 = .sl b 0 n n false∧e 8=aB (n:Nat)∧e 9=aB (i:Nat)∧aA (dC m b n w i false β M∧(∀ d,d < i→b < β d)∧(∀ j k,m0.at_ j=some k→j < b→m.at_ j=some k)∧m.mm=m0.mm)) n ⟨0,fun _=>0,by omega,rfl,rfl,rfl,rfl,⟨⟨⟨_,by rw [cF,if_pos W.symm],by rw [aBT];omega,fun i h=>by omega⟩,by rw [cQ];omega,fun i h=>by omega,fun i j h=>by omega⟩,fun i h=>by omega,fun j k s D=>by rw [cF,if_neg (by omega)];exact s,rfl⟩⟩ ?_;rintro q e m ⟨i,β,A,P,H,J,G,R⟩;replace A:=aA.mk A;obtain ⟨p,B,g,t⟩:=R.out;obtain ⟨f,o,U,y⟩:=p.row;have E:=p.lt;by_cases l:i < n
 ·have c:((i:Nat):Int) < ((n:Nat):Int):=by omega
  have w1:=cB (n:=i) (by omega);have C:¬ b=m.next:=by omega
  have N:i+1≤f.length:=by omega
  obtain ⟨a,x,F,O⟩:=L.at_ i l;have z:=avp m a w _ O (by rw [aA2,fW];omega) T (by omega);rw [List.take_left' (fW w (M i))] at z;have u:=p.add_row l o (M i);unfold cH at u;simp only [zak,azq] at u;have K:b < m.next:=E;replace u:=aA.mk u;replace g:=aA.mk g;replace B:=aA.mk B;replace p:=aA.mk p;replace y:=aA.mk y;simp only [↓pre,zae,amP,simprocAttr,P,H,J,G,c,L.rd.addr',l,F];refine jD z ?_;rintro r m' ⟨rfl,rfl⟩;simp only [↓pre,zae,amP,bH,simprocAttr,aS,P,H,J,G,l,o,C,N,w1];refine ⟨q - 1,by have:=A.out;omega,i+1,(fun d=>if d=i then m.next else β d),by have:=A.out;omega,rfl,⟨u.out.congr fun d X Y Q => ?_,fun d h => ?_,fun j k s D => ?_,t⟩⟩
  ·by_cases e:d=i
   ·simp only [e,if_true]
   ·simp only [if_neg e]
  ·by_cases e:d=i
   ·simp only [e,if_true];exact K
   ·simp only [if_neg e];exact B.out d (by omega)
  ·rw [if_neg (by omega),if_neg (by omega)];exact g.out j k s D
 ·have c:¬ ((i:Nat):Int) < ((n:Nat):Int):=by omega
  have I:i=n:=by have:=A.out;omega
  subst I;simp only [↓pre,zac,simprocAttr,H,J,G,c];exact ⟨β,p,B,g,t⟩
def aa8:Nat→Bool:=fun d=>d != 17 && d != 22
theorem aas {m:aF} {b:Nat} {x y:Option eZ}:(m.put b x).put b y=m.put b y:=by
 obtain ⟨n,a,mm⟩:=m;unfold aF.put;congr 1;funext j;simp only;split <;> rfl
theorem aoc (m0:aF) (b w:Nat) (f:Bool) (M:Nat→UInt8) (c:UInt8) (K:w≤32) (J:m0.at_ b=some ⟨aR w M,5,.flat,true⟩):dV ayU 343 [.sl b 0 w w f,bA c] m0 fun r m'=>r = .tup []∧m'=m0.put b (some ⟨aR w (fun j=>aM (M j) c),5,.flat,true⟩):=by
 have C:=fun x=>aij x c
 simp only [bA] at C;refine bV Tryz.func343 aD (h:=?_);unfold Tryz.f343;simp only [↓pre,zai,lE,simprocAttr,bA];rw [bS];refine bU (fun q e m=>∃ j,q+j=w∧e 0 = .sl b 0 w w f∧e 1=bA c∧e 6=aB (w:Nat)∧e 7=aB (j:Nat)∧aA (m=m0.put b (some ⟨aR w (fun a=>if a < j then aM (M a) c else M a),5,.flat,true⟩))) w ⟨0,by omega,rfl,rfl,rfl,rfl,⟨?_⟩⟩ ?_
 ·have:aR w (fun a=>if a < 0 then aM (M a) c else M a)=aR w M:=rY fun j _=>by rw [if_neg (by omega)]
  rw [this,acr J]
 rintro q e m ⟨j,t,E,F,B,y,A⟩;replace t:=aA.mk t;by_cases o:j < w
 ·have i:((j:Nat):Int) < ((w:Nat):Int):=by omega
  have w1:=cB (n:=j) (by omega);have s:m.at_ b=some ⟨aR w (fun a=>if a < j then aM (M a) c else M a),5,.flat,true⟩:=by rw [A.out,cI,if_pos rfl]
  have l:=jE (w:=w) (fun a=>if a < j then aM (M a) c else M a) o;simp only [aBL,if_false,bA] at l;have d:=aao (w:=w) (f:=fun a=>if a < j then aM (M a) c else M a) (g:=fun a=>if a < j+1 then aM (M a) c else M a) o fun a H=>by
   by_cases e:a=j
   ·subst e;rw [if_pos rfl]
   ·rw [if_neg e];by_cases D:a < j
    ·rw [if_pos D,if_pos (by omega)]
    ·rw [if_neg D,if_neg (by omega)]
  simp only [show j < j+1 by omega,if_true] at d;unfold cH at d;simp only [bA,zak,azq] at d;have v:j+1≤(aR w fun a=>if a < j then aM (M a) c else M a).length:=by rw [fW];omega
  have u:=C (M j);simp only [↓pre,zae,amR,bH,simprocAttr,bA,E,F,B,y,i,o,s,l]
  (first | refine aI (u) (by first | rfl | simp only [aC,aE, *]) ?_ | refine aH (u) (by first | rfl | simp only [aC,aE, *]) (by intro k;first | rfl | simp only [ *,zaa]) ?_);simp only [↓pre,zae,amR,bH,simprocAttr,aS,bA,E,F,B,y,o,s,v,d,w1]
  refine ⟨q - 1,by have:=t.out;omega,j+1,by have:=t.out;omega,rfl,⟨?_⟩⟩;rw [A.out,aas]
 ·have i:¬ ((j:Nat):Int) < ((w:Nat):Int):=by omega
  have G:j=w:=by have:=t.out;omega
  subst G;have p:=A.out;have z:aR j (fun a=>if a < j then aM (M a) c else M a)=aR j fun a=>aM (M a) c:=rY fun x I=>by rw [if_pos I]
  rw [z] at p;subst p;simp only [↓pre,zac,simprocAttr,bA,B,y,i]
theorem aod (m0:aF) (b B w:Nat) (f P:Bool) (M d:Nat→UInt8) (c:UInt8) (U:w≤32) (H:b≠B) (T:m0.at_ b=some ⟨aR w M,5,.flat,true⟩) (I:m0.at_ B=some ⟨aR w d,5,.flat,true⟩):dV ayU 344 [.sl b 0 w w f,bA c,.sl B 0 w w P] m0 fun r m'=>r = .tup []∧m'=m0.put b (some ⟨aR w (fun j=>M j ^^^ aM c (d j)),5,.flat,true⟩):=by
 have K:=aij c;have L:=aif;simp only [bA] at K L;refine bV Tryz.func344 aa8 (h:=?_);unfold Tryz.f344;simp only [↓pre,za,aa8,lE,simprocAttr,bne,bA];rw [bS];refine bU (fun q e m=>∃ j,q+j=w∧e 0 = .sl b 0 w w f∧e 1=bA c∧e 2 = .sl B 0 w w P∧e 8=aB (w:Nat)∧e 9=aB (j:Nat)∧aA (m=m0.put b (some ⟨aR w (fun a=>if a < j then M a ^^^ aM c (d a) else M a),5,.flat,true⟩))) w ⟨0,by omega,rfl,rfl,rfl,rfl,rfl,⟨?_⟩⟩ ?_
 ·have:aR w (fun a=>if a < 0 then M a ^^^ aM c (d a) else M a)=aR w M:=rY fun j _=>by rw [if_neg (by omega)]
  rw [this,acr T]
 rintro q e m ⟨j,z,N,O,y,J,G,D⟩;replace z:=aA.mk z;by_cases s:j < w
 ·have o:((j:Nat):Int) < ((w:Nat):Int):=by omega
  have w1:=cB (n:=j) (by omega);have v:m.at_ b=some ⟨aR w (fun a=>if a < j then M a ^^^ aM c (d a) else M a),5,.flat,true⟩:=by rw [D.out,cI,if_pos rfl]
  have u:m.at_ B=some ⟨aR w d,5,.flat,true⟩:=by rw [D.out,cI,if_neg (fun e=>H e.symm)];exact I
  have p:=jE (w:=w) (fun a=>if a < j then M a ^^^ aM c (d a) else M a) s;have l:=jE (w:=w) d s;simp only [aBL,if_false,bA] at p l;have i:=aao (w:=w) (f:=fun a=>if a < j then M a ^^^ aM c (d a) else M a) (g:=fun a=>if a < j+1 then M a ^^^ aM c (d a) else M a) s fun a R=>by
   by_cases e:a=j
   ·subst e;rw [if_pos rfl]
   ·rw [if_neg e];by_cases y:a < j
    ·rw [if_pos y,if_pos (by omega)]
    ·rw [if_neg y,if_neg (by omega)]
  simp only [show j < j+1 by omega,if_true] at i;unfold cH at i;simp only [bA,zak,azq] at i;have E:j+1≤(aR w fun a=>if a < j then M a ^^^ aM c (d a) else M a).length:=by rw [fW];omega
  have C:=K (d j);have A:=L (M j) (aM c (d j));simp only [↓pre,zaj,amS,aa8,simprocAttr,bne,bA,N,O,y,J,G,o,s,v,u,p,l]
  (first | refine aI (C) (by first | rfl | simp only [aC,aE, *]) ?_ | refine aH (C) (by first | rfl | simp only [aC,aE, *]) (by intro k;first | rfl | simp only [ *,zaa]) ?_);simp only [↓pre,zad,aa8,simprocAttr,bne];(first | refine aI (A) (by first | rfl | simp only [aC,aE, *]) ?_ | refine aH (A) (by first | rfl | simp only [aC,aE, *]) (by intro k;first | rfl | simp only [ *,zaa]) ?_);simp only [↓pre,zaj,amS,aa8,simprocAttr,bne,aS,s,v,E,i]
  refine cX (by kernel_rfl) ?_;simp only [↓pre,zad,aa8,simprocAttr,bne,bA,N,O,y,J,G,w1];refine ⟨q - 1,by have:=z.out;omega,j+1,by have:=z.out;omega,rfl,⟨?_⟩⟩;rw [D.out,aas]
 ·have o:¬ ((j:Nat):Int) < ((w:Nat):Int):=by omega
  have Q:j=w:=by have:=z.out;omega
  subst Q;have t:=D.out;have F:aR j (fun a=>if a < j then M a ^^^ aM c (d a) else M a)=aR j fun a=>M a ^^^ aM c (d a):=rY fun x S=>by rw [if_pos S]
  rw [F] at t;subst t;simp only [↓pre,zad,aa8,simprocAttr,bne,bA,J,G,o]
theorem dC.swap {m:aF} {b n w:Nat} {p:Bool} {β:Nat→Nat} {M:Mx} (h:dC m b n w n p β M) {a k:Nat} (s:a < n) (v:k < n) {cells:List AV} (E:m.at_ b=some ⟨cells,52,.var,true⟩) :
 dC (m.put b (some ⟨cH (cH cells a [.sl (β k) 0 w w p]) k [.sl (β a) 0 w w p],52,.var,true⟩)) b n w n p (fun i=>if i=a then β k else if i=k then β a else β i) (eG M a k):=by
 obtain ⟨d,r,u,t⟩:=h.row;rw [E] at r;obtain rfl:cells=d:=by simpa using r
 have l:∀ (cs:List AV) (i:Nat) (x:AV),i < cs.length→(cH cs i [x]).length=cs.length:=fun cs i x hi=>by
  unfold cH;simp only [aA2,zak,aBT,List.length_drop];omega
 have g:∀ (cs:List AV) (i j:Nat) (x:AV),i < cs.length→(cH cs i [x])[j]? = if j=i then some x else cs[j]? := fun cs i j x hi=>by
  unfold cH;have q:(cs.take i).length=i:=by rw [aBT];omega
  by_cases e:j=i
  ·subst e;rw [if_pos rfl,azW,azh (by omega),q,azc];rfl
  ·rw [if_neg e,azW];by_cases A:j < i
   ·rw [azg (by omega),aBU A]
   ·rw [azh (by omega),q,azh (by simp;omega),aAv];congr 1;simp only [zak];omega
 have y:=l cells a (.sl (β k) 0 w w p) (by omega);refine ⟨⟨_,by rw [cI,if_pos rfl],by rw [l _ _ _ (by omega)];omega,fun i hi => ?_⟩,h.lt,fun i hi => ?_,fun i j hi z e => ?_⟩
 ·rw [g _ _ _ _ (by omega),g _ _ _ _ (by omega)];by_cases f:i=k
  ·rw [if_pos f];by_cases c:i=a
   ·rw [if_pos c,←f,c]
   ·rw [if_neg c,if_pos f]
  ·rw [if_neg f];by_cases c:i=a
   ·rw [if_pos c,if_pos c]
   ·rw [if_neg c,if_neg c,if_neg f];exact t i hi
 ·unfold eG;have o:=fun x (D:x < n)=>h.ne D
  by_cases f:i=a
  ·simp only [if_pos f];exact ⟨(h.own k v).1,by rw [cI,if_neg (o k v)];exact (h.own k v).2⟩
  ·by_cases c:i=k
   ·simp only [if_neg f,if_pos c];exact ⟨(h.own a s).1,by rw [cI,if_neg (o a s)];exact (h.own a s).2⟩
   ·simp only [if_neg f,if_neg c];exact ⟨(h.own i hi).1,by rw [cI,if_neg (o i hi)];exact (h.own i hi).2⟩
 ·have C:∀ i,(if i=a then β k else if i=k then β a else β i)=β (if i=a then k else if i=k then a else i):=fun i=>by split;rfl;split <;> rfl
  simp only [C] at e;have u:∀ i,i < n→(if i=a then k else if i=k then a else i) < n:=fun i hi=>by split;omega;split <;> omega
  have B:=h.inj _ _ (u i hi) (u j z) e
  revert B
  split <;> split <;> (try split) <;> (try split) <;> omega
theorem dC.put_other {m:aF} {b n w t:Nat} {a:Bool} {β:Nat→Nat} {M:Mx} (h:dC m b n w t a β M) {x:Nat} {y:Option eZ} (e:b≠x) (d:∀ i,i < t→β i≠x):dC (m.put x y) b n w t a β M :=
 h.keep (aza _) fun j k c _ f=>by
  rw [cI,if_neg]
  ·exact c
  ·rintro rfl;rcases f with rfl | ⟨i,hi,rfl⟩
   ·exact e rfl
   ·exact d i hi rfl
structure wA (m:aF) (b1 b2 N:Nat) (f1 f2:Bool) (β γ:Nat→Nat) (M B:Mx):Prop where
 one:dC m b1 N N N f1 β M
 two:dC m b2 N N N f2 γ B
 ne:b1≠b2
 rows:∀ i j,i < N→j < N→β i≠γ j
theorem wA.cross {m:aF} {a b N:Nat} {c d:Bool} {β γ:Nat→Nat} {M B:Mx} (h:wA m a b N c d β γ M B) {i:Nat} (hi:i < N):β i≠b∧γ i≠a:=by
 obtain ⟨f,r1,_⟩:=h.one.row;obtain ⟨g,r2,_⟩:=h.two.row;constructor
 ·intro e;have:=(h.one.own i hi).2;rw [e,r2] at this;simp at this
 ·intro e;have:=(h.two.own i hi).2;rw [e,r1] at this;simp at this
def lQ:Nat→Bool:=fun d=>d != 45 && d != 49 && d != 59 && d != 63 && d != 111 && d != 116 && d != 121 && d != 126 && d != 117 && d != 127
theorem avr (m0:aF) (R I N:Nat) (g1 g2 f1 f2:Bool) (β γ:Nat→Nat) (M B:Mx) (hN:1≤N) (F:N≤32) (h:wA m0 R I N f1 f2 β γ M B):dV ayU 326 [.sl R 0 N N g1,.sl I 0 N N g2] m0 fun r m'=>∃ β' γ',r=aB ((gsol N M B N).n:Nat)∧wA m' R I N f1 f2 β' γ' (gsol N M B N).m (gsol N M B N).b:=by
 have hI:=an4;simp only [bA] at hI;obtain ⟨h8,i4,k2,f5⟩:=h.one.row;have i5:=f5 0 (by omega);have j2:0 < N:=by omega
 replace hN:=aA.mk hN;replace F:=aA.mk F;refine bV Tryz.func326 lQ (h:=?_);unfold Tryz.f326;simp only [↓pre,zaj,rR,lQ,lE,simprocAttr,bne,j2,i4,i5];rw [bS];refine bU (fun q e m=>∃ j β γ,q+j=N∧e 0 = .sl R 0 N N g1∧e 1 = .sl I 0 N N g2∧e 5=aB ((gsol N M B j).n:Nat)∧e 15=aB (N:Nat)∧e 16=aB (j:Nat)∧aA (wA m R I N f1 f2 β γ (gsol N M B j).m (gsol N M B j).b)) N ⟨0,β,γ,by omega,rfl,rfl,rfl,rfl,rfl,⟨h⟩⟩ ?_;rintro q e m ⟨j,β,γ,hq,J,V,D,u,t,U⟩;replace hq:=aA.mk hq;have y:gsol N M B (j+1)=uN N j (gsol N M B j):=rfl;have a6:=aia (N:=N) M B j;generalize d8:gsol N M B j=s at *
 replace d8:=aA.mk d8;by_cases H:j < N
 ·have b0:((j:Nat):Int) < ((N:Nat):Int):=by omega
  have w1:=cB (n:=j) (by have:=F.out;omega);replace a6:=aA.mk a6;simp only [↓pre,zad,lQ,simprocAttr,bne,D,u,t,b0];rw [bS];refine zW (fun e m'=>e 0 = .sl R 0 N N g1∧e 1 = .sl I 0 N N g2∧e 5=aB (s.n:Nat)∧e 6=aB (j:Nat)∧e 7=aB (dQ s.m j (N - s.n) s.n:Nat)∧e 15=aB (N:Nat)∧e 16=aB (j:Nat)∧m'=m) (fun e m' hR => ?_) ?_
  ·obtain ⟨J,V,D,e6,e7,u,t,rfl⟩:=hR;have h1:=aan s.m j (N - s.n) s.n;by_cases hp:dQ s.m j (N - s.n) s.n=N
   ·have h6:uN N j s=s:=by unfold uN;simp only [hp,aza,if_true]
    rw [hp] at e7;simp only [↓pre,za,lQ,lE,simprocAttr,bne,J,V,D,e7,u,t,w1];refine ⟨q - 1,by have:=hq.out;omega,j+1,β,γ,by have:=hq.out;omega,by rw [y,h6],rfl, ?_⟩;rw [y,h6];exact U
   ·have P:dQ s.m j (N - s.n) s.n < N:=by have:=a6.out;omega
    have d7:=adD s.m j (N - s.n) s.n (by have:=a6.out;omega);have c9:uN N j s=⟨s.n+1,gC (nA (eG s.m (dQ s.m j (N - s.n) s.n) s.n) s.n (cK (eG s.m (dQ s.m j (N - s.n) s.n) s.n s.n j))) s.n (fun i=>nA (eG s.m (dQ s.m j (N - s.n) s.n) s.n) s.n (cK (eG s.m (dQ s.m j (N - s.n) s.n) s.n s.n j)) i j),gC (nA (eG s.b (dQ s.m j (N - s.n) s.n) s.n) s.n (cK (eG s.m (dQ s.m j (N - s.n) s.n) s.n s.n j))) s.n (fun i=>nA (eG s.m (dQ s.m j (N - s.n) s.n) s.n) s.n (cK (eG s.m (dQ s.m j (N - s.n) s.n) s.n s.n j)) i j)⟩:=by unfold uN;simp only [if_neg (show ¬ N≤dQ s.m j (N - s.n) s.n by omega)]
    rw [c9] at y;clear c9;obtain ⟨n,M1,B1⟩:=s;simp only at *
    generalize dQ M1 j (N - n) n=a at *
    have d:n < N:=by omega
    have j0:¬ ((a:Nat):Int)=((N:Nat):Int):=by omega
    replace y:=aA.mk y;replace h1:=aA.mk h1;replace d7:=aA.mk d7;obtain ⟨cells,O,i8,L⟩:=U.out.one.row;obtain ⟨z,b4,j9,a2⟩:=U.out.two.row;have c5:=L a P;have i3:=L n d;have h3:=a2 a P;have f6:=a2 n d;have c1:=U.out.ne;have g8:¬ I=R:=fun h=>c1 h.symm
    have b8:=U.out.one.swap P d O;have a9:=U.out.two.swap P d b4;replace L:=aA.mk L;replace a2:=aA.mk a2;replace b8:=aA.mk b8;replace a9:=aA.mk a9;have f7:a+1≤cells.length:=by omega
    have g5:a+1≤z.length:=by omega
    have g0:n+1≤(cells.take a++[AV.sl (β n) 0 N N f1]++cells.drop (a+1)).length:=by simp;omega
    have g7:n+1≤(z.take a++[AV.sl (γ n) 0 N N f2]++z.drop (a+1)).length:=by simp;omega
    simp only [↓pre,zaj,rR,lQ,lE,simprocAttr,bne,aS,J,D,e7,j0,P,d,O,c5,i3,f7];refine cX (by kernel_rfl) ?_;simp only [↓pre,zaj,rR,lQ,simprocAttr,bne,aS,d,g0];refine cX (by kernel_rfl) ?_;simp only [↓pre,zaj,rR,lQ,aas,simprocAttr,bne,aS,V,D,e7,P,d,b4,g8,h3,f6,g5];refine cX (by kernel_rfl) ?_;simp only [↓pre,zaj,rR,lQ,aas,simprocAttr,bne,aS,d,g7];refine cX (by kernel_rfl) ?_;have G:wA ((m'.put R (some ⟨cH (cH cells a [.sl (β n) 0 N N f1]) n [.sl (β a) 0 N N f1],52,.var,true⟩)).put I (some ⟨cH (cH z a [.sl (γ n) 0 N N f2]) n [.sl (γ a) 0 N N f2],52,.var,true⟩)) R I N f1 f2 (fun i=>if i=a then β n else if i=n then β a else β i) (fun i=>if i=a then γ n else if i=n then γ a else γ i) (eG M1 a n) (eG B1 a n):=by
     refine ⟨b8.out.put_other c1 fun i hi => ?_, ?_,c1,fun i j hi hj => ?_⟩
     ·split
      ·exact (U.out.cross d).1
      ·split
       ·exact (U.out.cross P).1
       ·exact (U.out.cross hi).1
     ·refine a9.out.keep (aza _) fun j k hj _ hc => ?_
      rw [cI] at hj ⊢;by_cases e9:j=I
      ·rw [if_pos e9] at hj ⊢;exact hj
      ·rw [if_neg e9] at hj ⊢;rw [cI,if_neg]
       ·exact hj
       ·rintro rfl;rcases hc with h9 | ⟨i,hi,h9⟩
        ·exact e9 h9
        ·split at h9
         ·exact (U.out.cross d).2 h9.symm
         ·split at h9
          ·exact (U.out.cross P).2 h9.symm
          ·exact (U.out.cross hi).2 h9.symm
     ·repeat' split
      all_goals exact U.out.rows _ _ (by assumption) (by assumption)
    unfold cH at G;simp only [zak,azq] at G;generalize l3:(fun i=>if i=a then β n else if i=n then β a else β i)=C at G;generalize m3:(fun i=>if i=a then γ n else if i=n then γ a else γ i)=K at G;generalize g4:aF.put (aF.put m' R _) I _=m1 at G;clear g4;have S:eG M1 a n n j≠0:=by
     have:=d7.out;unfold eG;by_cases e9:n=a
     ·rw [if_pos e9];rw [←e9] at this;exact this
     ·rw [if_neg e9,if_pos rfl];exact this
    generalize l7:eG M1 a n=M2 at G y S;generalize l6:eG B1 a n=B2 at G y;have c4:=hI (M2 n j);rw [if_neg S,if_neg S] at c4;generalize hc:cK (M2 n j)=c at c4 y;replace S:=aA.mk S;obtain ⟨h7,a8,k9,a5⟩:=G.one.row;obtain ⟨i2,d6,l0,c0⟩:=G.two.row;have h0:=a5 n d;have i7:=c0 n d;obtain ⟨k4,b5⟩:=G.one.own n d;obtain ⟨k1,d3⟩:=G.two.own n d;have v:=jE (w:=N) (M2 n) H;simp only [bA] at v;have d4:=G.cross d;have e2:=G.one.ne d;have l1:=G.two.ne d;have e3:=G.rows n n d d;have k7:¬ R=C n:=fun h=>e2 h.symm
    have f9:¬ I=C n:=fun h=>d4.1 h.symm
    have i6:¬ K n=C n:=fun h=>e3 h.symm
    have e4:=aoc m1 (C n) N f1 (M2 n) c (by have:=F.out;omega) b5;have f4:=aoc (m1.put (C n) (some ⟨aR N (fun j=>aM (M2 n j) c),5,.flat,true⟩)) (K n) N f2 (B2 n) c (by have:=F.out;omega) (by rw [cI,if_neg i6];exact d3);have Z:wA ((m1.put (C n) (some ⟨aR N (fun j=>aM (M2 n j) c),5,.flat,true⟩)).put (K n) (some ⟨aR N (fun j=>aM (B2 n j) c),5,.flat,true⟩)) R I N f1 f2 C K (nA M2 n c) (nA B2 n c):=by
     refine ⟨((G.one.put_row d _).put_other (fun h=>d4.2 h.symm) fun i hi=>G.rows i n hi d).congr fun i hi j hj=>by simp only [nA];split <;> rfl, ?_,G.ne,G.rows⟩;refine dC.congr (dC.put_row (G.two.put_other (fun h=>d4.1 h.symm) fun i hi=>fun h=>G.rows n i d hi h.symm) d _) fun i hi j hj=>by simp only [nA];split <;> rfl
    replace a5:=aA.mk a5;replace c0:=aA.mk c0;simp only [bA] at e4 f4;simp only [↓pre,zaj,rR,lQ,simprocAttr,bne,J,D,e6,a8,d,h0,b5,H,v]
    (first | refine aI (c4) (by first | rfl | simp only [aC,aE, *]) ?_ | refine aH (c4) (by first | rfl | simp only [aC,aE, *]) (by intro k;first | rfl | simp only [ *,zaa]) ?_);simp only [↓pre,zaj,rR,lQ,simprocAttr,bne,J,D,a8,d,h0]
    refine nR e4 ?_;simp only [↓pre,zaj,rR,lQ,simprocAttr,bne,V,D,d6,d,i7,f9];refine nR f4 ?_;generalize h5:aF.put (aF.put m1 (C n) _) (K n) _=m2 at Z;clear h5;simp only [↓pre,za,lQ,lE,simprocAttr,bne,J];rw [bS];generalize l4:nA M2 n c=o at Z y;generalize l9:nA B2 n c=B3 at Z y;refine bU (fun q' e m'=>∃ i,q'+i=N∧e 0 = .sl R 0 N N g1∧e 1 = .sl I 0 N N g2∧e 5=aB (n:Nat)∧e 6=aB (j:Nat)∧e 15=aB (N:Nat)∧e 16=aB (j:Nat)∧e 90=aB (N:Nat)∧e 91=aB (i:Nat)∧aA (wA m' R I N f1 f2 C K (fun f q=>if f < i then gC o n (fun i=>o i j) f q else o f q) (fun f q=>if f < i then gC B3 n (fun i=>o i j) f q else B3 f q))) N ⟨0,by omega,J,V,D,e6,u,t,rfl,rfl,⟨?_⟩⟩ ?_
    ·refine ⟨Z.one.congr fun i hi j hj => ?_,Z.two.congr fun i hi j hj => ?_,Z.ne,Z.rows⟩
     ·rw [if_neg (by omega)]
     ·rw [if_neg (by omega)]
    rintro q' e m' ⟨i,p,J,V,D,e6,u,t,b6,b7,g⟩;replace p:=aA.mk p;by_cases l:i < N
    ·have T:((i:Nat):Int) < ((N:Nat):Int):=by omega
     have wi:=cB (n:=i) (by have:=F.out;omega);obtain ⟨i1,Y,k0,a4⟩:=g.out.one.row;obtain ⟨i0,d2,k5,a1⟩:=g.out.two.row;have b9:=a4 i l;have h2:=a4 n d;have h4:=a1 i l;have g6:=a1 n d;obtain ⟨k3,Q⟩:=g.out.one.own i l;obtain ⟨l2,c8⟩:=g.out.two.own i l;obtain ⟨k6,b3⟩:=g.out.one.own n d;obtain ⟨k8,a7⟩:=g.out.two.own n d;have A:=jE (w:=N) (fun q=>if i < i then gC o n (fun i=>o i j) i q else o i q) H;simp only [aBL,if_false,bA] at A Q c8;have hx:=g.out.cross l;have l5:=g.out.cross d;have j4:∀ (X:Mx) (k:Nat→UInt8),(fun q=>if n < i then gC X n k n q else X n q)=X n:=fun X k=>by
      funext q;split
      ·unfold gC;rw [if_pos rfl]
      ·rfl
     rw [j4] at b3 a7;replace a4:=aA.mk a4;replace a1:=aA.mk a1;have x:(i=n∨o i j=0)→wA m' R I N f1 f2 C K (fun f q=>if f < i+1 then gC o n (fun i=>o i j) f q else o f q) (fun f q=>if f < i+1 then gC B3 n (fun i=>o i j) f q else B3 f q):=by
      intro j1;have hk:∀ (X:Mx) (f q:Nat),(if f < i then gC X n (fun i=>o i j) f q else X f q)=(if f < i+1 then gC X n (fun i=>o i j) f q else X f q):=fun X f q=>by
       by_cases e9:f < i
       ·rw [if_pos e9,if_pos (by omega)]
       ·rw [if_neg e9];by_cases e8:f=i
        ·subst e8;rw [if_pos (by omega)];unfold gC;rcases j1 with h9 | h9
         ·rw [if_pos h9]
         ·split
          ·rfl
          ·simp only [h9];rw [vX,uM]
        ·rw [if_neg (by omega)]
      exact ⟨g.out.one.congr fun f a0 q hq=>hk o f q,g.out.two.congr fun f a0 q hq=>hk B3 f q,g.out.ne,g.out.rows⟩
     replace x:=aA.mk x;by_cases c2:i=n
     ·subst c2;simp only [↓pre,zaj,rR,lQ,simprocAttr,bne,J,V,D,e6,u,t,b6,b7,T,Y,l,b9,Q,H,A,wi];exact ⟨q' - 1,by have:=p.out;omega,i+1,by have:=p.out;omega,rfl,⟨x.out (.inl rfl)⟩⟩
     ·have c7:¬ ((i:Nat):Int)=((n:Nat):Int):=by omega
      by_cases hz:o i j=0
      ·have W:(((o i j).toNat:Nat):Int)=0:=by rw [hz];rfl
       simp only [↓pre,zaj,rR,lQ,simprocAttr,bne,J,V,D,e6,u,t,b6,b7,T,Y,l,b9,Q,H,A,c7,W,wi];exact ⟨q' - 1,by have:=p.out;omega,i+1,by have:=p.out;omega,rfl,⟨x.out (.inr hz)⟩⟩
      ·have W:¬ (((o i j).toNat:Nat):Int)=0:=by
        intro hh;exact hz (aBf.1 (by simp;omega))
       have f3:¬ C i=C n:=fun h=>c2 (g.out.one.inj i n l d h)
       have d9:¬ K i=K n:=fun h=>c2 (g.out.two.inj i n l d h)
       have g9:=aod m' (C i) (C n) N f1 f1 (o i) (o n) (o i j) (by have:=F.out;omega) f3 Q b3;have j6:¬ K i=C i:=fun h=>g.out.rows i i l l h.symm
       have j7:¬ K n=C i:=fun h=>g.out.rows i n l d h.symm
       have j3:¬ I=C i:=fun h=>hx.1 h.symm
       have f0:=aod (m'.put (C i) (some ⟨aR N (fun q=>o i q ^^^ aM (o i j) (o n q)),5,.flat,true⟩)) (K i) (K n) N f2 f2 (B3 i) (B3 n) (o i j) (by have:=F.out;omega) d9 (by rw [cI,if_neg j6];exact c8) (by rw [cI,if_neg j7];exact a7);have g3:wA ((m'.put (C i) (some ⟨aR N (fun q=>o i q ^^^ aM (o i j) (o n q)),5,.flat,true⟩)).put (K i) (some ⟨aR N (fun q=>B3 i q ^^^ aM (o i j) (B3 n q)),5,.flat,true⟩)) R I N f1 f2 C K (fun f q=>if f < i+1 then gC o n (fun i=>o i j) f q else o f q) (fun f q=>if f < i+1 then gC B3 n (fun i=>o i j) f q else B3 f q):=by
        have hk:∀ (X:Mx) (f q:Nat),(if f=i then (fun q=>X i q ^^^ aM (o i j) (X n q)) else fun q=>if f < i then gC X n (fun i=>o i j) f q else X f q) q=(if f < i+1 then gC X n (fun i=>o i j) f q else X f q):=fun X f q=>by
         by_cases e8:f=i
         ·subst e8;rw [if_pos rfl,if_pos (by omega)];unfold gC;rw [if_neg c2]
         ·rw [if_neg e8];by_cases e9:f < i
          ·simp only [if_pos e9,if_pos (show f < i+1 by omega)]
          ·simp only [if_neg e9,if_neg (show ¬ f < i+1 by omega)]
        refine ⟨((g.out.one.put_row l _).put_other (fun h=>hx.2 h.symm) fun f a0=>g.out.rows f i a0 l).congr fun f a0 q hq=>hk o f q, ?_,g.out.ne,g.out.rows⟩;exact (dC.put_row (g.out.two.put_other (fun h=>hx.1 h.symm) fun f a0=>fun h=>g.out.rows i f l a0 h.symm) l _).congr fun f a0 q hq=>hk B3 f q
       replace x:=aA.mk x;simp only [bA] at g9 f0;simp only [↓pre,zaj,rR,lQ,simprocAttr,bne,J,D,e6,b6,b7,T,Y,l,b9,h2,d,Q,H,A,c7,W];refine nR g9 ?_;refine cX (by kernel_rfl) ?_;simp only [↓pre,zaj,rR,lQ,simprocAttr,bne,V,D,d2,j3,l,h4,g6,d];refine nR f0 ?_;refine cX (by kernel_rfl) ?_;generalize f8:aF.put (aF.put m' (C i) _) (K i) _=m5 at g3;clear f8;simp only [↓pre,zad,lQ,simprocAttr,bne,J,V,D,e6,u,t,b6,b7,wi];exact ⟨q' - 1,by have:=p.out;omega,i+1,by have:=p.out;omega,rfl,⟨g3⟩⟩
    ·have T:¬ ((i:Nat):Int) < ((N:Nat):Int):=by omega
     have j5:i=N:=by have:=p.out;omega
     subst j5;have wn:=cB (n:=n) (by have:=F.out;omega);simp only [↓pre,zad,lQ,simprocAttr,bne,J,V,D,u,t,b6,b7,T,wn,w1];refine ⟨q - 1,by have:=hq.out;omega,j+1,C,K,by have:=hq.out;omega,by rw [y.out],rfl,⟨?_⟩⟩;rw [y.out];refine ⟨g.out.one.congr fun f hi j' hj => ?_,g.out.two.congr fun f hi j' hj => ?_,g.out.ne,g.out.rows⟩
     ·simp only [if_pos hi]
     ·simp only [if_pos hi]
  ·refine bU (fun q' e m'=>∃ a,q'+a=N∧s.n≤a∧e 0 = .sl R 0 N N g1∧e 1 = .sl I 0 N N g2∧e 5=aB (s.n:Nat)∧e 6=aB (j:Nat)∧e 7=aB (a:Nat)∧e 15=aB (N:Nat)∧e 16=aB (j:Nat)∧aA (dQ s.m j (N - s.n) s.n=dQ s.m j (N - a) a)∧m'=m) (N - s.n) ⟨s.n,by have:=a6.out;omega,aza _,J,V,D,rfl,rfl,u,t,⟨rfl⟩,rfl⟩ ?_;rintro q' e m' ⟨a,p,d0,J,V,D,e6,e7,u,t,d5,rfl⟩;replace p:=aA.mk p;replace d0:=aA.mk d0;by_cases c3:a < N
   ·have a3:((a:Nat):Int) < ((N:Nat):Int):=by omega
    obtain ⟨cells,O,i8,L⟩:=U.out.one.row;have c5:=L a c3;obtain ⟨l8,c6⟩:=U.out.one.own a c3;have v:=jE (w:=N) (s.m a) H;simp only [bA] at v;have wa:=cB (n:=a) (by have:=F.out;omega);have d1:N - a=(N - (a+1))+1:=by omega
    have E:dQ s.m j (N - a) a=if s.m a j≠0 then a else dQ s.m j (N - (a+1)) (a+1):=by rw [d1];rfl
    replace L:=aA.mk L;replace d1:=aA.mk d1;by_cases hz:s.m a j=0
    ·have W:(((s.m a j).toNat:Nat):Int)=0:=by rw [hz];rfl
     rw [if_neg (by simp [hz])] at E;replace E:=aA.mk E;simp only [↓pre,zaj,rR,lQ,lE,simprocAttr,bne,J,V,D,e6,e7,u,t,a3,c3,O,c5,H,c6,v,W,wa];exact ⟨q' - 1,by have:=p.out;omega,a+1,by have:=p.out;omega,by have:=d0.out;omega,rfl,⟨by rw [d5.out,E.out]⟩⟩
    ·have W:¬ (((s.m a j).toNat:Nat):Int)=0:=by
      intro hh;exact hz (aBf.1 (by simp;omega))
     rw [if_pos hz] at E;replace E:=aA.mk E;simp only [↓pre,zaj,rR,lQ,lE,simprocAttr,bne,J,V,D,e6,e7,u,t,a3,c3,O,c5,H,c6,v,W];rw [d5.out,E.out]
   ·have a3:¬ ((a:Nat):Int) < ((N:Nat):Int):=by omega
    have j8:a=N:=by have:=p.out;omega
    subst j8;have E:dQ s.m j (a - a) a=a:=by rw [azc];rfl
    simp only [↓pre,za,lQ,lE,simprocAttr,bne,J,V,D,e6,e7,u,t,a3];rw [d5.out,E]
 ·have b0:¬ ((j:Nat):Int) < ((N:Nat):Int):=by omega
  have i9:j=N:=by have:=hq.out;omega
  subst i9;simp only [↓pre,zad,lQ,simprocAttr,bne,D,u,t,b0];have:=d8.out;subst this;exact ⟨β,γ,rfl,U.out⟩
theorem avt (v:AV) (n:Nat) (M:Mx) (cells:List AV) (c:qD v n n M cells) (d:1≤n) (b:n≤32) (N:afv n M):aQ ayU 291 [v] ⟨.tup [.tree n n (nC true n n (mP n M)) true,aB 0],[]⟩:=by
 refine gA ?_;have V:=c.rd.plain;have u:n≤cells.length:=by
  obtain ⟨a,x,h,_⟩:=c.at_ (n - 1) (by omega);have:=(ay8.1 h).1;omega
 have g:=avh v n n M cells c d b d b;have f:=fun m=>aob m n d b
 have q:=fun m=>avq m v n n M cells c d b d b u
 have e:=fun m F L l B I J β γ h=>avr m F L n l B I J β γ M jX d b h
 have A:=(au2 N).1;rw [A] at e;obtain ⟨Z,W,z,t⟩:=c.at_ 0 (by omega);have s:0 < n:=by omega
 have w:¬ ((n:Nat):Int) < ((n:Nat):Int):=by omega
 have K:aF.empty.next=0:=rfl;refine bV Tryz.func291 aD (h:=?_);unfold Tryz.f291;simp only [↓pre,zab,simprocAttr]
 (first | refine aI (g) (by first | rfl | simp only [aE, *]) ?_ | refine aH (g) (by first | rfl | simp only [aC,aE, *]) (by intro k;first | rfl | simp only [ *,zaa]) ?_);simp only [↓pre,zae,amL,simprocAttr,c.rd.len',c.rd.addr',s,z,t.len']
 refine jD (f _) ?_;rintro r C ⟨β,rfl,p,S,U,Y⟩;simp only [↓pre,zab,simprocAttr];refine jD (q C) ?_;rintro r E ⟨γ,rfl,l,B,O,X⟩;have D:=p.lt;have H:wA E C.next aF.empty.next n false true γ β M jX:=by
  refine ⟨l,p.keep (Nat.le_of_lt (azd (Nat.lt_succ_self _) (by have:=l.lt;omega))) fun j k o y _=>O j k o y,by omega,fun i j hi o => ?_⟩;have e1:=B i hi;have T:=(p.own j o).1;omega
 simp only [↓pre,zab,simprocAttr];refine jD (e E _ _ _ _ _ _ _ _ H) ?_;rintro r R ⟨P,Q,rfl,G⟩;simp only [↓pre,zae,amL,simprocAttr,c.rd.len',w];exact ⟨1,by rw [kH,eC,G.two.fzT,aAk,eC,gU,jI];rfl⟩
theorem avu (v:AV) (L:List (List UInt8)) (cells:List AV) (n:Nat) (j:aap v L cells) (l:∀ b∈L,b.length=n) (I:n≤65536) (F:L.length≤65536):aQ ayU 301 [v] ⟨aZ true,[]⟩:=by
 have E:=j.rd.plain;have B:¬ (65536:Int) < ((n:Nat):Int):=by omega
 replace l:=aA.mk l;refine aV Tryz.func301 aD (h:=?_);unfold Tryz.f301;simp only [↓pre,zae,amM,simprocAttr,j.rd.len'];rw [bS];refine bU (fun q e m=>∃ i,q+i=L.length∧e 0=v∧e 5=v∧e 6=aB (L.length:Nat)∧e 7=aB (i:Nat)) L.length ⟨0,by omega,rfl,rfl,rfl,rfl⟩ ?_;rintro q e m ⟨i,k,C,z,t,s⟩;replace k:=aA.mk k;by_cases g:i < L.length
 ·have c:((i:Nat):Int) < ((L.length:Nat):Int):=by omega
  have w1:=cB (n:=i) (by omega);obtain ⟨b,o⟩:∃ b,L[i]? = some b:=⟨_,azm g⟩
  obtain ⟨u,d⟩:∃ b,L[0]? = some b:=⟨_,azm (by omega)⟩
  have w:0 < L.length:=by omega
  obtain ⟨a,x,A,r⟩:=j.at_ i b o;obtain ⟨H,G,p,f⟩:=j.at_ 0 u d;have D:=l.out b (az8 o);have y:=l.out u (az8 d);rw [D] at r;rw [y] at f;replace o:=aA.mk o;replace d:=aA.mk d;simp only [↓pre,zae,amM,simprocAttr,C,z,t,s,j.rd.addr',g,c,A,r.len',w,p,f.len',B,w1];exact ⟨q - 1,by have:=k.out;omega,i+1,by have:=k.out;omega,rfl⟩
 ·have c:¬ ((i:Nat):Int) < ((L.length:Nat):Int):=by omega
  simp only [↓pre,zac,simprocAttr,t,s,c]
theorem afz {m:aF} {x:eZ} {y:Option eZ} {b:eZ} (h:y=some b):(m.push x).put m.next y=m.push b:=by
 subst h;obtain ⟨n,a,mm⟩:=m;unfold aF.put aF.push;congr 1;funext j;simp only;split <;> rfl
def yR:Nat→Bool:=fun d=>d != 6 && d != 29 && d != 35
theorem avv:gF ayU 338=some ((aAp 256).map fun _ => .int .u8 0):=by kernel_rfl
theorem avw (m0:aF) (b n:Nat) (f:Bool) (A B:Nat→UInt8) (c:UInt8) (P:AV) (x:List AV) (Z:aT P n (aR n B++x)) (hn:n≤65536) (hb:m0.at_ b=some ⟨aR n A,5,.flat,true⟩) (a0:b < m0.next):dV ayU 302 [.sl b 0 n n f,bA c,P] m0 fun r m'=>r = .tup []∧m'=(m0.push ⟨aR 256 (fun i=>aM c (azQ i)),338,.var,true⟩).put b (some ⟨aR n (fun j=>A j ^^^ aM c (B j)),5,.flat,true⟩):=by
 have X:=aij c;have Y:=aif;have hz:=avv;have hp:=Z.plain;simp only [bA] at X Y;refine bV Tryz.func302 yR (h:=?_);unfold Tryz.f302;simp only [↓pre,zad,yR,bD,simprocAttr,bne,bA,hz];have V:List.map AV.val ((aAp 256).map fun _=>Value.int .u8 0)=aR 256 fun _=>0:=by
  unfold aR tab;rw [aBy,aBy];rfl
 rw [V];rw [bS];refine bU (fun q e m=>∃ i,q+i=256∧e 0 = .sl b 0 n n f∧e 1=bA c∧e 2=P∧e 6 = .ptr m0.next 0∧e 9=aB (i:Nat)∧m=m0.push ⟨aR 256 (fun j=>if j < i then aM c (azQ j) else 0),338,.var,true⟩) 256 ⟨0,by omega,rfl,rfl,rfl,rfl,rfl,rfl⟩ ?_;rintro q e m ⟨i,t,E,M,s,I,W,rfl⟩;replace t:=aA.mk t;by_cases o:i < 256
 ·have l:((i:Nat):Int) < 256:=by omega
  have w1:=cB (n:=i) (by omega);have w2:=aaq o;have K:=X (azQ i);have d:=aao (w:=256) (f:=fun j=>if j < i then aM c (azQ j) else 0) (g:=fun j=>if j < i+1 then aM c (azQ j) else 0) o fun j N=>by
   by_cases e:j=i
   ·subst e;rw [if_pos rfl]
   ·rw [if_neg e];by_cases s:j < i
    ·rw [if_pos s,if_pos (by omega)]
    ·rw [if_neg s,if_neg (by omega)]
  simp only [show i < i+1 by omega,if_true] at d;unfold cH at d;simp only [bA,zak,azq] at d;have y:i+1≤(aR 256 fun j=>if j < i then aM c (azQ j) else 0).length:=by rw [fW];omega
  simp only [↓pre,zad,ae7,yR,cO,simprocAttr,bne,bA,M,W,l,w2]
  (first | refine aI (K) (by first | rfl | simp only [aC,aE, *]) ?_ | refine aH (K) (by first | rfl | simp only [aC,aE, *]) (by intro k;first | rfl | simp only [ *,zaa]) ?_);simp only [↓pre,zaj,ae7,yR,simprocAttr,bne,aS,bA,E,M,s,I,W,o,y,d,afz rfl,w1]
  exact ⟨q - 1,by have:=t.out;omega,i+1,by have:=t.out;omega,rfl,rfl⟩
 ·have l:¬ ((i:Nat):Int) < 256:=by omega
  have hi:i=256:=by have:=t.out;omega
  subst hi;have hT:aR 256 (fun j=>if j < 256 then aM c (azQ j) else 0)=aR 256 fun i=>aM c (azQ i):=rY fun j N=>by rw [if_pos N]
  rw [hT];generalize R:(aR 256 fun i=>aM c (azQ i))=T;have L:∀ z:UInt8,T[z.toNat]? = some (.val (.int .u8 (aM c z).toNat)):=fun z=>by
   rw [←R,jE (w:=256) (fun i=>aM c (azQ i)) z.toNat_lt,UInt8.ofNat_toNat];rfl
  have Q:∀ z:UInt8,z.toNat < 256:=fun z=>z.toNat_lt
  simp only [↓pre,za,yR,lE,simprocAttr,bne,bA,E,W];rw [bS];refine bU (fun q e m=>∃ j,q+j=n∧e 0 = .sl b 0 n n f∧e 1=bA c∧e 2=P∧e 6 = .ptr m0.next 0∧e 20=aB (n:Nat)∧e 21=aB (j:Nat)∧aA (m=(m0.push ⟨T,338,.var,true⟩).put b (some ⟨aR n (fun a=>if a < j then A a ^^^ aM c (B a) else A a),5,.flat,true⟩))) n ⟨0,by omega,E,M,s,I,rfl,rfl,⟨?_⟩⟩ ?_
  ·have:aR n (fun a=>if a < 0 then A a ^^^ aM c (B a) else A a)=aR n A:=rY fun j _=>by rw [if_neg (by omega)]
   rw [this,acr];rw [cF,if_neg (by omega)];exact hb
  rintro q e m ⟨j,t,E,M,s,I,D,C,O⟩;replace t:=aA.mk t;by_cases o:j < n
  ·have l:((j:Nat):Int) < ((n:Nat):Int):=by omega
   have w1:=cB (n:=j) (by omega);have H:m.at_ b=some ⟨aR n (fun a=>if a < j then A a ^^^ aM c (B a) else A a),5,.flat,true⟩:=by rw [O.out,cI,if_pos rfl]
   have F:m.at_ m0.next=some ⟨T,338,.var,true⟩:=by rw [O.out,cI,if_neg (by omega),cF,if_pos rfl]
   have u:=jE (w:=n) (fun a=>if a < j then A a ^^^ aM c (B a) else A a) o;have p:(aR n B++x)[j]? = some (bA (B j)):=by rw [azg (by rw [fW];omega)];exact jE B o
   simp only [aBL,if_false,bA] at u p;have d:=aao (w:=n) (f:=fun a=>if a < j then A a ^^^ aM c (B a) else A a) (g:=fun a=>if a < j+1 then A a ^^^ aM c (B a) else A a) o fun a a1=>by
    by_cases e:a=j
    ·subst e;rw [if_pos rfl]
    ·rw [if_neg e];by_cases s:a < j
     ·rw [if_pos s,if_pos (by omega)]
     ·rw [if_neg s,if_neg (by omega)]
   simp only [show j < j+1 by omega,if_true] at d;unfold cH at d;simp only [bA,zak,azq] at d;have y:j+1≤(aR n fun a=>if a < j then A a ^^^ aM c (B a) else A a).length:=by rw [fW];omega
   have J:=Y (A j) (aM c (B j));have S:=L (B j);have G:=Q (B j);simp only [↓pre,zaj,ae7,yR,simprocAttr,bne,bA,E,s,I,D,C,l,o,H,F,u,p,Z.addr',S,G]
   (first | refine aI (J) (by first | rfl | simp only [aC,aE, *]) ?_ | refine aH (J) (by first | rfl | simp only [aC,aE, *]) (by intro k;first | rfl | simp only [ *,zaa]) ?_);simp only [↓pre,zaj,ae7,yR,simprocAttr,bne,aS,o,H,y,d]
   refine cX (by kernel_rfl) ?_;simp only [↓pre,zad,yR,simprocAttr,bne,bA,E,M,s,I,D,C,w1];refine ⟨q - 1,by have:=t.out;omega,j+1,by have:=t.out;omega,rfl,⟨?_⟩⟩;rw [O.out,aas]
  ·have l:¬ ((j:Nat):Int) < ((n:Nat):Int):=by omega
   have N:j=n:=by have:=t.out;omega
   subst N;have v:=O.out;have U:aR j (fun a=>if a < j then A a ^^^ aM c (B a) else A a)=aR j fun a=>A a ^^^ aM c (B a):=rY fun x hx=>by rw [if_pos hx]
   rw [U] at v;subst v;simp only [↓pre,zad,yR,simprocAttr,bne,bA,D,C,l]
def pB (N:Nat) (c:Nat→UInt8) (M:Mx):Nat→UInt8:=fun p=>gM N fun q=>aM (c q) (M q p)
def act:Nat→Bool:=fun d=>d != 45
theorem avx (A w:AV) (N n:Nat) (c:Nat→UInt8) (M:Mx) (x:List AV) (cells:List AV) (F:aT A N (aR N c++x)) (g:qD w N n M cells) (V:1≤N) (O:N≤16) (I:n≤65536):dV ayU 245 [A,w] aF.empty fun r m=>r = .tup [.sl 0 0 n n true,aB 0]∧m.at_ 0=some ⟨aR n (pB N c M),5,.flat,true⟩:=by
 have T:=g.rd.plain;have S:=F.plain;have v:((aAp N).map fun i=>tab n (M i)).length=N:=by simp
 have s:=avu w _ cells n g.rows (fun b R=>by
  obtain ⟨i,_,rfl⟩:=azp.1 R;exact pA _ _) I (by rw [v];omega)
 have P:¬ (16:Int) < ((N:Nat):Int):=by omega
 have Q:¬ ((N:Nat):Int)=0:=by omega
 have p:0 < N:=by omega
 obtain ⟨W,U,H,E⟩:=g.at_ 0 p;have z:=fun m=>vZ m (n:=n) I
 have G:aF.empty.next=0:=rfl;refine bV Tryz.func245 act (h:=?_);unfold Tryz.f245;simp only [↓pre,za,ahw,act,simprocAttr,bne,g.rd.len',F.len',P]
 (first | refine aI (s) (by first | rfl | simp only [aE, *]) ?_ | refine aH (s) (by first | rfl | simp only [aC,aE, *]) (by intro k;first | rfl | simp only [ *,zaa]) ?_);simp only [↓pre,za,ahw,act,simprocAttr,bne,g.rd.len',g.rd.addr',p,H,E.len',Q,z,G]
 rw [bS];refine bU (fun q e m=>∃ i,q+i=N∧e 0=A∧e 1=w∧e 6 = .sl 0 0 n n true∧e 32=aB (N:Nat)∧e 33=aB (i:Nat)∧aA (m.at_ 0=some ⟨aR n (pB i c M),5,.flat,true⟩∧0 < m.next)) N ⟨0,by omega,rfl,rfl,rfl,rfl,rfl,⟨rfl,by simp [cQ]⟩⟩ ?_;rintro q e m ⟨i,u,K,L,D,j,o,B⟩;replace u:=aA.mk u;by_cases l:i < N
 ·have d:((i:Nat):Int) < ((N:Nat):Int):=by omega
  have w1:=cB (n:=i) (by omega);obtain ⟨a,y,C,J⟩:=g.at_ i l;have t:(aR N c++x)[i]? = some (bA (c i)):=by rw [azg (by rw [fW];omega)];exact jE c l
  have f:=avw m 0 n true (pB i c M) (M i) (c i) a y J I B.out.1 B.out.2;simp only [bA] at f t;simp only [↓pre,za,ahw,act,simprocAttr,bne,K,L,D,j,o,d,F.addr',g.rd.addr',l,C,t];refine nR f ?_;refine cX (by kernel_rfl) ?_;simp only [↓pre,za,act,simprocAttr,bne,K,L,D,j,o,w1];exact ⟨q - 1,by have:=u.out;omega,i+1,by have:=u.out;omega,rfl,⟨rfl,Nat.succ_pos _⟩⟩
 ·have d:¬ ((i:Nat):Int) < ((N:Nat):Int):=by omega
  have hi:i=N:=by have:=u.out;omega
  subst hi;simp only [↓pre,zad,act,simprocAttr,bne,D,j,o,d];exact B.out.1
theorem aoe (b a:AV) (N n:Nat) (c:Nat→UInt8) (M:Mx) (x:List AV) (cells:List AV) (f:aT b N (aR N c++x)) (j:qD a N n M cells) (e:1≤N) (d:N≤16) (i:n≤65536):aQ ayU 245 [b,a] ⟨.tup [.sl 0 0 n n true,aB 0],[(5,aR n (pB N c M))]⟩:=by
 refine aeF (mW (avx b a N n c M x cells f j e d i) ?_);rintro r m ⟨rfl,h⟩;have g:bK ayU 5 = .flat:=by kernel_rfl
 simp [jB,canon,fN,aB,h,g]
def wB (k r i:Int):Value := .agg #[.int .i64 k,.int .i64 r,.int .i64 i]
theorem avy (k r i a:Int):cT ayU (Op.equal 265 (wB k r i) (wB k r a))=some (decide (i=a)):=by
 refine amh (by kernel_rfl) (by kernel_rfl) ?_;have h:yG ayU #[.int .i64 k,.int .i64 r,.int .i64 i] #[.int .i64 k,.int .i64 r,.int .i64 a] (abW ayU 265)=if k=k then (if r=r then (if i=a then some true else some false) else some false) else some false:=by kernel_rfl
 rw [h,if_pos rfl,if_pos rfl];by_cases hi:i=a <;> simp [hi]
theorem aof (k r i:Int):ac2 ayU 265 (wB k r i)=true:=by kernel_rfl
theorem afA:zQ ayU 206=some (265,aW):=by kernel_rfl
def wC (k r n:Nat):List (Value×AV):=(aAp n).map fun i=>(wB (k:Nat) (r:Nat) (i:Nat),.tree k k (aR k (fO k i)) true)
theorem avz (k r n:Nat):wC k r (n+1)=wC k r n++[(wB (k:Nat) (r:Nat) (n:Nat),.tree k k (aR k (fO k n)) true)]:=by
 unfold wC;rw [aAW,aBs];rfl
theorem aog (k r:Nat) (i:Int) (a:Nat):∀ (n:Nat),vF ayU 265 (wB (k:Nat) (r:Nat) i) ((List.range' a n).map fun (i:Nat)=>(wB (k:Nat) (r:Nat) (i:Nat),(.tree k k (aR k (fO k i)) true:AV)))=some (if (a:Int)≤i∧i < (a+n:Nat) then some (i.toNat - a) else none)
 | 0=>by rw [if_neg (by omega)];rfl
 | n+1=>by
  rw [List.range'_succ,aAr,vF,avy];by_cases h:i=(a:Nat)
  ·rw [decide_eq_true h,if_pos (by omega)];have:i.toNat - a=0:=by omega
   rw [this]
  ·rw [decide_eq_false h,aog k r i (a+1) n];by_cases b:(a:Int)≤i∧i < (a+(n+1):Nat)
   ·rw [if_pos b,if_pos (by omega)];simp only [az6];congr 2;omega
   ·rw [if_neg b,if_neg (by omega)];rfl
 termination_by n=>n
theorem aoh (k r:Nat) (i:Int) (n:Nat):vF ayU 265 (wB (k:Nat) (r:Nat) i) (wC k r n)=some (if 0≤i∧i < (n:Nat) then some i.toNat else none):=by
 have:=aog k r i 0 n;unfold wC;rw [List.range_eq_range'];simpa using this
def rA (m:aF) (g k r n:Nat):Prop:=m.mm.maps g=some (wC k r n)
theorem aoi {m:aF} {g k r n i:Nat} (h:rA m g k r n) (hi:i < n):xY ayU m 206 (.val (.map (some g))) (.agg [aB (k:Nat),aB (r:Nat),aB (i:Nat)])=some (.tree k k (aR k (fO k i)) true):=by
 unfold rA at h;rw [arA (by rw [afA];rfl)];have c:jO (.agg [aB (k:Nat),aB (r:Nat),aB (i:Nat)])=some (wB (k:Nat) (r:Nat) (i:Nat)):=rfl;have a:=aoh k r (i:Nat) n;rw [if_pos (by omega)] at a;have b:(wC k r n)[i]? = some (wB (k:Nat) (r:Nat) (i:Nat),.tree k k (aR k (fO k i)) true):=by
  unfold wC;rw [azo,aBS hi];rfl
 simp only [ac3,afA,sU,h,c,aAk,az6,aof,if_true,a,Int.toNat_natCast,b]
theorem aoj {m:aF} {g k r n:Nat} (h:rA m g k r n):vG ayU m 206 (.val (.map (some g))) (.agg [aB (k:Nat),aB (r:Nat),aB (n:Nat)]) (.tree k k (aR k (fO k n)) true)=some ⟨eI,m.setM (m.mm.set g (wC k r (n+1))),none⟩:=by
 unfold rA at h;rw [arB (by rw [afA];rfl)];have b:jO (.agg [aB (k:Nat),aB (r:Nat),aB (n:Nat)])=some (wB (k:Nat) (r:Nat) (n:Nat)):=rfl;have a:=aoh k r (n:Nat) n;rw [if_neg (by omega)] at a;simp only [abF,afA,sU,h,b,aAk,az6,aof,if_true,a,avz];rfl
theorem aok {m:aF} {g k r n:Nat}:rA (m.setM (m.mm.set g (wC k r n))) g k r n:=by
 unfold rA;simp [aF.setM,Maps.set]
theorem aol (m0:aF) (k r:Nat) (N:1≤k) (K:k≤12) (O:r≤4):dV ayU 177 [aB (k:Nat),aB (r:Nat)] m0 fun J m'=>∃ g mm,J = .val (.map (some g))∧m'=m0.setM mm∧rA m' g k r (k+r):=by
 have R:¬ ((k:Nat):Int) < 1:=by omega
 have U:¬ (12:Int) < ((k:Nat):Int):=by omega
 have T:¬ ((r:Nat):Int) < 0:=by omega
 have P:¬ (4:Int) < ((r:Nat):Int):=by omega
 have p:=avm k N (by omega);have M:=(afx true true k k jX).rd;refine bV Tryz.func177 aD (h:=?_);unfold Tryz.f177;simp only [↓pre,zac,simprocAttr,R,U,T,P];intro g V;simp only [↓pre,zab,simprocAttr]
 (first | refine aI (p) (by first | rfl | simp only [aC,aE, *]) ?_ | refine aH (p) (by first | rfl | simp only [aC,aE, *]) (by intro k;first | rfl | simp only [ *,zaa]) ?_);simp only [↓pre,zai,aeX,simprocAttr,M.len']
 rw [bS];refine bU (fun q e m=>∃ i mm,q+i=k∧e 0=aB (k:Nat)∧e 1=aB (r:Nat)∧e 5 = .val (.map (some g))∧e 34 = .tree k k (nC true k k jX) true∧e 35=aB (k:Nat)∧e 36=aB (i:Nat)∧m=m0.setM mm∧rA m g k r i) k ⟨0,_,by omega,rfl,rfl,rfl,rfl,rfl,rfl,rfl,by simp [rA,aF.setM,Maps.add,wC]⟩ ?_;rintro q e m ⟨i,mm,B,C,y,x,G,t,s,rfl,v⟩;replace B:=aA.mk B;by_cases u:i < k
 ·have b:((i:Nat):Int) < ((k:Nat):Int):=by omega
  have w1:=cB (n:=i) (by omega);have d:=aa7 true (w:=k) jX u;have F:aR k (jX i)=aR k (fO k i):=rY fun j L=>by unfold jX fO;rw [if_pos u]
  rw [F] at d;have D:=aoj v;simp only [aB] at D;simp only [↓pre,zae,aeX,simprocAttr,C,y,x,G,t,s,b,M.addr',u,d,D,w1];exact ⟨q - 1,by have:=B.out;omega,i+1,_,by have:=B.out;omega,rfl,rfl,aok⟩
 ·have b:¬ ((i:Nat):Int) < ((k:Nat):Int):=by omega
  have hi:i=k:=by have:=B.out;omega
  subst hi;by_cases H:r=0
  ·have f:¬ (0:Int) < ((r:Nat):Int):=by omega
   simp only [↓pre,zac,simprocAttr,y,x,t,s,b,f];subst H;exact ⟨g,mm,rfl,rfl,v⟩
  ·have f:(0:Int) < ((r:Nat):Int):=by omega
   have l:=avn i r N K (by omega) O;have A:=(afx true true r i (iD i)).rd;simp only [↓pre,zac,simprocAttr,C,y,t,s,b,f]
   (first | refine aI (l) (by first | rfl | simp only [aC,aE, *]) ?_ | refine aH (l) (by first | rfl | simp only [aC,aE, *]) (by intro k;first | rfl | simp only [ *,zaa]) ?_);simp only [↓pre,zai,aeX,simprocAttr,A.len']
   rw [bS];refine bU (fun q e m=>∃ j mm,q+j=r∧e 0=aB (i:Nat)∧e 1=aB (r:Nat)∧e 5 = .val (.map (some g))∧e 56 = .tree r r (nC true r i (iD i)) true∧e 57=aB (r:Nat)∧e 58=aB (j:Nat)∧m=m0.setM mm∧rA m g i r (i+j)) r ⟨0,mm,by omega,C,y,x,rfl,rfl,rfl,rfl,v⟩ ?_;rintro Q e m ⟨j,mm,c,C,y,x,I,z,E,rfl,v⟩;replace c:=aA.mk c;by_cases o:j < r
   ·have a:((j:Nat):Int) < ((r:Nat):Int):=by omega
    have w1:=cB (n:=j) (by omega);have S:azy.wrap (((i:Nat):Int)+((j:Nat):Int))=((i+j:Nat):Int):=by rw [←aBX];exact dO (by omega)
    have d:=aa7 true (w:=i) (iD i) o;have F:aR i (iD i j)=aR i (fO i (i+j)):=rfl;rw [F] at d;have D:=aoj v;simp only [aB] at D;simp only [↓pre,zae,aeX,simprocAttr,C,y,x,I,z,E,a,A.addr',o,d,S,D,w1];exact ⟨Q - 1,by have:=c.out;omega,j+1,_,by have:=c.out;omega,rfl,rfl,aok⟩
   ·have a:¬ ((j:Nat):Int) < ((r:Nat):Int):=by omega
    have L:j=r:=by have:=c.out;omega
    subst L;simp only [↓pre,zac,simprocAttr,x,z,E,a];exact ⟨g,mm,rfl,rfl,v⟩
theorem yS {m:aF} {el:TypeId} {sz n:Nat} {v:AV} {cells:List AV} (h:Own m el sz v n cells) (k:Nat):fzT k m v=some (bE n cells):=by
 rcases h.form with ⟨rfl,rfl,rfl⟩ | ⟨b,rfl,c,a,d⟩
 ·unfold aW bE;rw [gU];rfl
 ·rw [wW c,aBx];unfold bE;rw [if_neg (by omega)]
def kL (c:AV):Prop:=∀ (k:Nat) (m:aF),fzT k m c=some c
theorem aom (n c:Nat) (cs:List AV) (f:Bool):kL (.tree n c cs f):=fun k m=>abU
theorem dK (v:Value):kL (.val v):=fun k m=>gU
theorem xI {v:AV} {n:Nat} {cs:List AV} (h:aT v n cs):kL v:=fun k m=>ada h
theorem adF {k:Nat} {m:aF}:∀ (cs:List AV),(∀ c∈cs,kL c)→nQ k m cs=some cs
 | [],_=>jI
 | c::cs,h=>by
  rw [eC,h c (by simp) k m,aAk,adF cs fun x a=>h x (by simp [a])];rfl
theorem adG {m:aF} {el:TypeId} {sz n:Nat} {v:AV} {cells:List AV} (h:bY .var m el sz v n cells) (d:∀ c∈cells,kL c) (k:Nat):fzT (k+1) m v=some (bE n cells):=by
 rcases h.form with ⟨rfl,rfl,rfl⟩ | ⟨b,rfl,e,a,f⟩
 ·unfold aW bE;rw [gU];rfl
 ·rw [aey e (adF _ (by rw [aBx];exact d)),aBx];unfold bE;rw [if_neg (by omega)]
def bP (C:List (List UInt8)) (n:Nat):List Nat:=(aAp n).filter fun i=>decide ((C.getD i []).length≠0)
theorem yT (C:List (List UInt8)) (n:Nat):bP C (n+1)=bP C n++(if (C.getD n []).length≠0 then [n] else []):=by
 unfold bP;rw [aAW,List.filter_append];congr 1;by_cases h:(C.getD n []).length≠0 <;> simp [aBM]
theorem afB (C:List (List UInt8)) (n:Nat):(bP C n).length≤n:=by
 unfold bP;have:=List.length_filter_le (fun i=>decide ((C.getD i []).length≠0)) (aAp n);rw [aBN] at this;exact this
theorem ain {C:List (List UInt8)} {n i:Nat} (h:i∈bP C n):i < n∧(C.getD i []).length≠0:=by
 unfold bP at h;rw [aBP,aAz] at h;exact ⟨h.1,by simpa using h.2⟩
theorem aon (C:List (List UInt8)) (n:Nat):(bP C n).Nodup:=aBO.filter _
def nD (l:List Nat):List AV:=l.map fun (i:Nat)=>aB i
theorem aoo (a b:List Nat):nD (a++b)=nD a++nD b:=by simp [nD]
theorem aop {l:List Nat} {i n:Nat} (h:l[i]? = some n):(nD l)[i]? = some (.val (.int .i64 n)):=by
 unfold nD;rw [azo,h];rfl
theorem tC {C:List (List UInt8)} {i:Nat} {b:List UInt8} (h:C[i]? = some b):C.getD i []=b:=by rw [azs,h];rfl
def aa9 (C:List (List UInt8)) (L:Nat):Prop:=∀ b∈C,b.length=0∨b.length=L
theorem aoq (v:AV) (C:List (List UInt8)) (cells:List AV) (L:Nat) (s:aap v C cells) (H:aa9 C L) (hL:L≤65536) (hn:C.length≤1000):aQ ayU 178 [v,aB (C.length:Nat)] ⟨.tup [(jC 3 (bP C C.length).length (nD (bP C C.length))).v,aZ true],(jC 3 (bP C C.length).length (nD (bP C C.length))).rows⟩:=by
 have hp:=s.rd.plain;replace H:=aA.mk H;refine aV Tryz.func178 aD (h:=?_);unfold Tryz.f178;simp only [↓pre,zae,aeY,simprocAttr,s.rd.len'];rw [bS];refine bU (fun q e m=>∃ i I,q+i=C.length∧e 0=v∧e 6=I∧e 13=v∧e 14=aB (C.length:Nat)∧e 15=aB (i:Nat)∧aA (Own m 3 1 I (bP C i).length (nD (bP C i)))) C.length ⟨0,aW,by omega,rfl,rfl,rfl,rfl,rfl,⟨gK⟩⟩ ?_;rintro q e m ⟨i,I,r,Y,N,p,k,l,M⟩;replace r:=aA.mk r;by_cases t:i < C.length
 ·have d:((i:Nat):Int) < ((C.length:Nat):Int):=by omega
  have w1:=cB (n:=i) (by omega);obtain ⟨b,A⟩:∃ b,C[i]? = some b:=⟨_,azm t⟩
  obtain ⟨a,x,W,G⟩:=s.at_ i b A;have a3:=H.out b (az8 A);have c:=yT C i;rw [tC A] at c;have a2:=afB C i;replace A:=aA.mk A;by_cases Z:b.length=0
  ·have u:((b.length:Nat):Int)=0:=by omega
   rw [if_neg (by omega),aBl] at c;replace c:=aA.mk c;simp only [↓pre,zae,aeY,simprocAttr,Y,N,p,k,l,d,s.rd.addr',t,W,G.len',u,w1];exact ⟨q - 1,by have:=r.out;omega,i+1,I,by have:=r.out;omega,rfl,rfl,by rw [c.out];exact M⟩
  ·have u:¬ ((b.length:Nat):Int)=0:=by omega
   have K:b.length=L:=by omega
   have X:¬ (65536:Int) < ((b.length:Nat):Int):=by omega
   rw [if_pos Z] at c;replace c:=aA.mk c;simp only [↓pre,zae,aeY,cO,simprocAttr,N,p,k,l,d,s.rd.addr',t,W,G.len',u];refine zU (sz:=1) (y:=8) (zl:=[.int .i64 0]) (by kernel_rfl) M.out (by kernel_rfl) (by kernel_rfl) (by kernel_rfl) rfl lV rfl (by omega) (by omega) ?_;intro a1 m' B S P V;obtain ⟨b',rfl,Q,T⟩:=B.sl (by omega);have E:0 < (bP C i).length+1:=by omega
   obtain ⟨w,j⟩:∃ w,(bP C (i+1))[0]? = some w:=⟨_,azm (by rw [c.out,aA2];simp)⟩
   have o:=ain (az8 j);have g:=aop j;rw [c.out,aoo] at g;have F:w < C.length:=by omega
   obtain ⟨O,f⟩:∃ b,C[w]? = some b:=⟨_,azm F⟩
   obtain ⟨a0,x0,R,z⟩:=s.at_ w O f;have U:=H.out O (az8 f);rw [tC f] at o;have D:O.length=L:=by omega
   replace f:=aA.mk f;replace j:=aA.mk j;replace o:=aA.mk o;have J:(nD [i])=[.val (.int .i64 (i:Nat))]:=rfl;rw [J] at g;rw [K] at X G;rw [D] at z;simp only [↓pre,zae,aeY,bH,simprocAttr,Y,p,k,l,G.len',X,s.rd.addr',F,E,Q,g,R,z.len',w1];refine ⟨q - 1,by have:=r.out;omega,i+1,_,by have:=r.out;omega,rfl,rfl,⟨?_⟩⟩;rw [c.out,aoo,aA2];exact B
 ·have d:¬ ((i:Nat):Int) < ((C.length:Nat):Int):=by omega
  have hi:i=C.length:=by have:=r.out;omega
  subst hi;simp only [↓pre,zac,simprocAttr,N,k,l,d];rw [alO (by kernel_rfl) M.out];rfl
theorem avA (v:AV) (C:List (List UInt8)) (cells:List AV) (L:Nat) (g:aap v C cells) (f:aa9 C L) (d:L≤65536) (e:C.length≤1000):aQ ayU 178 [v,aB (C.length:Nat)] ⟨.tup [bE (bP C C.length).length (nD (bP C C.length)),aZ true],[]⟩:=by
 have h:=aoq v C cells L g f d e;have c:=asi (P:=ayU) 3 (bP C C.length).length (nD (bP C C.length));have b:=asj (P:=ayU) (el:=3) (by kernel_rfl) (bP C C.length).length (nD (bP C C.length));have a:=aaP 0 h (by simp [jH,kV,aZ,b]);simp only [fZ,iP,aZ,c] at a;exact a
def dJ (L:Nat) (F:Mx) (a n:Nat):List AV:=(List.range' a n).map fun i => .tree L L (aR L (F i)) true
theorem avB (L:Nat) (F:Mx) (a n:Nat):(dJ L F a n).length=n:=by simp [dJ]
theorem afC (L:Nat) (F:Mx) (a n:Nat):dJ L F a (n+1)=dJ L F a n++[.tree L L (aR L (F (a+n))) true]:=by
 unfold dJ;rw [List.range'_1_concat,aBs];rfl
theorem aat {L:Nat} {F:Mx} {a n i:Nat} (h:i < n):(dJ L F a n)[i]? = some (.tree L L (aR L (F (a+i))) true):=by
 unfold dJ;rw [azo,List.getElem?_range' h];simp
theorem aio (L:Nat) (F:Mx) (a n:Nat):∀ c∈dJ L F a n,kL c:=by
 intro c b;unfold dJ at b;obtain ⟨i,_,rfl⟩:=azp.1 b;exact aom _ _ _ _
theorem avC (L:Nat) (F:Mx) (a b:Nat):dJ L F 0 a++dJ L F a b=dJ L F 0 (a+b):=by
 unfold dJ;rw [←aBs];congr 1;have:=List.range'_append (s:=0) (m:=a) (n:=b) (step:=1);simpa using this
theorem avD {L:Nat} {F G:Mx} {a n:Nat} (h:∀ i,a≤i→i < a+n→∀ p,p < L→F i p=G i p):dJ L F a n=dJ L G a n:=by
 unfold dJ;apply aAw;intro i hi;rw [List.mem_range'_1] at hi;rw [rY (h i hi.1 (by omega))]
theorem aba {m:aF} {n c:Nat} {cs:List AV} {f:Bool}:fY ayU m 45 1 [(0,.tree n c cs f)]=some ⟨.tree 1 1 [.tree n c cs f] true,m,none⟩:=by
 have b:bO ayU 45=some 52:=by kernel_rfl
 have a:bX ayU 52=some 1:=by kernel_rfl
 have d:gF ayU 52=some [.slice none 0 0]:=by kernel_rfl
 simp [fY,b,a,d,iJ,aAW,hU,gD,dL,cH,AV.cells,kF,iI,bI]
theorem aip {m:aF} {b n:Nat} {f:Bool} {cells:List AV} {el:TypeId} (e:m.at_ b=some ⟨cells,el,.flat,true⟩):vI ayU false true m 45 1 [(0,.sl b 0 n n f)]=some ⟨.tree 1 1 [.tree n n cells f] true,m.put b (some ⟨cells,el,.flat,false⟩),none⟩:=by
 have c:bO ayU 45=some 52:=by kernel_rfl
 have a:bX ayU 52=some 1:=by kernel_rfl
 have d:gF ayU 52=some [.slice none 0 0]:=by kernel_rfl
 have g:fY ayU m 45 1 [(0,.sl b 0 n n f)]=none:=by
  simp [fY,c,a,d,iJ,aAW,hU,gD,dL,cH,AV.cells,kF,iI]
 rw [alw g];simp [zR,c,a,d,iJ,aAW,hU,gD,dL,cH,AV.cells,fzs,fz,e,bI]
theorem adH:∀ l:List UInt8,iA (l.map bA)=true
 | []=>rfl
 | a::l=>by simp [iA,hY,bA,adH l]
theorem afD (w:Nat) (f:Nat→UInt8):iA (aR w f)=true:=adH _
def xJ (k L:Nat) (D:Mx) (b:List AV):Prop:=∀ i,i < k→∃ a x,b[i]? = some a∧aT a L (aR L (D i)++x)
theorem aor (m0:aF) (g k r a n L:Nat) (F:AV) (D:Mx) (M:List AV) (U:rA m0 g k r (k+r)) (X:lW m0 F k M) (z:rL m0 F) (G:xJ k L D M) (hk:1≤k) (Z:k≤12) (hr:r≤4) (ha:a+n≤k+r) (Y:L≤65536):dV ayU 179 [.val (.map (some g)),aB (k:Nat),aB (r:Nat),aB (a:Nat),aB (a+n:Nat),F] m0 fun J m'=>∃ s,J = .tup [s,aB 0]∧bY .var m' 52 1 s n (dJ L (gQ k D) a n)∧gX m0 m'∧kB m0 s:=by
 refine bV Tryz.func179 aD (h:=?_);unfold Tryz.f179;simp only [↓pre,simprocAttr,sx];rw [bS];refine bU (fun q e m=>∃ i s,q+i=n∧e 0 = .val (.map (some g))∧e 1=aB (k:Nat)∧e 2=aB (r:Nat)∧e 4=aB (a+n:Nat)∧e 5=F∧e 14=s∧e 15=aB (a+i:Nat)∧aA (bY .var m 52 1 s i (dJ L (gQ k D) a i)∧gX m0 m∧kB m0 s)) n ⟨0,aW,by omega,rfl,rfl,rfl,rfl,rfl,rfl,rfl,⟨gK,gX.refl _,wX _⟩⟩ ?_;rintro q e m ⟨i,s,A,Q,R,O,K,P,B,t,E⟩;replace A:=aA.mk A;by_cases a0:i < n
 ·have l:((a+i:Nat):Int) < ((a+n:Nat):Int):=by omega
  have w1:=cB (n:=a+i) (by omega);obtain ⟨H,c,p⟩:=E.out;have C:=aoi (m:=m) (g:=g) (k:=k) (r:=r) (n:=k+r) (i:=a+i) (by unfold rA;rw [c.mm];exact U) (by omega);obtain ⟨V,u,v⟩:=(X.keep c.w z).lend2 (a := .tree k k (aR k (fO k (a+i))) true) rfl;have o:=aoe (.tree k k (aR k (fO k (a+i))) true) V k L (fO k (a+i)) D [] M ⟨.inr (.inr ⟨k,true,by rw [aBl],aza _⟩)⟩ ⟨v,G⟩ hk (by omega) Y;rw [show pB k (fO k (a+i)) D=gQ k D (a+i) from rfl] at o;simp only [aB] at C o;have d:gX m0 ((m.push ⟨aR L (gQ k D (a+i)),5,.flat,true⟩).put m.next (some ⟨aR L (gQ k D (a+i)),5,.flat,false⟩)):=⟨c.mm,by rw [fC,cQ];have:=c.next;omega,fun j x S W=>by have:=c.next;rw [cI,if_neg (by omega),cF,if_neg (by omega)];exact c.at_ j x S W⟩
  have N:=aip (m:=m.push ⟨aR L (gQ k D (a+i)),5,.flat,true⟩) (b:=m.next) (n:=L) (f:=true) (by rw [cF,if_pos rfl]);replace E:=aA.mk E;replace c:=aA.mk c;replace H:=aA.mk H;replace p:=aA.mk p;replace v:=aA.mk v;replace d:=aA.mk d;simp only [↓pre,zac,amD,simprocAttr,Q,R,O,K,P,t,l,C];refine wU o u (by simp [fA.apart,hY,iA,afD]) ?_;simp only [↓pre,zac,amD,cO,simprocAttr,B,N];refine adc (kd := .var) (sz:=1) (y:=24) (zl:=[.slice none 0 0]) (by kernel_rfl) (H.out.pp _ _) (by kernel_rfl) (by kernel_rfl) (by kernel_rfl) rfl lV rfl (by omega) (by omega) d.out p.out ?_;intro T m' I c p;simp only [↓pre,zab,simprocAttr,Q,R,O,K,P,t,w1];refine ⟨q - 1,by have:=A.out;omega,i+1,_,by have:=A.out;omega,rfl,rfl,⟨?_,c,p⟩⟩;rw [afC];exact I
 ·have hi:i=n:=by have:=A.out;omega
  subst hi;have l:¬ ((a+i:Nat):Int) < ((a+i:Nat):Int):=by omega
  simp only [↓pre,zac,simprocAttr,K,B,t,l];exact ⟨s,rfl,E.out⟩
theorem aos {g:Nat} {x y:Operand}:eA ayU .eql 206 x y (.val (.map (some g))) (.val (.map none))=some (.val (.bool false)):=by kernel_rfl
def tabs (L n:Nat) (D:Mx):List (List UInt8):=(aAp n).map fun i=>tab L (D i)
theorem afE (L n:Nat) (D:Mx):(tabs L n D).length=n:=by simp [tabs]
theorem avE {L n:Nat} (D:Mx) {i:Nat} (h:i < n):(tabs L n D)[i]? = some (tab L (D i)):=by
 unfold tabs;rw [azo,aBS h];rfl
theorem aot (L n:Nat) (D:Mx):aa9 (tabs L n D) L:=by
 intro b a;obtain ⟨i,_,rfl⟩:=azp.1 a;exact .inr (pA _ _)
theorem aou {L n:Nat} (D:Mx) (a:1≤L):bP (tabs L n D) n=aAp n:=by
 unfold bP;rw [List.filter_eq_self];intro i hi;rw [aAz] at hi;rw [tC (avE D hi),pA];simp;omega
theorem avF (m0:aF) (p:AV) (k r L:Nat) (D:Mx) (z:List AV) (T:lW m0 p k z) (i:rL m0 p) (s:xJ k L D z) (M:1≤k) (v:k≤12) (J:r≤4) (S:1≤L) (u:L≤65536):dV ayU 195 [aB (k:Nat),aB (r:Nat),p] m0 fun o m'=>∃ t,o = .tup [t,aB 0]∧bY .var m' 52 1 t r (dJ L (gQ k D) k r)∧m0.next≤m'.next∧(∀ j x,m0.at_ j=some x→j < m0.next→m'.at_ j=some x)∧kB m0 t:=by
 have N:=aol m0 k r M v J;have w1:azy.wrap (((k:Nat):Int)+((r:Nat):Int))=((k+r:Nat):Int):=by rw [←aBX];exact dO (by omega)
 have Q:¬ ((k:Nat):Int) < ((k:Nat):Int):=by omega
 have A:iA (nD (aAp k))=true:=by
  generalize aAp k=l
  induction l with
  | nil=>rfl
  | cons a l P=>simpa [nD,iA,hY,aB] using P
 refine bV Tryz.func195 aD (h:=?_);unfold Tryz.f195;simp only [↓pre,zab,simprocAttr];refine jD N ?_;rintro o U ⟨g,mm,rfl,rfl,O⟩;have q:lW (m0.setM mm) p k z:=⟨T.form⟩
 obtain ⟨K,m,G⟩:=q.lend 2;have e:=aoq K (tabs L k D) z L (qD.rows ⟨G,s⟩) (aot L k D) u (by rw [afE];omega);rw [afE,aou D S,aBN] at e;unfold jC at e;rw [if_neg (by omega)] at e;have B:dN 3 (m0.setM mm) [p,.val (.int .i64 k)]=some [K,.val (.int .i64 k)]:=by simp [dN,m,lend]
 have d:gX (m0.setM mm) ((m0.setM mm).push ⟨nD (aAp k),3,.flat,true⟩):=⟨rfl,by rw [cQ];exact Nat.le_succ _,fun j x h C=>by rw [cF,if_neg (by omega)];exact h⟩
 have E:=aor ((m0.setM mm).push ⟨nD (aAp k),3,.flat,true⟩) g k r k r L p D z O (q.keep d.w i) (fun b I n c f h=>azd (i b I n c f h) d.next) s M v J (aza _) u;simp only [↓pre,zac,aos,simprocAttr];simp only [aB] at e;refine wU e B (by simp [fA.apart,hY,iA,aZ,A]) ?_;have F:∀ b,lenE ayU 41 (.sl b 0 k k false)=some (.val (.int .i64 k)):=fun b=>by
  have:bO ayU 41=some 3:=by kernel_rfl
  simp [lenE,this,sN,aB]
 simp only [↓pre,zae,asY,simprocAttr,Q,w1,F];refine jD E ?_;rintro o V ⟨t,rfl,R,y,H⟩;simp only [↓pre,zab,simprocAttr];exact ⟨t,rfl,R,Nat.le_trans d.next y.next,fun j x h C=>y.at_ j x (d.at_ j x h C) (azd C d.next),H.mono d.next⟩
end Go.Proofs.YtaekhhlgnbhnpaaGreat