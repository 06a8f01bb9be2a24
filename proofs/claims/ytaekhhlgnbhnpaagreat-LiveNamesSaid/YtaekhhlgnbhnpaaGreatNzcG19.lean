import Derived.KernelRfl
import Derived.Test.YtaekhhlgnbhnpaaGreatNzcG15
import Derived.Test.YtaekhhlgnbhnpaaGreatNzcG10
import Derived.Test.YtaekhhlgnbhnpaaGreatNzcG11
import Derived.Test.YtaekhhlgnbhnpaaGreatNzcG16
import Derived.Test.YtaekhhlgnbhnpaaGreatNzcG12
set_option linter.defProp false
set_option linter.unusedVariables false
set_option linter.unusedSimpArgs false
open BitVec renaming toNat_ofNat→aAV
open Bool renaming and_true→aAF,and_self→aAu
open Go.IntKind renaming u8→aBM,bits→aAP,wrap→aAO,signed→aAQ,i64→azv
open Go.Proofs.Tryz renaming prog→ayS
open List renaming range→aAm,all_eq_true→aAr,mem_range→aAw,nodup_cons→aBG,range_succ→aAT,filter_cons→aBI,map_cons→aAo,mem_map→azm,getElem?_eq_some_iff→ay5,getD_eq_getElem?_getD→azp,length_range→aBJ,nodup_range→aBK,mem_filter→aBL,getElem?_map→azl,getElem?_range→aBO,ext_getElem?→aAf,append_assoc→azT,length_take→aBP,getElem?_append_left→azd,getElem?_take_of_lt→aBQ,getElem?_append_right→aze,getElem?_drop→aAs,length_cons→aAC,length_nil→aAD,getElem?_eq_none→ay3,take_of_length_le→aA7,drop_eq_nil_of_le→aBR,map_congr_left→aAt,length_append→aAZ,append_nil→aBi,drop_zero→aBu,map_map→aBv,getElem?_eq_getElem→azj,mem_of_getElem?→az5,map_append→aBp
open Nat renaming zero_xor→aBE,mod_lt→azq,mod_eq_of_lt→aAW,le_refl→ay7,lt_irrefl→aBH,sub_self→ay9,zero_add→azn,reduceEqDiff→aBS,mul_one→azD,lt_of_lt_of_le→aza
open Option renaming bind_some→aAh,map_some→az3
open UInt8 renaming ofNat→azN,toNat_inj→aBc,toNat_xor→aBF,toNat_and→aBN
namespace Go.Gf
def xt (a:Nat):Nat:=if a < 128 then 2*a else (2*a) ^^^ 0x11d
def gm:Nat→Nat→Nat→Nat
 | 0,_,_=>0
 | n+1,a,b=>(if b % 2=1 then a else 0) ^^^ gm n (xt a) (b / 2)
def gmul (a b:Nat):Nat:=gm 8 a b
theorem at8 (b c:Nat):((b ^^^ c) % 2=1)↔¬ ((b % 2=1)↔(c % 2=1)):=by
 have h:=Nat.testBit_xor b c 0;simp only [Nat.testBit_zero] at h;by_cases a:b % 2=1 <;> by_cases d:c % 2=1 <;> simp [a,d] at h ⊢ <;> omega
theorem ahG:∀ (n a b c:Nat),gm n a (b ^^^ c)=gm n a b ^^^ gm n a c
 | 0,_,_,_=>by unfold gm;rfl
 | n+1,a,b,c=>by
  have g:=ahG n (xt a) (b / 2) (c / 2);have f:=at8 b c;unfold gm;rw [Nat.xor_div_two,g];generalize gm n (xt a) (b / 2)=x;generalize gm n (xt a) (c / 2)=y;by_cases d:b % 2=1 <;> by_cases e:c % 2=1
  ·rw [if_neg (by rw [f];simp [d,e]),if_pos d,if_pos e,aBE];rw [show (a ^^^ x) ^^^ (a ^^^ y)=(a ^^^ a) ^^^ (x ^^^ y) by ac_rfl,Nat.xor_self,aBE]
  ·rw [if_pos (by rw [f];simp [d,e]),if_pos d,if_neg e,aBE]
   ac_rfl
  ·rw [if_pos (by rw [f];simp [d,e]),if_neg d,if_pos e,aBE]
   ac_rfl
  ·rw [if_neg (by rw [f];simp [d,e]),if_neg d,if_neg e,aBE,aBE,aBE]
def eT:Nat:=70160881166704368827218703435136616750530459438269794890424969378298545675077208731798828898087927652446353395360628748027273188182808436399538186061104243134188885576122562338679313492324190829158544377810568631194580132524405266702234305646236648896994794467054525044798919765581988418950285252905306116225263236585714808161311289784028762024137133735135393922581566890382566480334369299400480864790538739986285574563168380416343369614948461817839620668187777978661530364712890858126432457562886306102556561631759900551331094983229723298224611133722330829711659991602983068895685602467964643306841827719562658305
def lT:Nat:=22135253156888987530748098150270024343632497605293634117281264061560962248099620766229961468867162294233796152347975563017024165690400661622462404646302566225833645086064538892198543335321514950294300187779610338557442029018619797274438901674641748676613670242915365385819254959901651105240253464034662486586186382979728982817772067067513442677601938078891989292316012868233806586592927239821351197800766822366321181463280924672822998103315976779850880337712374790938628529953751181886374687897611504386983350015558142994211516619836411558782076806704747441947939324473761869443721989389604670425385080942269787340800
def gE (n:Nat):Nat:=(eT >>> (8*n)) % 256
def gL (a:Nat):Nat:=(lT >>> (8*a)) % 256
def ank:Bool:=(aAm 256).all fun a=>(aAm 256).all fun b=>gmul a b == (if a=0 then 0 else if b=0 then 0 else gE ((gL a+gL b) % 255))
theorem at9:ank=true:=by kernel_rfl
def anl:Bool:=(aAm 255).all fun n=>gL (gE n) == n && gE n != 0 && decide (gE n < 256)
theorem aua:anl=true:=by kernel_rfl
def anm:Bool:=(aAm 256).all fun a=>a == 0 || (gE (gL a) == a && decide (gL a < 255))
theorem aub:anm=true:=by kernel_rfl
theorem lZ {a b:Nat} (d:a < 256) (e:b < 256):gmul a b=(if a=0 then 0 else if b=0 then 0 else gE ((gL a+gL b) % 255)):=by
 have h:=at9;unfold ank at h;rw [aAr] at h;have c:=h a (aAw.2 d);rw [aAr] at c;exact eq_of_beq (c b (aAw.2 e))
theorem wT {n:Nat} (h:n < 255):gL (gE n)=n∧gE n≠0∧gE n < 256:=by
 have b:=aua;unfold anl at b;rw [aAr] at b;have a:=b n (aAw.2 h);simp only [Bool.and_eq_true,beq_iff_eq,bne_iff_ne,decide_eq_true_eq] at a;exact ⟨a.1.1,a.1.2,a.2⟩
theorem aeZ {a:Nat} (h:a < 256) (d:a≠0):gE (gL a)=a∧gL a < 255:=by
 have c:=aub;unfold anm at c;rw [aAr] at c;have b:=c a (aAw.2 h);simp only [Bool.or_eq_true,Bool.and_eq_true,beq_iff_eq,decide_eq_true_eq] at b;rcases b with b | b
 ·exact absurd b d
 ·exact b
theorem ae0 {a b:Nat} (c:a < 256) (d:b < 256):gmul a b < 256:=by
 rw [lZ c d];split
 ·omega
 ·split
  ·omega
  ·exact (wT (azq _ (by decide))).2.2
theorem auc {a b:Nat} (c:a < 256) (d:b < 256):gmul a b=gmul b a:=by
 rw [lZ c d,lZ d c,Nat.add_comm (gL a)];by_cases f:a=0 <;> by_cases e:b=0 <;> simp [f,e]
theorem ahH {a b:Nat} (c:a < 256) (d:b < 256) (f:a≠0) (e:b≠0):gmul a b≠0:=by
 rw [lZ c d,if_neg f,if_neg e];exact (wT (azq _ (by decide))).2.1
theorem aud {a b c:Nat} (h:a < 256) (d:b < 256) (g:c < 256):gmul (gmul a b) c=gmul a (gmul b c):=by
 have f:=ae0 h d;have e:=ae0 d g;by_cases i:a=0
 ·rw [lZ f g,lZ h e,lZ h d,if_pos i,if_pos rfl];simp [i]
 ·by_cases j:b=0
  ·rw [lZ f g,lZ h e,lZ h d,lZ d g,if_pos j,if_pos j];simp [i]
  ·by_cases k:c=0
   ·rw [lZ f g,lZ h e,lZ d g,if_pos k,if_pos k];simp [i]
   ·have m:=ahH h d i j;have l:=ahH d g j k;rw [lZ f g,lZ h e,if_neg m,if_neg k,if_neg i,if_neg l];rw [lZ h d,if_neg i,if_neg j,lZ d g,if_neg j,if_neg k];rw [(wT (azq _ (by decide))).1,(wT (azq _ (by decide))).1];congr 1;omega
theorem aue {a:Nat} (b:a < 256):gmul a 1=a:=by
 rw [lZ b (by decide)];split
 ·rename_i h;rw [h]
 ·rename_i h;rw [if_neg (by decide)];have:=aeZ b h;have e:gL 1=0:=by kernel_rfl
  rw [e,Nat.add_zero,aAW this.2];exact this.1
def ginv (a:Nat):Nat:=gE ((255 - gL a) % 255)
theorem ahI (a:Nat):ginv a < 256:=(wT (azq _ (by decide))).2.2
theorem auf {a:Nat} (b:a < 256) (c:a≠0):gmul a (ginv a)=1:=by
 have h:=aeZ b c;have hi:=wT (n:=(255 - gL a) % 255) (azq _ (by decide));rw [lZ b (ahI a),if_neg c,if_neg (show ginv a≠0 from hi.2.1)];unfold ginv;rw [hi.1];have e:(gL a+(255 - gL a) % 255) % 255=0:=by omega
 have d:gE 0=1:=by kernel_rfl
 rw [e,d]
def aQ (a b:UInt8):UInt8:=azN (gmul a.toNat b.toNat)
def cN (a:UInt8):UInt8:=azN (ginv a.toNat)
theorem mS {n:Nat} (h:n < 256):(azN n).toNat=n:=by rw [UInt8.toNat_ofNat'];exact aAW h
theorem jN (a:UInt8):a.toNat < 256:=a.toNat_lt
theorem sV (a b:UInt8):(aQ a b).toNat=gmul a.toNat b.toNat:=mS (ae0 (jN a) (jN b))
theorem pG (a b:UInt8):aQ a b=aQ b a:=by unfold aQ;rw [auc (jN a) (jN b)]
theorem ac1 (a b c:UInt8):aQ (aQ a b) c=aQ a (aQ b c):=by
 apply aBc.1;rw [sV,sV,sV,sV];exact aud (jN a) (jN b) (jN c)
theorem vI (a:UInt8):aQ a 1=a:=by
 apply aBc.1;rw [sV];exact aue (jN a)
theorem pH (a:UInt8):aQ 1 a=a:=by rw [pG,vI]
theorem rM (a:UInt8):aQ a 0=0:=by
 apply aBc.1;rw [sV,lZ (jN a) (jN 0)];split
 ·rfl
 ·rfl
theorem uK (a:UInt8):aQ 0 a=0:=by rw [pG,rM]
theorem qO {a:UInt8} (h:a≠0):aQ a (cN a)=1:=by
 apply aBc.1;rw [sV];unfold cN;rw [mS (ahI _)];exact auf (jN a) fun e=>h (aBc.1 e)
theorem uL (a b c:UInt8):aQ a (b ^^^ c)=aQ a b ^^^ aQ a c:=by
 apply aBc.1;rw [aBF,sV,sV,sV,aBF];exact ahG 8 _ _ _
theorem ahJ (a b c:UInt8):aQ (a ^^^ b) c=aQ a c ^^^ aQ b c:=by
 rw [pG,uL,pG c a,pG c b]
theorem ae1 {a b:UInt8} (d:a≠0) (f:b≠0):aQ a b≠0:=by
 intro h;have c:=congrArg UInt8.toNat h;rw [sV] at c;exact ahH (jN a) (jN b) (fun e=>d (aBc.1 e)) (fun e=>f (aBc.1 e)) c
theorem ae2 {a:UInt8} (h:a≠0):cN a≠0:=by
 intro e;have:=qO h;rw [e,rM] at this;exact absurd this (by decide)
instance:Std.Associative aQ:=⟨ac1⟩
instance:Std.Commutative aQ:=⟨pG⟩
theorem abx (a:UInt8):a ^^^ a=0:=UInt8.xor_self
theorem sW (a:UInt8):a ^^^ 0=a:=UInt8.xor_zero
theorem aby (a:UInt8):0 ^^^ a=a:=UInt8.zero_xor
instance:Std.Associative (α:=UInt8) (· ^^^ ·):=⟨UInt8.xor_assoc⟩
instance:Std.Commutative (α:=UInt8) (· ^^^ ·):=⟨UInt8.xor_comm⟩
theorem ahK {a b:UInt8} (h:a ^^^ b=0):a=b:=by
 have:a ^^^ b ^^^ b=0 ^^^ b:=by rw [h]
 rw [UInt8.xor_assoc,abx,sW,aby] at this;exact this
theorem vJ {a b:UInt8} (h:a≠b):a ^^^ b≠0:=fun e=>h (ahK e)
def gJ:Nat→(Nat→UInt8)→UInt8
 | 0,_=>0
 | n+1,f=>gJ n f ^^^ f n
theorem yI {f g:Nat→UInt8}:∀ n,(∀ i,i < n→f i=g i)→gJ n f=gJ n g
 | 0,_=>rfl
 | n+1,h=>by unfold gJ;rw [yI n fun i hi=>h i (by omega),h n (by omega)]
theorem ahL {f:Nat→UInt8}:∀ n,(∀ i,i < n→f i=0)→gJ n f=0
 | 0,_=>rfl
 | n+1,h=>by unfold gJ;rw [ahL n fun i hi=>h i (by omega),h n (by omega)];rfl
theorem ac2 (c:UInt8) (f:Nat→UInt8):∀ n,aQ c (gJ n f)=gJ n fun i=>aQ c (f i)
 | 0=>rM c
 | n+1=>by unfold gJ;rw [uL,ac2 c f n]
theorem aug (c:UInt8) (f:Nat→UInt8) (n:Nat):aQ (gJ n f) c=gJ n fun i=>aQ (f i) c:=by
 rw [pG,ac2];exact yI n fun i _=>pG _ _
theorem ae3 (f g:Nat→UInt8):∀ n,gJ n (fun i=>f i ^^^ g i)=gJ n f ^^^ gJ n g
 | 0=>(sW 0).symm
 | n+1=>by
  show gJ n (fun i=>f i ^^^ g i) ^^^ (f n ^^^ g n)=(gJ n f ^^^ f n) ^^^ (gJ n g ^^^ g n);rw [ae3 f g n];ac_rfl
theorem abz {f:Nat→UInt8} {k:Nat}:∀ n,k < n→(∀ i,i < n→i≠k→f i=0)→gJ n f=f k
 | 0,h,_=>by omega
 | n+1,h,h0=>by
  unfold gJ;by_cases b:k=n
  ·subst b;rw [ahL k fun i hi=>h0 i (by omega) (by omega),aby]
  ·rw [abz n (by omega) fun i hi a=>h0 i (by omega) a,h0 n (by omega) (fun e=>b e.symm),sW]
theorem ac3 {a b c:UInt8} (d:a≠0) (h:aQ a b=aQ a c):b=c:=by
 have:=congrArg (aQ (cN a)) h;rw [←ac1,←ac1,pG (cN a) a,qO d,pH,pH] at this;exact this
theorem ae4 {a b:UInt8} (c:a≠0) (h:aQ a b=0):b=0:=ac3 c (h.trans (rM a).symm)
theorem auh {zi zn wj wn:UInt8} (l:zi≠wj) (k:zn≠wj):aQ (zi ^^^ wn) (cN (zi ^^^ wj)) ^^^ aQ (zn ^^^ wn) (cN (zn ^^^ wj))=aQ (zi ^^^ zn) (aQ (aQ (wn ^^^ wj) (cN (zn ^^^ wj))) (cN (zi ^^^ wj))):=by
 have d1:=vJ l;have d2:=vJ k;refine ac3 d1 (ac3 d2 ?_);have h:=qO d1;have e:=qO d2;generalize cN (zi ^^^ wj)=p at *
 generalize cN (zn ^^^ wj)=q at *
 have j:aQ (zn ^^^ wj) (aQ (zi ^^^ wj) (aQ (zi ^^^ wn) p ^^^ aQ (zn ^^^ wn) q))=aQ (zn ^^^ wj) (zi ^^^ wn) ^^^ aQ (zi ^^^ wj) (zn ^^^ wn):=by
  rw [uL,uL];congr 1
  ·rw [show aQ (zi ^^^ wj) (aQ (zi ^^^ wn) p)=aQ (aQ (zi ^^^ wj) p) (zi ^^^ wn) by ac_rfl,h,pH]
  ·rw [show aQ (zn ^^^ wj) (aQ (zi ^^^ wj) (aQ (zn ^^^ wn) q))=aQ (aQ (zn ^^^ wj) q) (aQ (zi ^^^ wj) (zn ^^^ wn)) by ac_rfl,e,pH]
 have i:aQ (zn ^^^ wj) (aQ (zi ^^^ wj) (aQ (zi ^^^ zn) (aQ (aQ (wn ^^^ wj) q) p)))=aQ (zi ^^^ zn) (wn ^^^ wj):=by
  rw [show aQ (zn ^^^ wj) (aQ (zi ^^^ wj) (aQ (zi ^^^ zn) (aQ (aQ (wn ^^^ wj) q) p)))=aQ (aQ (zn ^^^ wj) q) (aQ (aQ (zi ^^^ wj) p) (aQ (zi ^^^ zn) (wn ^^^ wj))) by ac_rfl,h,e,pH,pH]
 rw [j,i];simp only [uL,ahJ];rw [pG zn zi,pG wj zi,pG wj zn];have key:∀ a b c d f g:UInt8,((a ^^^ d) ^^^ (f ^^^ c)) ^^^ ((a ^^^ g) ^^^ (b ^^^ c))=(b ^^^ f) ^^^ (d ^^^ g):=by
  intro a b c d f g;rw [show ((a ^^^ d) ^^^ (f ^^^ c)) ^^^ ((a ^^^ g) ^^^ (b ^^^ c))=((a ^^^ a) ^^^ (c ^^^ c)) ^^^ ((b ^^^ f) ^^^ (d ^^^ g)) by ac_rfl,abx,abx,sW,aby]
 exact key _ _ _ _ _ _
def lJ {α:Type} (l:List α) (f:α→UInt8):UInt8:=l.foldr (fun a s=>f a ^^^ s) 0
theorem oU {α:Type} (a:α) (l:List α) (f:α→UInt8):lJ (a::l) f=f a ^^^ lJ l f:=rfl
theorem ahM {α:Type} {f g:α→UInt8}:∀ (l:List α),(∀ a∈l,f a=g a)→lJ l f=lJ l g
 | [],_=>rfl
 | a::l,h=>by rw [oU,oU,h a (by simp),ahM l fun b c=>h b (by simp [c])]
theorem ann {α:Type} {f:α→UInt8}:∀ (l:List α),(∀ a∈l,f a=0)→lJ l f=0
 | [],_=>rfl
 | a::l,h=>by rw [oU,h a (by simp),ann l fun b c=>h b (by simp [c])];rfl
theorem ae5 {α:Type} (c:UInt8) (f:α→UInt8):∀ l:List α,aQ c (lJ l f)=lJ l fun a=>aQ c (f a)
 | []=>rM c
 | a::l=>by rw [oU,oU,uL,ae5 c f l]
theorem ano {α:Type} (f g:α→UInt8):∀ l:List α,lJ l (fun a=>f a ^^^ g a)=lJ l f ^^^ lJ l g
 | []=>(sW 0).symm
 | a::l=>by rw [oU,oU,oU,ano f g l];ac_rfl
theorem anp:∀ (W Z:List UInt8) (x:UInt8→UInt8),W.length=Z.length→W.Nodup→Z.Nodup→(∀ z∈Z,∀ w∈W,z≠w)→(∀ z∈Z,lJ W (fun w=>aQ (x w) (cN (z ^^^ w)))=0)→∀ w∈W,x w=0
 | [],_,_,_,_,_,_,_=>fun w b=>by cases b
 | w0::W,[],_,hl,_,_,_,_=>by simp at hl
 | w0::W,z0::Z,x,hl,b,d,hd,h=>by
  rw [aBG] at b d;have g:=h z0 (by simp);rw [oU] at g;have f:z0≠w0:=hd z0 (by simp) w0 (by simp);have r:=anp W Z (fun w=>aQ (x w) (aQ (w0 ^^^ w) (cN (z0 ^^^ w)))) (by simpa using hl) b.2 d.2 (fun z d w b=>hd z (by simp [d]) w (by simp [b])) (fun z c=>by
   have p:=h z (by simp [c]);rw [oU] at p;have i:z≠w0:=hd z (by simp [c]) w0 (by simp);have k:z ^^^ z0≠0:=vJ fun e=>d.1 (e ▸ c)
   refine ae4 k ?_;rw [ae5];have e:lJ W (fun w=>aQ (z ^^^ z0) (aQ (aQ (x w) (aQ (w0 ^^^ w) (cN (z0 ^^^ w)))) (cN (z ^^^ w))))=aQ (z ^^^ w0) (lJ W fun w=>aQ (x w) (cN (z ^^^ w))) ^^^ aQ (z0 ^^^ w0) (lJ W fun w=>aQ (x w) (cN (z0 ^^^ w))):=by
    rw [ae5,ae5,←ano];refine ahM W fun w b => ?_
    have st:=auh (zi:=z) (zn:=z0) (wj:=w) (wn:=w0) (hd z (by simp [c]) w (by simp [b])) (hd z0 (by simp) w (by simp [b]));have:=congrArg (aQ (x w)) st;rw [uL] at this;rw [show aQ (z ^^^ w0) (aQ (x w) (cN (z ^^^ w)))=aQ (x w) (aQ (z ^^^ w0) (cN (z ^^^ w))) by ac_rfl,show aQ (z0 ^^^ w0) (aQ (x w) (cN (z0 ^^^ w)))=aQ (x w) (aQ (z0 ^^^ w0) (cN (z0 ^^^ w))) by ac_rfl,this]
    ac_rfl
   have o:=congrArg (aQ (z ^^^ w0)) p;have l:=congrArg (aQ (z0 ^^^ w0)) g;rw [uL,rM,show aQ (z ^^^ w0) (aQ (x w0) (cN (z ^^^ w0)))=aQ (x w0) (aQ (z ^^^ w0) (cN (z ^^^ w0))) by ac_rfl,qO (vJ i),vI] at o;rw [uL,rM,show aQ (z0 ^^^ w0) (aQ (x w0) (cN (z0 ^^^ w0)))=aQ (x w0) (aQ (z0 ^^^ w0) (cN (z0 ^^^ w0))) by ac_rfl,qO (vJ f),vI] at l;rw [e,←ahK o,←ahK l];exact abx _)
  have m:∀ w∈W,x w=0:=fun w a=>by
   have n:=r w a;have q:aQ (w0 ^^^ w) (cN (z0 ^^^ w))≠0:=ae1 (vJ fun e=>b.1 (e ▸ a)) (ae2 (vJ (hd z0 (by simp) w (by simp [a]))));rw [pG] at n;exact ae4 q n
  intro w a;rcases List.mem_cons.1 a with rfl | a
  ·rw [ann W fun w' j=>by rw [m w' j,uK],sW,pG] at g;exact ae4 (ae2 (vJ f)) g
  ·exact m w a
abbrev Mx:=Nat→Nat→UInt8
def eG (m:Mx) (a n:Nat):Mx:=fun i=>if i=a then m n else if i=n then m a else m i
def mT (m:Mx) (n:Nat) (c:UInt8):Mx:=fun i q=>if i=n then aQ (m n q) c else m i q
def fP (m:Mx) (n:Nat) (k:Nat→UInt8):Mx:=fun i q=>if i=n then m i q else m i q ^^^ aQ (k i) (m n q)
def dW (m:Mx) (j:Nat):Nat→Nat→Nat
 | 0,at_=>at_
 | f+1,at_=>if m at_ j≠0 then at_ else dW m j f (at_+1)
theorem yJ (m:Mx) (j:Nat):∀ f a,a≤dW m j f a∧dW m j f a≤a+f
 | 0,a=>⟨ay7 _,ay7 _⟩
 | f+1,a=>by
  unfold dW;split
  ·omega
  ·have:=yJ m j f (a+1);omega
theorem ac4 (m:Mx) (j:Nat):∀ f a,dW m j f a < a+f→m (dW m j f a) j≠0
 | 0,a,h=>by unfold dW at h;omega
 | f+1,a,h=>by
  unfold dW at h ⊢;split at h
  ·rename_i b;rw [if_pos b];exact b
  ·rename_i b;rw [if_neg b];exact ac4 m j f (a+1) (by omega)
theorem anq (m:Mx) (j:Nat):∀ f a i,a≤i→i < dW m j f a→m i j=0
 | 0,a,i,h1,h2=>by unfold dW at h2;omega
 | f+1,a,i,h1,h2=>by
  unfold dW at h2;split at h2
  ·omega
  ·rename_i b;by_cases e:i=a
   ·subst e;simpa using b
   ·exact anq m j f (a+1) i (by omega) h2
structure GSt where
 n:Nat
 m:Mx
 b:Mx
def sX (N j:Nat) (s:GSt):GSt :=
 let a:=dW s.m j (N - s.n) s.n
 if N≤a then s else
  let e:=eG s.m a s.n
  let g:=eG s.b a s.n
  let c:=cN (e s.n j)
  let d:=mT e s.n c
  let f:=mT g s.n c
  ⟨s.n+1,fP d s.n (fun i=>d i j),fP f s.n (fun i=>d i j)⟩
def gsol (N:Nat) (m b:Mx):Nat→GSt
 | 0=>⟨0,m,b⟩
 | j+1=>sX N j (gsol N m b j)
def jO:Mx:=fun i j=>if i=j then 1 else 0
def kern (N:Nat) (m:Mx) (x:Nat→UInt8):Prop:=∀ i,i < N→gJ N (fun q=>aQ (m i q) (x q))=0
def aui (N j:Nat) (m:Mx):Prop:=∀ i q,i < N→q < j→m i q=if i=q then 1 else 0
def aaf (N:Nat) (M0 m b:Mx):Prop:=∀ i q,i < N→m i q=gJ N fun t=>aQ (b i t) (M0 t q)
structure ahN (N j:Nat) (M0:Mx) (s:GSt):Prop where
 n:s.n=j
 unit:aui N j s.m
 prod:aaf N M0 s.m s.b
 ker:∀ x,kern N s.m x→kern N M0 x
theorem auj {N a n:Nat} {m:Mx} {x:Nat→UInt8} (e:a < N) (d:n < N) (h:kern N (eG m a n) x):kern N m x:=by
 intro i hi;by_cases c:i=a
 ·have:=h n d;unfold eG at this;by_cases b:n=a
  ·rw [if_pos b] at this;rw [c,←b];exact this
  ·rw [if_neg b,if_pos rfl] at this;rw [c];exact this
 ·by_cases b:i=n
  ·have:=h a e;unfold eG at this;rw [if_pos rfl] at this;rw [b];exact this
  ·have:=h i hi;unfold eG at this;rw [if_neg c,if_neg b] at this;exact this
theorem auk {N n:Nat} {m:Mx} {c:UInt8} {x:Nat→UInt8} (a:c≠0) (h:kern N (mT m n c) x):kern N m x:=by
 intro i hi;have:=h i hi;unfold mT at this;by_cases e:i=n
 ·subst e;simp only [if_true] at this;refine ae4 a ?_;rw [ac2];rw [←this];exact yI N fun q _=>by ac_rfl
 ·simp only [if_neg e] at this;exact this
theorem aul {N n:Nat} {m:Mx} {k:Nat→UInt8} {x:Nat→UInt8} (c:n < N) (h:kern N (fP m n k) x):kern N m x:=by
 have a:=h n c;unfold fP at a;simp only [if_true] at a;intro i hi;have:=h i hi;unfold fP at this;by_cases e:i=n
 ·subst e;exact a
 ·simp only [if_neg e] at this;have b:gJ N (fun q=>aQ (m i q ^^^ aQ (k i) (m n q)) (x q))=gJ N (fun q=>aQ (m i q) (x q)) ^^^ aQ (k i) (gJ N fun q=>aQ (m n q) (x q)):=by
   rw [ac2,←ae3];exact yI N fun q _=>by rw [ahJ,ac1]
  rw [b,a,rM,sW] at this;exact this
theorem aum {N a n:Nat} {M0 m b:Mx} (f:a < N) (e:n < N) (h:aaf N M0 m b):aaf N M0 (eG m a n) (eG b a n):=by
 intro i q hi;unfold eG;by_cases c:i=a
 ·simp only [if_pos c];exact h n q e
 ·by_cases d:i=n
  ·simp only [if_neg c,if_pos d];exact h a q f
  ·simp only [if_neg c,if_neg d];exact h i q hi
theorem aun {N n:Nat} {M0 m b:Mx} {c:UInt8} (a:n < N) (h:aaf N M0 m b):aaf N M0 (mT m n c) (mT b n c):=by
 intro i q hi;unfold mT;by_cases e:i=n
 ·simp only [if_pos e];rw [h n q a,aug];exact yI N fun t _=>by ac_rfl
 ·simp only [if_neg e];exact h i q hi
theorem auo {N n:Nat} {M0 m b:Mx} {k:Nat→UInt8} (a:n < N) (h:aaf N M0 m b):aaf N M0 (fP m n k) (fP b n k):=by
 intro i q hi;unfold fP;by_cases e:i=n
 ·simp only [if_pos e];exact h i q hi
 ·simp only [if_neg e];rw [h i q hi,h n q a,ac2,←ae3];exact yI N fun t _=>by rw [ahJ,ac1]
theorem aup {N j:Nat} {M0:Mx} {s:GSt} (B:j < N) (h:ahN N j M0 s) (G:∀ x,kern N M0 x→∀ q,q < N→x q=0):ahN N (j+1) M0 (sX N j s):=by
 have I:=h.n;have J:=yJ s.m j (N - s.n) s.n;have d:dW s.m j (N - s.n) s.n < N:=by
  by_cases d:dW s.m j (N - s.n) s.n < N
  ·exact d
  ·exfalso;have H:∀ i,s.n≤i→i < N→s.m i j=0:=fun i f c=>anq s.m j (N - s.n) s.n i f (by omega)
   have z:kern N s.m (fun q=>if q < j then s.m q j else if q=j then 1 else 0):=by
    intro i hi;by_cases F:i < j
    ·have e:gJ N (fun q=>aQ (s.m i q) (if q < j then s.m q j else if q=j then 1 else 0))=gJ N (fun q=>(if q=i then s.m i j else 0) ^^^ (if q=j then s.m i j else 0)):=yI N fun q o=>by
      by_cases f:q < j
      ·rw [if_pos f,h.unit i q hi f];have c:¬ q=j:=by omega
       by_cases w:q=i
       ·subst w;rw [if_pos rfl,if_pos rfl,if_neg c,pH,sW]
       ·rw [if_neg (fun e=>w e.symm),if_neg w,if_neg c,uK];rfl
      ·rw [if_neg f];by_cases c:q=j
       ·subst c;rw [if_pos rfl,if_pos rfl,if_neg (by omega),vI,aby]
       ·rw [if_neg c,if_neg c,if_neg (by omega),rM];rfl
     rw [e,ae3,abz (k:=i) N hi fun q _ l=>if_neg l,abz (k:=j) N B fun q _ l=>if_neg l,if_pos rfl,if_pos rfl];exact abx _
    ·refine ahL N fun q o => ?_
     show aQ (s.m i q) (if q < j then s.m q j else if q=j then 1 else 0)=0;by_cases f:q < j
     ·rw [h.unit i q hi f,if_neg (by omega),uK]
     ·rw [if_neg f];by_cases c:q=j
      ·subst c;rw [H i (by omega) hi,uK]
      ·rw [if_neg c,rM]
   have:=G _ (h.ker _ z) j B;rw [if_neg (aBH j),if_pos rfl] at this;exact absurd this (by decide)
 have r:=ac4 s.m j (N - s.n) s.n (by omega);unfold sX;simp only;generalize dW s.m j (N - s.n) s.n=a at *
 rw [if_neg (by omega)];have b:s.n < N:=by omega
 have E:eG s.m a s.n s.n j≠0:=by
  unfold eG;by_cases e:s.n=a
  ·rw [if_pos e,e];exact r
  ·rw [if_neg e,if_pos rfl];exact r
 have v:=ae2 E;refine ⟨by show s.n+1=j+1;omega, ?_,auo b (aun b (aum d b h.prod)),fun x z=>h.ker x (auj d b (auk v (aul b z)))⟩;have u:∀ i q,i < N→q < j→eG s.m a s.n i q=if i=q then 1 else 0:=by
  intro i q hi o;have p:=h.unit a q d o;have t:=h.unit s.n q b o;rw [if_neg (by omega)] at p t;unfold eG;by_cases y:i=a
  ·rw [if_pos y,t,if_neg (by omega)]
  ·by_cases C:i=s.n
   ·rw [if_neg y,if_pos C,p,if_neg (by omega)]
   ·rw [if_neg y,if_neg C];exact h.unit i q hi o
 intro i q hi o;dsimp only;generalize eG s.m a s.n=D at *
 have g:aQ (D s.n j) (cN (D s.n j))=1:=qO E;unfold fP mT;by_cases A:q=j
 ·subst A;by_cases e:i=s.n
  ·simp only [if_pos e,g];rw [if_pos (by omega)]
  ·simp only [if_neg e,if_true,g,vI];rw [if_neg (by omega)];exact abx _
 ·have f:=u i q hi (by omega);have c:=u s.n q b (by omega);rw [if_neg (by omega)] at c;by_cases e:i=s.n
  ·simp only [if_pos e,c,uK];rw [if_neg (by omega)]
  ·simp only [if_neg e,if_true,c,uK,rM,sW];exact f
theorem ae6 {N:Nat} {M0:Mx} (b:∀ x,kern N M0 x→∀ q,q < N→x q=0):∀ j,j≤N→ahN N j M0 (gsol N M0 jO j)
 | 0,_=>⟨rfl,fun i q _ h=>by omega,fun i q hi=>by
  show M0 i q=_;have c:gJ N (fun t=>aQ (jO i t) (M0 t q))=M0 i q:=by
   rw [abz (k:=i) N hi fun t _ a=>by unfold jO;rw [if_neg (fun e=>a e.symm),uK]];unfold jO;rw [if_pos rfl,pH]
  exact c.symm,fun x d=>d⟩
 | j+1,h=>aup (by omega) (ae6 b j (by omega)) b
theorem auq {N:Nat} {M0:Mx} (c:∀ x,kern N M0 x→∀ q,q < N→x q=0):(gsol N M0 jO N).n=N∧∀ i q,i < N→q < N→(gJ N fun t=>aQ ((gsol N M0 jO N).b i t) (M0 t q))=if i=q then 1 else 0:=by
 have h:=ae6 c N (ay7 _);exact ⟨h.n,fun i q hi a=>by rw [←h.prod i q hi];exact h.unit i q hi a⟩
def sY (N j:Nat) (s:Nat×Mx):Nat×Mx :=
 let a:=dW s.2 j (N - s.1) s.1
 if N≤a then s else
  let b:=eG s.2 a s.1
  (s.1+1,fP b s.1 (fun i=>aQ (b i j) (cN (b s.1 j))))
def rsol (N:Nat) (x:Mx):Nat→Nat×Mx
 | 0=>(0,x)
 | j+1=>sY N j (rsol N x j)
structure ahO (N:Nat) (s:GSt) (r:Nat×Mx):Prop where
 n:r.1=s.n
 rows:∃ f:Nat→UInt8,(∀ i,i < N→f i≠0)∧∀ i,i < N→∀ q,q < N→r.2 i q=aQ (f i) (s.m i q)∧r.2 i (N+q)=aQ (f i) (s.b i q)
theorem anr {N j:Nat} {m x:Mx} {f:Nat→UInt8} (e:j < N) (d:∀ i,i < N→f i≠0) (h:∀ i,i < N→x i j=aQ (f i) (m i j)):∀ k a,a+k≤N→dW x j k a=dW m j k a
 | 0,_,_=>rfl
 | k+1,a,ha=>by
  unfold dW;rw [anr e d h k (a+1) (by omega)];have c:=h a (by omega);by_cases b:m a j=0
  ·rw [if_neg (show ¬ x a j≠0 by rw [c,b,rM];simp),if_neg (show ¬ m a j≠0 by simp [b])]
  ·rw [if_pos (show x a j≠0 by rw [c];exact ae1 (d a (by omega)) b),if_pos b]
theorem aur {N j:Nat} {s:GSt} {r:Nat×Mx} (A:j < N) (Q:s.n≤N) (h:ahO N s r):ahO N (sX N j s) (sY N j r):=by
 obtain ⟨I,f,v,u⟩:=h;obtain ⟨S,x⟩:=r;simp only at I u;subst I;have C:dW x j (N - s.n) s.n=dW s.m j (N - s.n) s.n:=anr A v (fun i hi=>(u i hi j A).1) _ _ (by omega);have T:=yJ s.m j (N - s.n) s.n;have F:=ac4 s.m j (N - s.n) s.n;unfold sX sY;simp only [C];generalize dW s.m j (N - s.n) s.n=a at *
 by_cases B:N≤a
 ·rw [if_pos B,if_pos B];exact ⟨rfl,f,v,u⟩
 ·rw [if_neg B,if_neg B];have d:s.n < N:=by omega
  have w:a < N:=by omega
  have O:s.m a j≠0:=F (by omega)
  -- swapped
  have D:∃ g:Nat→UInt8,(∀ i,i < N→g i≠0)∧∀ i,i < N→∀ q,q < N→eG x a s.n i q=aQ (g i) (eG s.m a s.n i q)∧eG x a s.n i (N+q)=aQ (g i) (eG s.b a s.n i q):=by
   refine ⟨fun i=>if i=a then f s.n else if i=s.n then f a else f i,fun i hi => ?_,fun i hi q t => ?_⟩
   ·simp only;split
    ·exact v _ d
    ·split
     ·exact v _ w
     ·exact v _ hi
   ·unfold eG;by_cases E:i=a
    ·simp only [if_pos E];exact u _ d q t
    ·by_cases L:i=s.n
     ·simp only [if_neg E,if_pos L];exact u _ w q t
     ·simp only [if_neg E,if_neg L];exact u _ hi q t
  have o:eG s.m a s.n s.n j≠0:=by
   unfold eG;by_cases e:s.n=a
   ·rw [if_pos e,e];exact O
   ·rw [if_neg e,if_pos rfl];exact O
  obtain ⟨g,M,l⟩:=D;generalize eG x a s.n=H at *
  generalize eG s.m a s.n=c at *
  generalize eG s.b a s.n=z at *
  have k:=M _ d;have p:=qO o;have G:cN (H s.n j)=aQ (cN (g s.n)) (cN (c s.n j)):=by
   have e:=(l _ d j A).1;have P:H s.n j≠0:=by rw [e];exact ae1 k o
   refine ac3 P ?_;rw [qO P,e];rw [show aQ (aQ (g s.n) (c s.n j)) (aQ (cN (g s.n)) (cN (c s.n j)))=aQ (aQ (g s.n) (cN (g s.n))) (aQ (c s.n j) (cN (c s.n j))) by ac_rfl,qO k,p,vI]
  refine ⟨rfl,fun i=>if i=s.n then aQ (g s.n) (c s.n j) else g i,fun i hi => ?_,fun i hi q t => ?_⟩
  ·simp only;split
   ·exact ae1 k o
   ·exact M i hi
  ·obtain ⟨r1,r2⟩:=l i hi q t;obtain ⟨K,J⟩:=l _ d q t;obtain ⟨R,_⟩:=l i hi j A;dsimp only;unfold fP mT;by_cases e:i=s.n
   ·subst e;simp only [if_true];rw [K,J];constructor
    ·rw [show aQ (aQ (g s.n) (c s.n j)) (aQ (c s.n q) (cN (c s.n j)))=aQ (aQ (g s.n) (c s.n q)) (aQ (c s.n j) (cN (c s.n j))) by ac_rfl,p,vI]
    ·rw [show aQ (aQ (g s.n) (c s.n j)) (aQ (z s.n q) (cN (c s.n j)))=aQ (aQ (g s.n) (z s.n q)) (aQ (c s.n j) (cN (c s.n j))) by ac_rfl,p,vI]
   ·simp only [if_neg e,if_true];rw [G,R,r1,r2,K,J,uL,uL];have y:=qO k;constructor
    ·rw [show aQ (aQ (aQ (g i) (c i j)) (aQ (cN (g s.n)) (cN (c s.n j)))) (aQ (g s.n) (c s.n q))=aQ (aQ (g s.n) (cN (g s.n))) (aQ (g i) (aQ (c i j) (aQ (c s.n q) (cN (c s.n j))))) by ac_rfl,y,pH]
    ·rw [show aQ (aQ (aQ (g i) (c i j)) (aQ (cN (g s.n)) (cN (c s.n j)))) (aQ (g s.n) (z s.n q))=aQ (aQ (g s.n) (cN (g s.n))) (aQ (g i) (aQ (c i j) (aQ (z s.n q) (cN (c s.n j))))) by ac_rfl,y,pH]
theorem ahP {N:Nat} (m b:Mx):∀ j,(gsol N m b j).n≤N
 | 0=>Nat.zero_le _
 | j+1=>by
  have a:=ahP (N:=N) m b j;show (sX N j (gsol N m b j)).n≤N;have c:=yJ (gsol N m b j).m j (N - (gsol N m b j).n) (gsol N m b j).n;unfold sX;simp only;split
  ·exact a
  ·show (gsol N m b j).n+1≤N;omega
def l5 (N:Nat) (m:Mx):Mx:=fun i q=>if q < N then m i q else if q=N+i then 1 else 0
theorem ahQ {N:Nat} (m:Mx):∀ j,j≤N→ahO N (gsol N m jO j) (rsol N (l5 N m) j)
 | 0,_=>⟨rfl,fun _=>1,fun _ _=>(by decide:(1:UInt8)≠0),fun i hi q a=>by
  show l5 N m i q=aQ 1 (m i q)∧l5 N m i (N+q)=aQ 1 (jO i q);unfold l5 jO;rw [pH,pH,if_pos a,if_neg (by omega)];refine ⟨rfl, ?_⟩;by_cases e:i=q
  ·rw [if_pos e,if_pos (by omega)]
  ·rw [if_neg e,if_neg (by omega)]⟩
 | j+1,h=>aur (by omega) (ahP m jO j) (ahQ m j (by omega))
theorem aus {N:Nat} {M0:Mx} (k:∀ x,kern N M0 x→∀ q,q < N→x q=0):(rsol N (l5 N M0) N).1=N∧∀ i q,i < N→q < N→aQ ((rsol N (l5 N M0) N).2 i (N+q)) (cN ((rsol N (l5 N M0) N).2 i i))=(gsol N M0 jO N).b i q:=by
 have h:=ae6 k N (ay7 _);obtain ⟨d,f,g,a⟩:=ahQ M0 N (ay7 _);refine ⟨d.trans h.n,fun i q hi e => ?_⟩;have c:=(a i hi i hi).1;have j:=(a i hi q e).2;rw [h.unit i i hi hi,if_pos rfl,vI] at c;rw [c,j,show aQ (aQ (f i) ((gsol N M0 jO N).b i q)) (cN (f i))=aQ (aQ (f i) (cN (f i))) ((gsol N M0 jO N).b i q) by ac_rfl,qO (g i hi),pH]
def fJ (k a q:Nat):UInt8:=if a < k then (if a=q then 1 else 0) else cN (azN a ^^^ azN q)
theorem ans {α:Type} (f:α→UInt8):∀ (a b:List α),lJ (a++b) f=lJ a f ^^^ lJ b f
 | [],b=>(aby _).symm
 | x::a,b=>by rw [List.cons_append,oU,oU,ans f a b];ac_rfl
theorem ant (f:Nat→UInt8):∀ n,gJ n f=lJ (aAm n) f
 | 0=>rfl
 | n+1=>by
  rw [aAT,ans,←ant f n];show gJ n f ^^^ f n=gJ n f ^^^ (f n ^^^ 0);rw [sW]
theorem anu {α:Type} (p:α→Bool) (f:α→UInt8):∀ (l:List α),(∀ a∈l,p a=false→f a=0)→lJ l f=lJ (l.filter p) f
 | [],_=>rfl
 | a::l,h=>by
  have c:=anu p f l fun b e=>h b (by simp [e])
  rw [aBI,oU];split
  ·rw [oU,c]
  ·rename_i d;rw [h a (by simp) (by simpa using d),aby,c]
theorem anv {α β:Type} (g:α→β) (f:β→UInt8):∀ l:List α,lJ (l.map g) f=lJ l fun a=>f (g a)
 | []=>rfl
 | a::l=>by rw [aAo,oU,oU,anv g f l]
theorem ahR:∀ (l:List Nat),l.Nodup→(∀ a∈l,a < 256)→(l.map azN).Nodup
 | [],_,_ => .nil
 | a::l,h,hb=>by
  rw [aBG] at h;rw [aAo,aBG];refine ⟨fun f => ?_,ahR l h.2 fun b d=>hb b (by simp [d])⟩;obtain ⟨b,c,e⟩:=azm.1 f;have:=congrArg UInt8.toNat e;rw [mS (hb b (by simp [c])),mS (hb a (by simp))] at this;exact h.1 (this ▸ c)
theorem ahS {α:Type} (p:α→Bool):∀ l:List α,(l.filter p).length+(l.filter fun a => !p a).length=l.length
 | []=>rfl
 | a::l=>by
  have:=ahS p l;rw [aBI,aBI];cases h:p a <;> simp <;> omega
theorem mds {k:Nat} {at_:List Nat} (J:at_.length=k) (p:at_.Nodup) (A:∀ a∈at_,a < 256) {x:Nat→UInt8} (h:kern k (fun t q=>fJ k (at_.getD t 0) q) x):∀ q,q < k→x q=0:=by
 have m:∀ a∈at_,gJ k (fun q=>aQ (fJ k a q) (x q))=0:=by
  intro a c;obtain ⟨t,B⟩:=List.getElem?_of_mem c;have E:=(ay5.1 B).1;have:=h t (by omega);simp only [azp,B,Option.getD_some] at this;exact this
 have C:∀ q,q < k→q∈at_→x q=0:=by
  intro q d n;have:=m q n;rw [abz (k:=q) k d fun i _ r=>by unfold fJ;rw [if_pos d,if_neg (fun e=>r e.symm),uK]] at this;unfold fJ at this;rw [if_pos d,if_pos rfl,pH] at this;exact this
 have g:((aAm k).filter fun q => !decide (q∈at_)).length=(at_.filter fun a => !decide (a < k)).length:=by
  have F:=ahS (fun q=>decide (q∈at_)) (aAm k);have I:=ahS (fun a=>decide (a < k)) at_;rw [aBJ] at F;have:((aAm k).filter fun q=>decide (q∈at_)).length=(at_.filter fun a=>decide (a < k)).length:=by
   apply List.Perm.length_eq;rw [List.perm_ext_iff_of_nodup (aBK.filter _) (p.filter _)];intro a;simp only [aBL,aAw,decide_eq_true_eq];exact And.comm
  omega
 have f:∀ q,q < k→q < 256:=by
  intro q d;have:k≤256:=by
   have j:at_.length≤(aAm 256).length:=p.length_le_of_subset fun a c=>aAw.2 (A a c)
   rw [aBJ] at j;omega
  omega
 have H:=anp (((aAm k).filter fun q => !decide (q∈at_)).map azN) ((at_.filter fun a => !decide (a < k)).map azN) (fun w=>x w.toNat) (by rw [List.length_map,List.length_map];exact g)
  (ahR _ (aBK.filter _) fun a c=>f a (aAw.1 (aBL.1 c).1))
  (ahR _ (p.filter _) fun a c=>A a (aBL.1 c).1)
  (fun z y w D e=>by
   obtain ⟨a,c,rfl⟩:=azm.1 y;obtain ⟨b,l,rfl⟩:=azm.1 D;rw [aBL] at c l;have u:=aAw.1 l.1;have:=congrArg UInt8.toNat e;rw [mS (A a c.1),mS (f b u)] at this;have o:=c.2;simp at o;omega)
  (fun z y=>by
   obtain ⟨a,c,rfl⟩:=azm.1 y;rw [aBL] at c;have v:¬ a < k:=by simpa using c.2
   rw [anv];have o:=m a c.1;rw [ant,anu (fun q => !decide (q∈at_)) _ _ fun q d G=>by rw [C q (aAw.1 d) (by simpa using G),rM]] at o;rw [←o];refine ahM _ fun q d => ?_
   have s:=aAw.1 (aBL.1 d).1;unfold fJ;rw [if_neg v,mS (f q s)];exact pG _ _)
 intro q d;by_cases n:q∈at_
 ·exact C q d n
 ·have:=H (azN q) (azm.2 ⟨q,aBL.2 ⟨aAw.2 d,by simp [n]⟩,rfl⟩);rw [mS (f q d)] at this;exact this
def mD (N:Nat) (M0:Mx):Mx:=(gsol N M0 jO N).b
def ae7 (N:Nat) (M0:Mx):Prop:=∀ x,kern N M0 x→∀ q,q < N→x q=0
theorem aut {N i:Nat} (hi:i < N) (x:Nat→UInt8):(gJ N fun q=>aQ (if i=q then 1 else 0) (x q))=x i:=by
 rw [abz (k:=i) N hi fun q _ a=>by rw [if_neg (fun e=>a e.symm),uK],if_pos rfl,pH]
def lK (k:Nat) (at_:List Nat):Mx:=fun t q=>fJ k (at_.getD t 0) q
theorem anw {k:Nat} {at_:List Nat} (d:at_.length=k) (b:at_.Nodup) (c:∀ a∈at_,a < 256):ae7 k (lK k at_):=fun x h=>mds d b c h
def kQ (k:Nat) (at_:List Nat) (C:Mx):Mx:=fun i p=>gJ k fun t=>aQ (mD k (lK k at_) i t) (C (at_.getD t 0) p)
def oV (k:Nat) (D:Mx):Mx:=fun i p=>gJ k fun q=>aQ (fJ k i q) (D q p)
def abA (k:Nat) (at_:List Nat) (C:Mx):Mx:=oV k (kQ k at_ C)
theorem auu {k:Nat} (D:Mx) {i:Nat} (hi:i < k) (p:Nat):oV k D i p=D i p:=by
 unfold oV;rw [yI k fun q a=>by unfold fJ;rw [if_pos hi],aut hi]
end Go.Gf
set_option maxRecDepth 10000
namespace Go.Proofs.YtaekhhlgnbhnpaaGreat
open Go Go.Tw Go.Proofs Go.Gf
theorem anx {P:Program} {k:IntKind} {a:Int}:zA P .neg (.val (.int k a))=some (.val (.int k (k.wrap (-a)))):=by
 simp [zA,Op.unary,Op.intArith,cF,Pure.pure]
theorem abB (a b:UInt8):v6 .u8 (a.toNat:Int) (b.toNat:Int)=((a ^^^ b).toNat:Int):=by
 rw [arE (jN a) (jN b),aBF]
theorem ahT (a b:UInt8):aR ayS 300 [bA a,bA b] ⟨bA (a ^^^ b),[]⟩:=by
 refine aX Tryz.func300 aB (h:=?_);unfold Tryz.f300;simp only [↓pre,zab,lF,abB,simprocAttr,bA]
def twI (a:Int):Int:=v6 .u8 (aBM.wrap (a*2 ^ min 1 8)) (sH .u8 29 (aBM.wrap (-(a / 2 ^ min 7 8))))
def anz:Bool:=(aAm 256).all fun a=>decide (twI (a:Int)=(xt a:Int)) && decide (xt a < 256)
theorem auv:anz=true:=by kernel_rfl
theorem anA (a:UInt8):twI (a.toNat:Int)=(xt a.toNat:Int)∧xt a.toNat < 256:=by
 have h:=auv;unfold anz at h;rw [aAr] at h;have b:=h a.toNat (aAw.2 (jN a));simpa using b
def xtU (a:UInt8):UInt8:=azN (xt a.toNat)
theorem ahU (a:UInt8):(xtU a).toNat=xt a.toNat:=mS (anA a).2
theorem anB (a:UInt8):aR ayS 348 [bA a] ⟨bA (xtU a),[]⟩:=by
 have h:=(anA a).1;unfold twI at h;have b:((xtU a).toNat:Int)=(xt a.toNat:Int):=by rw [ahU]
 refine aX Tryz.func348 aB (h:=?_);unfold Tryz.f348;simp only [↓pre,zab,lF,bE,anx,simprocAttr,bA,aAP,h,b]
def stI (c a b:Int):Int:=v6 .u8 c (sH .u8 a (aBM.wrap (-(sH .u8 b 1))))
theorem ae8 (a b:UInt8):sH .u8 (a.toNat:Int) (b.toNat:Int)=((a &&& b).toNat:Int):=by
 have h:(a &&& b).toNat < 256:=jN _;rw [aBN] at h;unfold sH;rw [uX,uX,BitVec.toNat_and,aAV,aAV,aBN];simp only [aAP];have d:=jN a;have c:=jN b;rw [aAW (by omega),aAW (by omega)];simp [aAO,aAP,aAQ];omega
theorem auw (c a b:UInt8):stI (c.toNat:Int) (a.toNat:Int) (b.toNat:Int)=((if b.toNat % 2=1 then c ^^^ a else c).toNat:Int):=by
 unfold stI;have f:sH .u8 (b.toNat:Int) 1=((b.toNat % 2:Nat):Int):=by
  have:=ae8 b 1;rw [show ((1:UInt8).toNat:Int)=1 from rfl] at this;rw [this,aBN];show ((b.toNat &&& 1:Nat):Int)=_;rw [Nat.and_one_is_mod]
 rw [f];by_cases h:b.toNat % 2=1
 ·rw [if_pos h,h];have d:aBM.wrap (-((1:Nat):Int))=((255:UInt8).toNat:Int):=by decide
  rw [d,ae8,abB];have:a &&& 255=a:=by
   apply aBc.1;rw [aBN];have:=jN a;show a.toNat &&& 255=a.toNat;have e:=Nat.and_two_pow_sub_one_eq_mod a.toNat 8;rw [show (2 ^ 8 - 1:Nat)=255 from rfl] at e;rw [e];omega
  rw [this]
 ·rw [if_neg h,show b.toNat % 2=0 by omega];have d:aBM.wrap (-((0:Nat):Int))=((0:UInt8).toNat:Int):=by decide
  rw [d,ae8,abB];have:a &&& 0=0:=by
   apply aBc.1;rw [aBN];show a.toNat &&& 0=0;exact Nat.and_zero _
  rw [this,sW]
def hfU (b:UInt8):UInt8:=azN (b.toNat / 2)
theorem ahV (b:UInt8):(hfU b).toNat=b.toNat / 2:=mS (by have:=jN b;omega)
theorem ahW:∀ (n a:Nat),gm n a 0=0
 | 0,_=>by unfold gm;rfl
 | n+1,a=>by unfold gm;rw [if_neg (by decide),Nat.zero_div,ahW n,Nat.xor_self]
theorem ahX (a b:UInt8):aR ayS 330 [bA a,bA b] ⟨bA (aQ a b),[]⟩:=by
 have j:=anB;have d:=auw;unfold stI at d;refine aX Tryz.func330 aB (h:=?_);unfold Tryz.f330;simp only [↓pre,simprocAttr,sx];rw [bS];refine bU (fun q e m=>∃ x y z:UInt8,y.toNat < 2 ^ q∧e 0=bA x∧e 1=bA y∧e 5=bA z∧Hid (z.toNat ^^^ gm q x.toNat y.toNat=(aQ a b).toNat)) 8 ⟨a,b,0,jN b,rfl,rfl,rfl,⟨?_⟩⟩ ?_
 ·rw [sV];exact aBE _
 rintro q e m ⟨x,y,z,f,r,g,l,i⟩;by_cases n:y=0
 ·subst n;have o:z=aQ a b:=by
   apply aBc.1;have:=i.out;rw [show (0:UInt8).toNat=0 from rfl,ahW,Nat.xor_zero] at this;exact this
  rw [←o];simp only [↓pre,zab,Int.natCast_zero,simprocAttr,g,l,bA,show (0:UInt8).toNat=0 from rfl,eq_self]
 ·have c:¬ ((y.toNat:Nat):Int)=0:=fun h=>n (aBc.1 (by show y.toNat=0;omega))
  have t:q≠0:=fun e=>by subst e;exact c (by simp at f;omega)
  obtain ⟨p,rfl⟩:∃ p,q=p+1:=⟨q - 1,by omega⟩
  have hs:=d z x y;have s:((y.toNat:Nat):Int) / 2 ^ min 1 8=((hfU y).toNat:Int):=by rw [ahV];simp
  replace f:=Hid.mk f;simp only [↓pre,zab,lF,anx,simprocAttr,r,g,l,bA,c,hs]
  (first | refine aH (j x) (by first | rfl | simp only [aA,aD, *]) ?_ | refine aG (j x) (by first | rfl | simp only [aA,aD, *]) (by intro k;first | rfl | simp only [ *,zaa]) ?_);simp only [↓pre,zab,bE,simprocAttr,g,bA,aAP,s]
  refine ⟨p,by omega,xtU x,hfU y,(if y.toNat % 2=1 then z ^^^ x else z), ?_,rfl,rfl,rfl,⟨?_⟩⟩
  ·have:=f.out;rw [ahV];rw [Nat.pow_succ] at this;omega
  ·have:=i.out;unfold gm at this;rw [ahV,ahU,←this];by_cases h:y.toNat % 2=1
   ·rw [if_pos h,if_pos h,aBF,Nat.xor_assoc]
   ·rw [if_neg h,if_neg h,aBE]
def g7 (f:Nat→Nat):List AV:=(aAm 256).map fun j => .val (.int .u8 (f j:Int))
theorem aag (f:Nat→Nat):(g7 f).length=256:=by simp [g7]
theorem abC (f:Nat→Nat) {j:Nat} (h:j < 256):(g7 f)[j]? = some (.val (.int .u8 (f j:Int))):=by
 unfold g7;rw [azl,aBO h];rfl
theorem anC {f g:Nat→Nat} {i:Nat} (hi:i < 256) (c:∀ j,j < 256→g j=if j=i then g i else f j):cP (g7 f) i [.val (.int .u8 (g i:Int))]=g7 g:=by
 have e:=aag f;unfold cP;apply aAf;intro j;by_cases a:j < 256
 ·rw [abC g a,azT];have b:((g7 f).take i).length=i:=by rw [aBP,e];omega
  by_cases h:j < i
  ·rw [azd (by omega),aBQ h,abC f a,c j a,if_neg (by omega)]
  ·rw [aze (by omega),b];by_cases d:j=i
   ·subst d;rw [ay9];rfl
   ·rw [aze (by simp;omega),aAs];simp only [aAC,aAD];rw [show i+(0+1)+(j - i - (0+1))=j by omega,abC f a,c j a,if_neg d]
 ·rw [ay3 (by simp [e];omega),ay3 (by rw [aag];omega)]
def l6 (n j:Nat):Nat:=if j < n then gE j else 0
def mU (n v:Nat):Nat:=if v≠0∧gL v < n then gL v else 0
theorem aux {n:Nat} (b:n < 256):cP (g7 (l6 n)) n [.val (.int .u8 (gE n:Int))]=g7 (l6 (n+1)):=by
 have h:=anC (f:=l6 n) (g:=l6 (n+1)) b fun j c=>by
  unfold l6;by_cases h:j=n
  ·rw [if_pos h,h]
  ·rw [if_neg h];by_cases a:j < n
   ·rw [if_pos a,if_pos (by omega)]
   ·rw [if_neg a,if_neg (by omega)]
 rw [show l6 (n+1) n=gE n by unfold l6;rw [if_pos (by omega)]] at h;exact h
theorem auy {n:Nat} (d:n < 255):cP (g7 (mU n)) (gE n) [.val (.int .u8 (n:Int))]=g7 (mU (n+1)):=by
 obtain ⟨l,j,c⟩:=wT d;have h:=anC (f:=mU n) (g:=mU (n+1)) c fun v k=>by
  unfold mU;by_cases h:v=gE n
  ·rw [if_pos h,h]
  ·rw [if_neg h];by_cases a:v=0
   ·rw [if_neg (by simp [a]),if_neg (by simp [a])]
   ·have:=aeZ k a;have i:gL v≠n:=fun e=>h (by rw [←this.1,e])
    by_cases b:gL v < n
    ·rw [if_pos ⟨a,by omega⟩,if_pos ⟨a,b⟩]
    ·rw [if_neg (fun h=>by omega),if_neg (fun h=>b h.2)]
 rw [show mU (n+1) (gE n)=n by unfold mU;rw [l,if_pos ⟨j,by omega⟩]] at h;exact h
def anD:Bool:=(aAm 255).all fun n=>xt (gE n) == gE ((n+1) % 255)
theorem auz:anD=true:=by kernel_rfl
def eU (n:Nat):UInt8:=azN (gE (n % 255))
theorem ahY (n:Nat):(eU n).toNat=gE (n % 255):=mS (wT (azq _ (by decide))).2.2
theorem auA {n:Nat} (h:n < 255):xtU (eU n)=eU (n+1):=by
 apply aBc.1;rw [ahU,ahY,ahY,aAW h];have a:=auz;unfold anD at a;rw [aAr] at a;exact eq_of_beq (a n (aAw.2 h))
theorem abD {m:aF} {b:Nat} {k:eR} (h:m.at_ b=some k):m.put b (some k)=m:=by
 obtain ⟨n,a,mm⟩:=m;unfold aF.put;congr 1;funext j;simp only;split
 ·rename_i e;rw [e];exact h.symm
 ·rfl
def ac5:Nat→Bool:=fun d=>d != 0 && d != 1 && d != 17 && d != 18
theorem auB (m:aF):aM ayS false m 338=some ⟨.ptr m.next 0,m.push ⟨g7 (fun _=>0),338,.var,true⟩,none⟩:=by kernel_rfl
theorem auC:aR ayS 347 [] ⟨.tup [.agg (g7 (l6 255)),.agg (g7 (mU 255))],[]⟩:=by
 have N:=anB;have R:(fun _=>0)=l6 0:=by funext j;simp [l6]
 have S:(fun _=>0)=mU 0:=by funext j;simp [mU]
 refine aX Tryz.func347 ac5 (h:=?_);unfold Tryz.f347;simp only [↓pre,za,ac5,auB,simprocAttr,bne];rw [bS];refine bU (fun q e m=>∃ n,q+n=255∧e 0 = .ptr 0 0∧e 1 = .ptr 1 0∧e 2=bA (eU n)∧e 4=aC (n:Nat)∧m.at_ 0=some ⟨g7 (l6 n),338,.var,true⟩∧m.at_ 1=some ⟨g7 (mU n),338,.var,true⟩) 255 ⟨0,rfl,rfl,rfl,rfl,rfl,by rw [←R];rfl,by rw [←S];rfl⟩ ?_;rintro q e m ⟨n,u,z,E,L,D,p,r⟩;replace u:=Hid.mk u;have s:=aag (l6 n);have t:=aag (mU n);by_cases a:n < 255
 ·have g:((n:Nat):Int) < 255:=by omega
  have w1:=bY (n:=n) (by omega);have o:((eU n).toNat:Int)=(gE n:Int):=by rw [ahY,aAW a]
  have A:=(wT a).2.2;have v:=aux (n:=n) (by omega);have y:=auy a;unfold cP at v y;simp only [aAC,aAD,azn] at v y;have C:n≤255:=by omega
  have H:gE n≤255:=by omega
  have i:n < 256:=by omega
  have O:aBM.wrap ((n:Nat):Int)=((n:Nat):Int):=by simp [aAO,aAP,aAQ];omega
  have l:=auA a;have d:=N (eU n);rw [l] at d;simp only [bA,o] at d L;replace l:=Hid.mk l;replace o:=Hid.mk o;simp only [↓pre,zam,amE,ac5,bE,simprocAttr,bne,aJ,z,E,L,D,p,r,s,t,g,i,A,C,H,v,y,O]
  (first | refine aH (d) (by first | rfl | simp only [aA,aD, *]) ?_ | refine aG (d) (by first | rfl | simp only [aA,aD, *]) (by intro k;first | rfl | simp only [ *,zaa]) ?_);simp only [↓pre,za,ac5,simprocAttr,bne,z,E,D,w1,bA]
  exact ⟨q - 1,by have:=u.out;omega,n+1,by have:=u.out;omega,rfl,rfl,rfl,rfl⟩
 ·have g:¬ ((n:Nat):Int) < 255:=by omega
  have Q:n=255:=by have:=u.out;omega
  subst Q;have x:(g7 (l6 255)).take 256=g7 (l6 255):=aA7 (by omega);have B:(g7 (mU 255)).take 256=g7 (mU 255):=aA7 (by omega);have J:(g7 (l6 255)).drop 256=[]:=aBR (by omega);have G:(g7 (mU 255)).drop 256=[]:=aBR (by omega);have b:∀ f,∀ c∈g7 f,zS ayS c:=fun f c M=>by
   unfold g7 at M;obtain ⟨j,_,rfl⟩:=azm.1 M;exact aeb _
  have F:=fun m=>aec (P:=ayS) m 3 [] [] _ (b (l6 255))
  have w:=fun m=>aec (P:=ayS) m 3 [] [] _ (b (mU 255))
  replace b:=Hid.mk b;have K:=abD p;have I:=abD r;simp only [↓pre,zah,amE,ac5,simprocAttr,bne,aJ,z,E,D,p,r,s,t,x,J,B,G,K,I,F,w]
theorem anE {m:aF}:∀ (cs:List AV),(∀ c∈cs,∃ v,c = .val v)→fzs m cs=some (cs,m)
 | [],_=>by unfold fzs;rfl
 | c::cs,h=>by
  obtain ⟨v,rfl⟩:=h c (by simp);have b:=anE (m:=m) cs fun x a=>h x (by simp [a])
  unfold fzs fz;simp [b]
theorem auD (m:aF):aM ayS true m 338=some ⟨.ptr m.next 0,m.push ⟨g7 (fun _=>0),338,.hole,true⟩,none⟩:=by kernel_rfl
theorem auE (a:UInt8):aR ayS 329 [bA a,aC (-1)] ⟨.tup [bA (if a=0 then 0 else cN a),aC (if a=0 then 10 else 0)],[]⟩:=by
 have D:=auC;by_cases t:a=0
 ·subst t;rw [if_pos rfl,if_pos rfl];refine aX Tryz.func329 aB (h:=?_);unfold Tryz.f329;simp only [↓pre,post,↓reduceIte,aBS,reduceCtorEq,sb,cC,dG,aC,jG,canon,gP,bA,show (0:UInt8).toNat=0 from rfl,Int.natCast_zero,eq_self,uV,Int.reduceNeg,Int.reduceLT]
 ·rw [if_neg t,if_neg t];have F:a.toNat≠0:=fun h=>t (aBc.1 h)
  have y:¬ ((a.toNat:Nat):Int)=0:=by omega
  have d:=jN a;obtain ⟨G,I⟩:=aeZ d F;have E:(g7 (mU 255))[a.toNat]? = some (.val (.int .u8 (gL a.toNat:Int))):=by
   rw [abC _ d];unfold mU;rw [if_pos ⟨F,I⟩]
  have e:((cN a).toNat:Int)=(gE ((255 - gL a.toNat) % 255):Int):=by
   unfold cN;rw [mS (ahI _)];rfl
  have p:Int.tmod (-1) 255 = -1:=by decide
  have q:azv.wrap ((gL a.toNat:Nat):Int)=((gL a.toNat:Nat):Int):=cD (by omega);have B:azv.wrap (((gL a.toNat:Nat):Int) * -1) = -((gL a.toNat:Nat):Int):=by
   rw [show ((gL a.toNat:Nat):Int) * -1 = -((gL a.toNat:Nat):Int) by omega];exact eD (by omega) (by omega)
  have n:Int.tmod (-((gL a.toNat:Nat):Int)) 255 = -((gL a.toNat:Nat):Int):=by
   rw [Int.neg_tmod,Int.tmod_eq_of_lt (by omega) (by omega)]
  generalize cN a=N at *
  generalize H:gL a.toNat=L at *
  replace H:=Hid.mk H;replace G:=Hid.mk G;have g:(255:Int)≠0:=by decide
  have v:=aag (l6 255);have C:=aag (mU 255);have w:aF.empty.next=0:=rfl;have x:∀ (f:Nat→Nat) (k:Nat),iG k (g7 f)=g7 f:=fun f k=>by
   have key:∀ l:List Nat,iG k (l.map fun j=>AV.val (.int .u8 (f j:Int)))=l.map fun j=>AV.val (.int .u8 (f j:Int)):=by
    intro l
    induction l with
    | nil=>unfold iG;rfl
    | cons a l K=>rw [aAo];unfold iG;rw [K];rfl
   exact key _
  have u:=aag (fun _=>0);have z:∀ (f:Nat→Nat) (m:aF),fzs m (g7 f)=some (g7 f,m):=fun f m=>anE _ fun c q=>by
   unfold g7 at q;obtain ⟨j,_,rfl⟩:=azm.1 q;exact ⟨_,rfl⟩
  refine aX Tryz.func329 aB (h:=?_);unfold Tryz.f329;simp only [↓pre,post,↓reduceIte,aBS,reduceCtorEq,sb,cC,dG,aC,jG,aB,bA,eq_self,y,uA,fO]
  (first | refine aH (D) (by first | rfl | simp only [c9,plain,aA,aC,aV,aAF,aAu, *]) ?_ | refine aG (D) (by first | rfl | simp only [c9,plain,aA,aC,aV,aAF,aAu, *]) (by intro k;first | rfl | simp only [shift,iG,aC,aV, *]) ?_);simp only [↓pre,↓reduceIte,aBS,reduceCtorEq,Nat.reduceLT,sb,cC,dG,vR,cP,AV.cells,g8,xM,shift,iG,dT,gO,ahm,aB,aE,bH,auD,aJ,eq_self,azD,v,C,u,z,x,w]
  by_cases A:L=0
  ·subst A;have s:¬ -(((0:Nat):Nat):Int) < 0:=by omega
   have i:(g7 (l6 255))[0]? = some (.val (.int .u8 ((1:Nat):Int))):=by
    rw [abC _ (by decide)];have:l6 255 0=1:=by kernel_rfl
    rw [this]
   have J:gE ((255 - 0) % 255)=1:=by kernel_rfl
   rw [J] at e;rw [e];have M : -(((0:Nat):Nat):Int)=0:=by decide
   rw [M] at B n s;simp only [↓pre,post,↓reduceIte,aBS,Nat.reduceLT,sb,ad0,cC,dG,lO,oJ,canon,gP,ahm,aB,aE,bH,bE,eq_self,azD,fO,d,E,q,B,p,n,g,s,i]
  ·have s : -((L:Nat):Int) < 0:=by omega
   have r:azv.wrap (-((L:Nat):Int)+255)=((255 - L:Nat):Int):=by
    rw [show -((L:Nat):Int)+255=((255 - L:Nat):Int) by omega];exact cD (by omega)
   have b:(255 - L) % 255=255 - L:=aAW (by omega);have o:255 - L < 256:=by omega
   have i:(g7 (l6 255))[255 - L]? = some (.val (.int .u8 (gE (255 - L):Int))):=by
    rw [abC _ o];unfold l6;rw [if_pos (by omega)]
   rw [b] at e;rw [e];replace b:=Hid.mk b;simp only [↓pre,post,↓reduceIte,aBS,sb,ad0,cC,dG,lO,oJ,canon,gP,ahm,aB,aE,bH,bE,eq_self,azD,iS,d,E,q,B,p,n,g,s,i,r,o]
theorem anF (a:UInt8):aR ayS 299 [bA a] ⟨.tup [bA (if a=0 then 0 else cN a),aC (if a=0 then 10 else 0)],[]⟩:=by
 have h:=auE a;generalize (if a=0 then 0 else cN a)=x at *
 generalize (if a=0 then (10:Int) else 0)=y at *
 refine aX Tryz.func299 aB (h:=?_);unfold Tryz.f299;simp only [↓pre,post,↓reduceIte,reduceCtorEq,sb,cC,aC,jG,aB,bA]
 (first | refine aH (h) (by first | rfl | simp only [c9,plain,aA,aC,aV,aAF,aAu, *]) ?_ | refine aG (h) (by first | rfl | simp only [c9,plain,aA,aC,aV,aAF,aAu, *]) (by intro k;first | rfl | simp only [shift,iG,aC,aV, *]) ?_);simp only [↓pre,↓reduceIte,aBS,sb,cC,dG,aC,vR,canon,gP,shift,iG,dT,gO,bA]
def tab (w:Nat) (f:Nat→UInt8):List UInt8:=(aAm w).map f
theorem pJ (w:Nat) (f:Nat→UInt8):(tab w f).length=w:=by simp [tab]
theorem abE {w:Nat} (f:Nat→UInt8) {j:Nat} (h:j < w):(tab w f)[j]? = some (f j):=by
 unfold tab;rw [azl,aBO h];rfl
theorem auF {w:Nat} {f g:Nat→UInt8} (h:∀ j,j < w→f j=g j):tab w f=tab w g:=by
 unfold tab;apply aAt;intro j a;exact h j (aAw.1 a)
def aY (w:Nat) (f:Nat→UInt8):List AV:=(tab w f).map bA
theorem eK (w:Nat) (f:Nat→UInt8):(aY w f).length=w:=by simp [aY,pJ]
theorem iO {w:Nat} (f:Nat→UInt8) {j:Nat} (h:j < w):(aY w f)[j]? = some (bA (f j)):=by
 unfold aY;rw [azl,abE f h];rfl
theorem qP {w:Nat} {f g:Nat→UInt8} (h:∀ j,j < w→f j=g j):aY w f=aY w g:=by unfold aY;rw [auF h]
theorem yK {w:Nat} {f g:Nat→UInt8} {i:Nat} (hi:i < w) (c:∀ j,j < w→g j=if j=i then g i else f j):cP (aY w f) i [bA (g i)]=aY w g:=by
 have e:=eK w f;unfold cP;apply aAf;intro j;by_cases a:j < w
 ·rw [iO g a,azT];have b:((aY w f).take i).length=i:=by rw [aBP,e];omega
  by_cases h:j < i
  ·rw [azd (by omega),aBQ h,iO f a,c j a,if_neg (by omega)]
  ·rw [aze (by omega),b];by_cases d:j=i
   ·subst d;rw [ay9];rfl
   ·rw [aze (by simp;omega),aAs];simp only [aAC,aAD];rw [show i+(0+1)+(j - i - (0+1))=j by omega,iO f a,c j a,if_neg d]
 ·rw [ay3 (by simp [e];omega),ay3 (by rw [eK];omega)]
structure sZ (v:AV) (n w:Nat) (M:Mx) (cells:List AV):Prop where
 rd:aZ v n cells
 at_:∀ i,i < n→∃ a x,cells[i]? = some a∧aZ a w (aY w (M i)++x)
structure fQ (v:AV) (L:List (List UInt8)) (cells:List AV):Prop where
 rd:aZ v L.length cells
 at_:∀ (i:Nat) (b:List UInt8),L[i]? = some b→∃ a x,cells[i]? = some a∧aZ a b.length (b.map bA++x)
theorem sZ.rows {v:AV} {n w:Nat} {M:Mx} {cells:List AV} (h:sZ v n w M cells):fQ v ((aAm n).map fun i=>tab w (M i)) cells:=by
 refine ⟨by simpa using h.rd,fun i b c => ?_⟩;have hi:i < n:=by have:=(ay5.1 c).1;simpa using this
 rw [azl,aBO hi] at c;cases c;obtain ⟨a,x,e,d⟩:=h.at_ i hi;exact ⟨a,x,e,by rw [pJ];exact d⟩
theorem auG (v:AV) (n w:Nat) (M:Mx) (cells:List AV) (d:sZ v n w M cells) (F:1≤n) (s:n≤32) (E:1≤w) (r:w≤32):aR ayS 325 [v] ⟨aC 0,[]⟩:=by
 have H:=d.rd.plain;have z:¬ ((n:Nat):Int) < 1:=by omega
 have u:¬ (32:Int) < ((n:Nat):Int):=by omega
 have y:¬ ((w:Nat):Int) < 1:=by omega
 have B:¬ (32:Int) < ((w:Nat):Int):=by omega
 have k:0 < n:=by omega
 obtain ⟨G,D,o,p⟩:=d.at_ 0 (by omega);refine aX Tryz.func325 aB (h:=?_);unfold Tryz.f325;simp only [↓pre,zag,amz,simprocAttr,d.rd.len',z,u];rw [bS];refine bU (fun q e m=>∃ i,q+i=n∧e 0=v∧e 13=v∧e 14=aC (n:Nat)∧e 15=aC (i:Nat)) n ⟨0,by omega,rfl,rfl,rfl,rfl⟩ ?_;rintro q e m ⟨i,j,t,l,g,f⟩;replace j:=Hid.mk j;by_cases c:i < n
 ·have b:((i:Nat):Int) < ((n:Nat):Int):=by omega
  have w1:=bY (n:=i) (by omega);obtain ⟨a,x,C,A⟩:=d.at_ i c;simp only [↓pre,zag,amz,simprocAttr,t,l,g,f,d.rd.addr',c,b,C,A.len',k,o,p.len',y,B,w1];exact ⟨q - 1,by have:=j.out;omega,i+1,by have:=j.out;omega,rfl⟩
 ·have b:¬ ((i:Nat):Int) < ((n:Nat):Int):=by omega
  simp only [↓pre,zad,simprocAttr,g,f,b]
theorem yL {n:Nat} (h:n < 256):aBM.wrap ((n:Nat):Int)=((azN n).toNat:Int):=by
 rw [mS h];simp [aAO,aAP,aAQ];omega
theorem auH (i j:Nat):aR ayS 297 [aC (i:Nat),aC (j:Nat)] ⟨bA (jO i j),[]⟩:=by
 unfold jO;by_cases h:i=j
 ·have a:((i:Nat):Int)=((j:Nat):Int):=by omega
  rw [if_pos h];refine aX Tryz.func297 aB (h:=?_);unfold Tryz.f297;simp only [↓pre,zab,simprocAttr,a];rfl
 ·have a:¬ ((i:Nat):Int)=((j:Nat):Int):=by omega
  rw [if_neg h];refine aX Tryz.func297 aB (h:=?_);unfold Tryz.f297;simp only [↓pre,zab,simprocAttr,a];rfl
def iA (k:Nat):Mx:=fun i j=>fJ k (k+i) j
theorem auI (k i j:Nat) (f:k+i < 256) (m:j < k):aR ayS 298 [aC (i:Nat),aC (j:Nat),.tptr 0 [aC (k:Nat)]] ⟨bA (iA k i j),[]⟩:=by
 have c:=ahT (azN (k+i)) (azN j);have b:=anF (azN (k+i) ^^^ azN j);have a:azN (k+i) ^^^ azN j≠0:=vJ fun e=>by
  have:=congrArg UInt8.toNat e;rw [mS f,mS (by omega)] at this;omega
 rw [if_neg a,if_neg a] at b;have d:iA k i j=cN (azN (k+i) ^^^ azN j):=by unfold iA fJ;rw [if_neg (by omega)]
 rw [d];have w1:=yL f;have l:=yL (n:=j) (by omega);have g:azv.wrap (((k:Nat):Int)+((i:Nat):Int))=((k+i:Nat):Int):=by rw [←Int.natCast_add];exact cD (by omega)
 replace a:=Hid.mk a;replace d:=Hid.mk d;generalize azN (k+i)=x at *
 generalize azN j=y at *
 simp only [bA] at c b;refine aX Tryz.func298 aB (h:=?_);unfold Tryz.f298;simp only [↓pre,zab,asw,bE,simprocAttr,g,w1,l,bA]
 (first | refine aH (c) (by first | rfl | simp only [aA,aD, *]) ?_ | refine aG (c) (by first | rfl | simp only [aA,aD, *]) (by intro k;first | rfl | simp only [ *,zaa]) ?_);simp only [↓pre,zab,simprocAttr];(first | refine aH (b) (by first | rfl | simp only [aA,aD, *]) ?_ | refine aG (b) (by first | rfl | simp only [aA,aD, *]) (by intro k;first | rfl | simp only [ *,zaa]) ?_);simp only [↓pre,zab,simprocAttr]
structure dF (m:aF) (b n w t:Nat) (fl:Bool) (β:Nat→Nat) (M:Mx):Prop where
 row:∃ cells,m.at_ b=some ⟨cells,52,.var,true⟩∧cells.length=n∧∀ i,i < t→cells[i]? = some (.sl (β i) 0 w w fl)
 lt:b < m.next
 own:∀ i,i < t→β i < m.next∧m.at_ (β i)=some ⟨aY w (M i),5,.flat,true⟩
 inj:∀ i j,i < t→j < t→β i=β j→i=j
theorem dF.ne {m:aF} {b n w t:Nat} {c:Bool} {β:Nat→Nat} {M:Mx} (h:dF m b n w t c β M) {i:Nat} (hi:i < t):β i≠b:=by
 intro e;obtain ⟨cells,a,_⟩:=h.row;have:=(h.own i hi).2;rw [e,a] at this;simp at this
theorem dF.congr {m:aF} {b n w t:Nat} {a:Bool} {β:Nat→Nat} {M c:Mx} (h:dF m b n w t a β M) (d:∀ i,i < t→∀ j,j < w→M i j=c i j):dF m b n w t a β c :=
 ⟨h.row,h.lt,fun i hi=>by rw [←qP (d i hi)];exact h.own i hi,h.inj⟩
theorem dF.keep {m m':aF} {b n w t:Nat} {e:Bool} {β:Nat→Nat} {M:Mx} (h:dF m b n w t e β M) (c:m.next≤m'.next) (d:∀ j k,m.at_ j=some k→j < m.next→(j=b∨∃ i,i < t∧j=β i)→m'.at_ j=some k):dF m' b n w t e β M:=by
 obtain ⟨cells,g,o,a⟩:=h.row;refine ⟨⟨cells,d b _ g h.lt (.inl rfl),o,a⟩,aza h.lt c,fun i hi => ?_,h.inj⟩;obtain ⟨f,l⟩:=h.own i hi;exact ⟨aza f c,d _ _ l f (.inr ⟨i,hi,rfl⟩)⟩
theorem dF.put_row {m:aF} {b n w t:Nat} {k:Bool} {β:Nat→Nat} {M:Mx} (h:dF m b n w t k β M) {i:Nat} (hi:i < t) (g:Nat→UInt8):dF (m.put (β i) (some ⟨aY w g,5,.flat,true⟩)) b n w t k β (fun f=>if f=i then g else M f):=by
 obtain ⟨cells,o,p,c⟩:=h.row;have d:=h.ne hi;refine ⟨⟨cells,by rw [aO,if_neg (fun e=>d e.symm)];exact o,p,c⟩,h.lt,fun j a=>⟨(h.own j a).1, ?_⟩,h.inj⟩;rw [aO];by_cases e:j=i
 ·subst e;rw [if_pos rfl];simp only [if_true]
 ·rw [if_neg (fun l=>e (h.inj j i a hi l))];simp only [if_neg e];exact (h.own j a).2
theorem dF.add_row {m:aF} {b n w t:Nat} {d:Bool} {β:Nat→Nat} {M:Mx} (h:dF m b n w t d β M) (v:t < n) {cells:List AV} (r:m.at_ b=some ⟨cells,52,.var,true⟩) (g:Nat→UInt8) :
 dF ((m.push ⟨aY w g,5,.flat,true⟩).put b (some ⟨cP cells t [.sl m.next 0 w w d],52,.var,true⟩)) b n w (t+1) d (fun i=>if i=t then m.next else β i) (fun i=>if i=t then g else M i):=by
 obtain ⟨a,c,x,l⟩:=h.row;rw [r] at c;obtain rfl:cells=a:=by simpa using c
 have q:=h.lt;have p:(cP cells t [.sl m.next 0 w w d]).length=n:=by
  unfold cP;simp only [aAZ,aBP,List.length_drop,aAC,aAD];omega
 refine ⟨⟨_,by rw [aO,if_pos rfl],p,fun i hi => ?_⟩,by rw [bX,bM];omega,fun i hi => ?_,fun i j hi u e => ?_⟩
 ·unfold cP;have k:(cells.take t).length=t:=by rw [aBP];omega
  by_cases e:i=t
  ·subst e;rw [azT,aze (by omega),k,ay9];simp
  ·rw [azT,azd (by omega),aBQ (by omega),l i (by omega)];simp [e]
 ·by_cases e:i=t
  ·simp only [if_pos e];exact ⟨by rw [bX,bM];omega,by rw [aO,if_neg (by omega),aT,if_pos rfl]⟩
  ·simp only [if_neg e];obtain ⟨y,s⟩:=h.own i (by omega);refine ⟨by rw [bX,bM];omega, ?_⟩;rw [aO,if_neg (h.ne (by omega)),aT,if_neg (by omega)];exact s
 ·by_cases o:i=t <;> by_cases f:j=t
  ·omega
  ·simp only [if_pos o,if_neg f] at e;have:=(h.own j (by omega)).1;omega
  ·simp only [if_neg o,if_pos f] at e;have:=(h.own i (by omega)).1;omega
  ·simp only [if_neg o,if_neg f] at e;exact h.inj i j (by omega) (by omega) e
def mV (a:Bool) (n w:Nat) (M:Mx):List AV:=(aAm n).map fun i => .tree w w (aY w (M i)) a
theorem auJ (a:Bool) (n w:Nat) (M:Mx):(mV a n w M).length=n:=by simp [mV]
theorem aah (a:Bool) {n w i:Nat} (M:Mx) (h:i < n):(mV a n w M)[i]? = some (.tree w w (aY w (M i)) a):=by
 unfold mV;rw [azl,aBO h];rfl
theorem ae9 (f a:Bool) (n w:Nat) (M:Mx):sZ (.tree n n (mV a n w M) f) n w M (mV a n w M) :=
 ⟨⟨.inr (.inr ⟨n,f,rfl,ay7 _⟩)⟩,fun i hi=>⟨_,[],aah a M hi,⟨.inr (.inr ⟨w,a,by rw [aBi],ay7 _⟩)⟩⟩⟩
theorem anG {k:Nat} {m:aF}:∀ (cs a:List AV),cs.length=a.length→(∀ (i:Nat) (c b:AV),cs[i]? = some c→a[i]? = some b→fzT k m c=some b)→oO k m cs=some a
 | [],[],_,_=>i8
 | c::cs,b::a,hl,h=>by
  rw [dM,h 0 c b rfl rfl,aAh,anG cs a (by simpa using hl) fun i x d f e=>h (i+1) x d (by simpa using f) (by simpa using e)];rfl
 | [],_::_,hl,_=>by simp at hl
 | _::_,[],hl,_=>by simp at hl
theorem dF.fzT {m:aF} {b n w:Nat} {e:Bool} {β:Nat→Nat} {M:Mx} (h:dF m b n w n e β M) (f:Bool):Go.Tw.fzT 1 m (.sl b 0 n n f)=some (.tree n n (mV e n w M) f):=by
 obtain ⟨cells,j,k,d⟩:=h.row;refine aed j (anG _ _ (by rw [aBu,k,auJ]) fun i c l a g => ?_);rw [aBu] at a;have hi:i < n:=by have:=(ay5.1 a).1;omega
 rw [d i hi] at a;rw [aah e M hi] at g;cases a;cases g;rw [uC (h.own i hi).2,aBu]
theorem ahZ {el:TypeId} {x:Value} (b:cE ayS el=some 1) (a:gN ayS el=some [x]) (n:Nat):jF ayS el n=some ((aAm n).map fun _ => .val x):=by
 unfold jF;rw [b,aAh];by_cases h:n=0
 ·subst h;rfl
 ·rw [if_neg (by omega),a,aAh,if_pos (show [x].length=1 from rfl),azD];congr 1;apply aAt;intro i _;rw [Nat.mod_one];rfl
theorem ah0 (m:aF) {n:Nat} (f:n≤32):rZ ayS m 45 n n=some ⟨.sl m.next 0 n n true,m.push ⟨(aAm n).map fun _=>aN,52,.var,true⟩,none⟩:=by
 have e:bZ ayS 45=some 52:=by kernel_rfl
 have a:cE ayS 52=some 1:=by kernel_rfl
 have c:lB ayS 52=some 24:=by kernel_rfl
 have d:bP ayS 52 = .var:=by kernel_rfl
 have b:=ahZ a (x := .slice none 0 0) (by kernel_rfl) n;simp only [rZ,e,a,c,d,b,bL,aAh,azD];rw [if_pos (by omega),aA7 (by simp)];rfl
theorem rN (m:aF) {n:Nat} (g:n≤65536):rZ ayS m 52 n n=some ⟨.sl m.next 0 n n true,m.push ⟨aY n fun _=>0,5,.flat,true⟩,none⟩:=by
 have f:bZ ayS 52=some 5:=by kernel_rfl
 have b:cE ayS 5=some 1:=by kernel_rfl
 have c:lB ayS 5=some 1:=by kernel_rfl
 have d:bP ayS 5 = .flat:=by kernel_rfl
 have a:=ahZ b (x := .int .u8 0) (by kernel_rfl) n;have e:((aAm n).map fun _=>AV.val (.int .u8 0))=aY n fun _=>0:=by
  unfold aY tab;rw [aBv];rfl
 rw [e] at a;simp only [rZ,f,b,c,d,a,bL,aAh,azD];rw [if_pos (by omega),aA7 (by rw [eK];omega)]
theorem afa {P:Program} {t:TypeId} {b d n c:Nat} {f:Bool} (h:(bZ P t).isSome=true):lenE P t (.sl b d n c f)=some (.val (.int .i64 (n:Nat))):=by
 obtain ⟨el,a⟩:=Option.isSome_iff_exists.1 h;simp [lenE,a,vQ,aC]
theorem ah1 {b a n c:Nat} {f:Bool}:lenE ayS 45 (.sl b a n c f)=some (.val (.int .i64 (n:Nat))):=afa (by kernel_rfl)
theorem anH {b a n c:Nat} {f:Bool}:lenE ayS 52 (.sl b a n c f)=some (.val (.int .i64 (n:Nat))):=afa (by kernel_rfl)
theorem anI {b a n c k:Nat} {f:Bool}:nL ayS 45 k (.sl b a n c f)=if k < n then some (.ptr b (a+k*1)) else none:=by
 rw [iW (by kernel_rfl)];have e:bZ ayS 45=some 52:=by kernel_rfl
 have d:cE ayS 52=some 1:=by kernel_rfl
 rw [e,aAh,d,aAh]
theorem anJ {b a n c k:Nat} {f:Bool}:nL ayS 52 k (.sl b a n c f)=if k < n then some (.ptr b (a+k*1)) else none:=by
 rw [iW (by kernel_rfl)];have e:bZ ayS 52=some 5:=by kernel_rfl
 have d:cE ayS 5=some 1:=by kernel_rfl
 rw [e,aAh,d,aAh]
def kS:=(⟨@ah1,@anH,@anI,@anJ⟩:_∧_∧_∧_)
theorem auK {cs:List AV} {i:Nat} {x:AV} (h:i < cs.length):(cs.take i++[x]++cs.drop (i+1))[i]? = some x:=by
 have a:(cs.take i).length=i:=by rw [aBP];omega
 rw [azT,aze (by omega),a,ay9];rfl
def yM:Nat→Bool:=fun d=>d != 33
theorem anK (m0:aF) (n w:Nat) (g:FuncId) (d:List AV) (f:Mx) (hn:n≤32) (hw:w≤32) (hc:c9 d=true) (hg:∀ i j,i < n→j < w→aR ayS g (aC (i:Nat)::aC (j:Nat)::d) ⟨bA (f i j),[]⟩) :
 fH ayS 296 [aC (n:Nat),aC (w:Nat),.clo g d] m0 fun r m'=>∃ β,r = .sl m0.next 0 n n true∧dF m' m0.next n w n true β f∧(∀ i,i < n→m0.next < β i)∧(∀ j k,m0.at_ j=some k→j < m0.next→m'.at_ j=some k)∧m'.mm=m0.mm:=by
 have a9:=ah0 m0 hn;have b0:=fun m=>rN m (n:=w) (by omega)
 replace hg:=Hid.mk hg;replace hn:=Hid.mk hn;replace hw:=Hid.mk hw;refine bI Tryz.func296 yM (h:=?_);unfold Tryz.f296;simp only [↓pre,za,aeI,yM,afa,simprocAttr,bne,a9];generalize hb:m0.next=b at *
 rw [bS];refine bU (fun q e m=>∃ i β,q+i=n∧e 1=aC (w:Nat)∧e 2 = .clo g d∧e 7 = .sl b 0 n n true∧e 13=aC (n:Nat)∧e 14=aC (i:Nat)∧Hid (dF m b n w i true β f∧(∀ c,c < i→b < β c)∧(∀ j k,m0.at_ j=some k→j < b→m.at_ j=some k)∧m.mm=m0.mm)) n ⟨0,fun _=>0,by omega,rfl,rfl,rfl,rfl,rfl,⟨⟨⟨_,by rw [aT,if_pos hb.symm],by simp,fun i h=>by omega⟩,by rw [bM];omega,fun i h=>by omega,fun i j h=>by omega⟩,fun i h=>by omega,fun j k Y h2=>by rw [aT,if_neg (by omega)];exact Y,rfl⟩⟩ ?_;rintro q e m ⟨i,β,X,W,H,J,u,v,hJ⟩;replace X:=Hid.mk X;obtain ⟨Q,hβ,E,U⟩:=hJ.out;obtain ⟨cells,F,b9,a0⟩:=Q.row;have a7:=Q.lt;by_cases C:i < n
 ·have B:((i:Nat):Int) < ((n:Nat):Int):=by omega
  have w1:=bY (n:=i) (by have:=hn.out;omega);have a6:¬ b=m.next:=by omega
  have a4:i+1≤cells.length:=by omega
  have R:=auK (cs:=cells) (i:=i) (x := .sl m.next 0 w w true) (by omega);have K:=Q.add_row C F (fun _=>0);unfold cP at K;simp only [aAC,aAD,azn] at K;have z:∀ j k,m0.at_ j=some k→j < b→((m.push ⟨aY w fun _=>0,5,.flat,true⟩).put b (some ⟨cells.take i++[.sl m.next 0 w w true]++cells.drop (i+1),52,.var,true⟩)).at_ j=some k:=fun j k Y h2=>by
   rw [aO,if_neg (by omega),aT,if_neg (by omega)];exact E j k Y h2
  replace K:=Hid.mk K;replace z:=Hid.mk z;replace E:=Hid.mk E;replace hβ:=Hid.mk hβ;replace Q:=Hid.mk Q;replace a0:=Hid.mk a0;simp only [↓pre,zam,aeI,yM,afa,simprocAttr,bne,aJ,b0,W,J,u,v,B,F,C,a6,a4,R];rw [bS];generalize T:(fun c=>if c=i then m.next else β c)=β' at *
  have b8:β' i=m.next:=by rw [←T];simp
  have b1:b < m.next:=a7;have Z:∀ c,c < i+1→b < β' c:=fun c h=>by
   rw [←T];by_cases e:c=i
   ·simp only [if_pos e];exact b1
   ·simp only [if_neg e];exact hβ.out c (by omega)
  refine bU (fun q e m=>∃ j,q+j=w∧e 1=aC (w:Nat)∧e 2 = .clo g d∧e 7 = .sl b 0 n n true∧e 8=aC (i:Nat)∧e 13=aC (n:Nat)∧e 14=aC (i:Nat)∧e 26=aC (w:Nat)∧e 27=aC (j:Nat)∧Hid (dF m b n w (i+1) true β' (fun c a=>if c < i then f c a else if a < j then f i a else 0)∧(∀ j k,m0.at_ j=some k→j < b→m.at_ j=some k)∧m.mm=m0.mm)) w ⟨0,by omega,W,H,J,rfl,u,v,rfl,rfl,⟨K.out.congr fun c S a N => ?_,z.out,U⟩⟩ ?_
  ·by_cases e:c=i
   ·rw [if_pos e,if_neg (by omega),if_neg (by omega)]
   ·rw [if_neg e,if_pos (by omega)]
  replace K:=Hid.mk K;rintro q2 e m2 ⟨j,D,W,H,J,e8,u,v,L,O,a5⟩;replace D:=Hid.mk D;obtain ⟨o,t,G⟩:=a5.out;obtain ⟨a1,M,b3,y⟩:=o.row;have a2:=y i (by omega);obtain ⟨b7,I⟩:=o.own i (by omega);have P:=eK w (fun a=>if i < i then f i a else if a < j then f i a else 0);by_cases A:j < w
  ·have p:((j:Nat):Int) < ((w:Nat):Int):=by omega
   have w2:=bY (n:=j) (by have:=hw.out;omega);have s:=hg.out i j C A;have b5:j≤w - 1:=by omega
   have hP:=o.put_row (i:=i) (by omega) (fun a=>if a < j+1 then f i a else 0);have l:=yK (w:=w) (f:=fun a=>if i < i then f i a else if a < j then f i a else 0) (g:=fun a=>if a < j+1 then f i a else 0) A fun a N=>by
    simp only [aBH,if_false];by_cases e:a=j
    ·subst e;rw [if_pos rfl]
    ·rw [if_neg e];by_cases H:a < j
     ·rw [if_pos H,if_pos (by omega)]
     ·rw [if_neg H,if_neg (by omega)]
   simp only [show j < j+1 by omega,if_true] at l;unfold cP at l;simp only [aAC,aAD,azn,aBH,if_false] at l I P;have b2:j+1≤(aY w fun a=>if a < j then f i a else 0).length:=by omega
   simp only [bA] at l s;have V:c9 (aC (i:Nat)::aC (j:Nat)::d)=true:=by simp only [c9,plain,aC,hc,aAu]
   have b4:=o.ne (i:=i) (by omega);replace hP:=Hid.mk hP;replace t:=Hid.mk t;replace o:=Hid.mk o;replace y:=Hid.mk y;simp only [aC] at V s;simp only [↓pre,zam,aeI,yM,simprocAttr,bne,H,J,e8,L,O,p,M,C,a2];refine aG s V (fun _=>rfl) ?_;simp only [↓pre,zam,aeI,yM,simprocAttr,bne,aJ,A,I,b2,l];refine dE (by kernel_rfl) ?_;simp only [↓pre,za,yM,simprocAttr,bne,W,H,J,e8,u,v,L,O,w2];refine ⟨q2 - 1,by have:=D.out;omega,j+1,by have:=D.out;omega,rfl,⟨hP.out.congr fun c S a N => ?_,fun x k Y h2 => ?_,G⟩⟩
   ·by_cases e:c=i
    ·subst e;simp only [if_true,aBH,if_false]
    ·simp only [if_neg e,if_pos (show c < i by omega)]
   ·rw [if_neg (by have:=Z i (by omega);omega)];exact t.out x k Y h2
  ·have p:¬ ((j:Nat):Int) < ((w:Nat):Int):=by omega
   simp only [↓pre,zah,yM,simprocAttr,bne,W,H,J,u,v,L,O,p,w1];refine ⟨q - 1,by have:=X.out;omega,i+1,β',by have:=X.out;omega,rfl,⟨o.congr fun c S a N => ?_,Z,t,G⟩⟩;by_cases e:c < i
   ·rw [if_pos e]
   ·rw [if_neg e,if_pos (by omega),show c=i by omega]
 ·have B:¬ ((i:Nat):Int) < ((n:Nat):Int):=by omega
  have a3:i=n:=by have:=X.out;omega
  subst a3;simp only [↓pre,zah,yM,simprocAttr,bne,J,u,v,B];exact ⟨β,Q,hβ,E,U⟩
theorem anL (m0:aF) (n:Nat) (m:1≤n) (a:n≤32):fH ayS 243 [aC (n:Nat)] m0 fun r m'=>∃ β,r = .tup [.sl m0.next 0 n n true,aC 0]∧dF m' m0.next n n n true β jO∧(∀ i,i < n→m0.next < β i)∧(∀ j k,m0.at_ j=some k→j < m0.next→m'.at_ j=some k)∧m'.mm=m0.mm:=by
 have e:=anK m0 n n 297 [] jO a a rfl fun i j _ _=>auH i j
 have f:¬ ((n:Nat):Int) < 1:=by omega
 have b:¬ (32:Int) < ((n:Nat):Int):=by omega
 refine bI Tryz.func243 aB (h:=?_);unfold Tryz.f243;simp only [↓pre,zad,simprocAttr,f,b];refine nR e ?_;rintro r m' ⟨β,rfl,l,g,c,d⟩;simp only [↓pre,simprocAttr,sx];exact ⟨β,l,g,c,d⟩
theorem auL (n:Nat) (c:1≤n) (a:n≤32):aR ayS 243 [aC (n:Nat)] ⟨.tup [.tree n n (mV true n n jO) true,aC 0],[]⟩:=by
 refine d6 (sK (anL aF.empty n c a) ?_);rintro r m' ⟨β,rfl,b,_⟩;exact ⟨1,by rw [j8,dM,b.fzT,aAh,dM];unfold aC;rw [gB,i8];rfl⟩
theorem auM (k r:Nat) (n:1≤k) (l:k≤12) (o:1≤r) (d:r≤4):aR ayS 244 [aC (k:Nat),aC (r:Nat)] ⟨.tup [.tree r r (mV true r k (iA k)) true,aC 0],[]⟩:=by
 refine d6 ?_;have e:=anK aF.empty r k 298 [.tptr 0 [aC (k:Nat)]] (iA k) (by omega) (by omega) rfl fun i j hi b=>auI k i j (by omega) b
 have g:¬ ((k:Nat):Int) < 1:=by omega
 have a:¬ (12:Int) < ((k:Nat):Int):=by omega
 have f:¬ ((r:Nat):Int) < 1:=by omega
 have c:¬ (4:Int) < ((r:Nat):Int):=by omega
 refine bI Tryz.func244 aB (h:=?_);unfold Tryz.f244;simp only [↓pre,zad,asr,simprocAttr,List.size_toArray,g,a,f,c];refine nR e ?_;rintro p m' ⟨β,rfl,m,_⟩;simp only [↓pre,simprocAttr];exact ⟨1,by rw [j8,dM,m.fzT,aAh,dM,gB,i8];rfl⟩
theorem auN (m0:aF) (v:AV) (n:Nat) (cells:List AV) (g:aZ v n cells) (j:n≤cells.length) (k:1≤n) (i:n≤65536):fH ayS 345 [v] m0 fun r m'=>r = .sl m0.next 0 n n false∧m'=m0.push ⟨cells.take n,52,.var,true⟩:=by
 have b:=fun m=>aZ.src (P:=ayS) (el:=52) (sz:=1) (m:=m) g (by omega)
 have a:=fun m=>ag0 (P:=ayS) (kd := .var) (y:=24) (zl:=[.slice none 0 0]) (by kernel_rfl) (by kernel_rfl) (by kernel_rfl) (by kernel_rfl) rfl (b m) (by omega) (by omega) (by omega)
 simp only [azD] at a;have d:∀ m,gF ayS m 45 0 []=some ⟨.tree 0 0 [] true,m,none⟩:=fun m=>zP (el:=52) (sz:=1) (z:=[]) (by kernel_rfl) (by kernel_rfl) (by kernel_rfl) rfl rfl (by decide)
 obtain ⟨c,f,rfl,_⟩:∃ c f,v = .tree n c cells f∧n≤c:=by
  rcases g.form with ⟨_,h⟩ | ⟨_,_,_,h⟩ | h
  ·omega
  ·omega
  ·exact h
 have e:∀ x y,dR ayS .eql 45 x y (.tree n c cells f) (.val (.slice none 0 0))=some (.val (.bool false)):=fun x y=>by kernel_rfl
 refine bI Tryz.func345 aB (h:=?_);unfold Tryz.f345;simp only [↓pre,zab,asA,bE,fO,simprocAttr,d,a,e]
theorem auO (m0:aF) (v:AV) (n:Nat) (cells:List AV) (g:aZ v n cells) (j:n≤cells.length) (k:1≤n) (i:n≤65536):fH ayS 346 [v] m0 fun r m'=>r = .sl m0.next 0 n n false∧m'=m0.push ⟨cells.take n,5,.flat,true⟩:=by
 have b:=fun m=>aZ.src (P:=ayS) (el:=5) (sz:=1) (m:=m) g (by omega)
 have a:=fun m=>ag0 (P:=ayS) (kd := .flat) (y:=1) (zl:=[.int .u8 0]) (by kernel_rfl) (by kernel_rfl) (by kernel_rfl) (by kernel_rfl) rfl (b m) (by omega) (by omega) (by omega)
 simp only [azD] at a;have d:∀ m,gF ayS m 52 0 []=some ⟨.tree 0 0 [] true,m,none⟩:=fun m=>zP (el:=5) (sz:=1) (z:=[]) (by kernel_rfl) (by kernel_rfl) (by kernel_rfl) rfl rfl (by decide)
 obtain ⟨c,f,rfl,_⟩:∃ c f,v = .tree n c cells f∧n≤c:=by
  rcases g.form with ⟨_,h⟩ | ⟨_,_,_,h⟩ | h
  ·omega
  ·omega
  ·exact h
 have e:∀ x y,dR ayS .eql 52 x y (.tree n c cells f) (.val (.slice none 0 0))=some (.val (.bool false)):=fun x y=>by kernel_rfl
 refine bI Tryz.func346 aB (h:=?_);unfold Tryz.f346;simp only [↓pre,zab,asC,bE,fO,simprocAttr,d,a,e]
theorem auP (m0:aF) (v:AV) (n w:Nat) (M:Mx) (cells:List AV) (E:sZ v n w M cells) (y:1≤n) (O:n≤32) (R:1≤w) (Y:w≤32) (T:n≤cells.length):fH ayS 327 [v] m0 fun r m'=>∃ β,r = .sl m0.next 0 n n false∧dF m' m0.next n w n false β M∧(∀ i,i < n→m0.next < β i)∧(∀ j k,m0.at_ j=some k→j < m0.next→m'.at_ j=some k)∧m'.mm=m0.mm:=by
 have W:=auN m0 v n cells E.rd T y (by omega);refine bI Tryz.func327 aB (h:=?_);unfold Tryz.f327;simp only [↓pre,zab,simprocAttr];refine nR W ?_;rintro r m' ⟨rfl,rfl⟩;simp only [↓pre,zae,kS,simprocAttr];generalize V:m0.next=b at *
 rw [bS];refine bU (fun q e m=>∃ i β,q+i=n∧e 0=v∧e 3 = .sl b 0 n n false∧e 8=aC (n:Nat)∧e 9=aC (i:Nat)∧Hid (dF m b n w i false β M∧(∀ d,d < i→b < β d)∧(∀ j k,m0.at_ j=some k→j < b→m.at_ j=some k)∧m.mm=m0.mm)) n ⟨0,fun _=>0,by omega,rfl,rfl,rfl,rfl,⟨⟨⟨_,by rw [aT,if_pos V.symm],by rw [aBP];omega,fun i h=>by omega⟩,by rw [bM];omega,fun i h=>by omega,fun i j h=>by omega⟩,fun i h=>by omega,fun j k y O=>by rw [aT,if_neg (by omega)];exact y,rfl⟩⟩ ?_;rintro q e m ⟨i,β,u,P,D,K,C,S⟩;replace u:=Hid.mk u;obtain ⟨p,B,g,s⟩:=S.out;obtain ⟨l,o,X,z⟩:=p.row;have J:=p.lt;by_cases f:i < n
 ·have c:((i:Nat):Int) < ((n:Nat):Int):=by omega
  have w1:=bY (n:=i) (by omega);have H:¬ b=m.next:=by omega
  have G:i+1≤l.length:=by omega
  obtain ⟨a,x,L,I⟩:=E.at_ i f;have A:=auO m a w _ I (by rw [aAZ,eK];omega) R (by omega);rw [List.take_left' (eK w (M i))] at A;have t:=p.add_row f o (M i);unfold cP at t;simp only [aAC,aAD,azn] at t;have N:b < m.next:=J;replace t:=Hid.mk t;replace g:=Hid.mk g;replace B:=Hid.mk B;replace p:=Hid.mk p;replace z:=Hid.mk z;simp only [↓pre,zag,amA,simprocAttr,P,D,K,C,c,E.rd.addr',f,L];refine nR A ?_;rintro r m' ⟨rfl,rfl⟩;simp only [↓pre,zag,amA,bH,simprocAttr,aJ,P,D,K,C,f,o,H,G,w1];refine ⟨q - 1,by have:=u.out;omega,i+1,(fun d=>if d=i then m.next else β d),by have:=u.out;omega,rfl,⟨t.out.congr fun d Q Z U => ?_,fun d h => ?_,fun j k y O => ?_,s⟩⟩
  ·by_cases e:d=i
   ·simp only [e,if_true]
   ·simp only [if_neg e]
  ·by_cases e:d=i
   ·simp only [e,if_true];exact N
   ·simp only [if_neg e];exact B.out d (by omega)
  ·rw [if_neg (by omega),if_neg (by omega)];exact g.out j k y O
 ·have c:¬ ((i:Nat):Int) < ((n:Nat):Int):=by omega
  have F:i=n:=by have:=u.out;omega
  subst F;simp only [↓pre,zad,simprocAttr,D,K,C,c];exact ⟨β,p,B,g,s⟩
def aai:Nat→Bool:=fun d=>d != 17 && d != 22
theorem yN {m:aF} {b:Nat} {x y:Option eR}:(m.put b x).put b y=m.put b y:=by
 obtain ⟨n,a,mm⟩:=m;unfold aF.put;congr 1;funext j;simp only;split <;> rfl
theorem anM (m0:aF) (b w:Nat) (f:Bool) (M:Nat→UInt8) (c:UInt8) (K:w≤32) (J:m0.at_ b=some ⟨aY w M,5,.flat,true⟩):fH ayS 343 [.sl b 0 w w f,bA c] m0 fun r m'=>r = .tup []∧m'=m0.put b (some ⟨aY w (fun j=>aQ (M j) c),5,.flat,true⟩):=by
 have F:=fun x=>ahX x c
 simp only [bA] at F;refine bI Tryz.func343 aB (h:=?_);unfold Tryz.f343;simp only [↓pre,zae,kS,simprocAttr,bA];rw [bS];refine bU (fun q e m=>∃ j,q+j=w∧e 0 = .sl b 0 w w f∧e 1=bA c∧e 6=aC (w:Nat)∧e 7=aC (j:Nat)∧Hid (m=m0.put b (some ⟨aY w (fun a=>if a < j then aQ (M a) c else M a),5,.flat,true⟩))) w ⟨0,by omega,rfl,rfl,rfl,rfl,⟨?_⟩⟩ ?_
 ·have:aY w (fun a=>if a < 0 then aQ (M a) c else M a)=aY w M:=qP fun j _=>by rw [if_neg (by omega)]
  rw [this,abD J]
 rintro q e m ⟨j,t,C,D,z,y,A⟩;replace t:=Hid.mk t;by_cases o:j < w
 ·have l:((j:Nat):Int) < ((w:Nat):Int):=by omega
  have w1:=bY (n:=j) (by omega);have u:m.at_ b=some ⟨aY w (fun a=>if a < j then aQ (M a) c else M a),5,.flat,true⟩:=by rw [A.out,aO,if_pos rfl]
  have i:=iO (w:=w) (fun a=>if a < j then aQ (M a) c else M a) o;simp only [aBH,if_false,bA] at i;have d:=yK (w:=w) (f:=fun a=>if a < j then aQ (M a) c else M a) (g:=fun a=>if a < j+1 then aQ (M a) c else M a) o fun a I=>by
   by_cases e:a=j
   ·subst e;rw [if_pos rfl]
   ·rw [if_neg e];by_cases E:a < j
    ·rw [if_pos E,if_pos (by omega)]
    ·rw [if_neg E,if_neg (by omega)]
  simp only [show j < j+1 by omega,if_true] at d;unfold cP at d;simp only [aAC,aAD,azn,bA] at d;have B:j+1≤(aY w fun a=>if a < j then aQ (M a) c else M a).length:=by rw [eK];omega
  have s:=F (M j);simp only [↓pre,zag,amC,bH,simprocAttr,bA,C,D,z,y,l,o,u,i]
  (first | refine aH (s) (by first | rfl | simp only [aA,aD, *]) ?_ | refine aG (s) (by first | rfl | simp only [aA,aD, *]) (by intro k;first | rfl | simp only [ *,zaa]) ?_);simp only [↓pre,zag,amC,bH,simprocAttr,aJ,bA,C,D,z,y,o,u,B,d,w1]
  refine ⟨q - 1,by have:=t.out;omega,j+1,by have:=t.out;omega,rfl,⟨?_⟩⟩;rw [A.out,yN]
 ·have l:¬ ((j:Nat):Int) < ((w:Nat):Int):=by omega
  have G:j=w:=by have:=t.out;omega
  subst G;have p:=A.out;have v:aY j (fun a=>if a < j then aQ (M a) c else M a)=aY j fun a=>aQ (M a) c:=qP fun x H=>by rw [if_pos H]
  rw [v] at p;subst p;simp only [↓pre,zad,simprocAttr,bA,z,y,l]
theorem anN (m0:aF) (b A w:Nat) (f P:Bool) (M d:Nat→UInt8) (c:UInt8) (U:w≤32) (G:b≠A) (T:m0.at_ b=some ⟨aY w M,5,.flat,true⟩) (I:m0.at_ A=some ⟨aY w d,5,.flat,true⟩):fH ayS 344 [.sl b 0 w w f,bA c,.sl A 0 w w P] m0 fun r m'=>r = .tup []∧m'=m0.put b (some ⟨aY w (fun j=>M j ^^^ aQ c (d j)),5,.flat,true⟩):=by
 have O:=ahX c;have N:=ahT;simp only [bA] at O N;refine bI Tryz.func344 aai (h:=?_);unfold Tryz.f344;simp only [↓pre,za,aai,kS,simprocAttr,bne,bA];rw [bS];refine bU (fun q e m=>∃ j,q+j=w∧e 0 = .sl b 0 w w f∧e 1=bA c∧e 2 = .sl A 0 w w P∧e 8=aC (w:Nat)∧e 9=aC (j:Nat)∧Hid (m=m0.put b (some ⟨aY w (fun a=>if a < j then M a ^^^ aQ c (d a) else M a),5,.flat,true⟩))) w ⟨0,by omega,rfl,rfl,rfl,rfl,rfl,⟨?_⟩⟩ ?_
 ·have:aY w (fun a=>if a < 0 then M a ^^^ aQ c (d a) else M a)=aY w M:=qP fun j _=>by rw [if_neg (by omega)]
  rw [this,abD T]
 rintro q e m ⟨j,B,K,L,z,H,F,D⟩;replace B:=Hid.mk B;by_cases o:j < w
 ·have s:((j:Nat):Int) < ((w:Nat):Int):=by omega
  have w1:=bY (n:=j) (by omega);have C:m.at_ b=some ⟨aY w (fun a=>if a < j then M a ^^^ aQ c (d a) else M a),5,.flat,true⟩:=by rw [D.out,aO,if_pos rfl]
  have u:m.at_ A=some ⟨aY w d,5,.flat,true⟩:=by rw [D.out,aO,if_neg (fun e=>G e.symm)];exact I
  have p:=iO (w:=w) (fun a=>if a < j then M a ^^^ aQ c (d a) else M a) o;have l:=iO (w:=w) d o;simp only [aBH,if_false,bA] at p l;have i:=yK (w:=w) (f:=fun a=>if a < j then M a ^^^ aQ c (d a) else M a) (g:=fun a=>if a < j+1 then M a ^^^ aQ c (d a) else M a) o fun a S=>by
   by_cases e:a=j
   ·subst e;rw [if_pos rfl]
   ·rw [if_neg e];by_cases z:a < j
    ·rw [if_pos z,if_pos (by omega)]
    ·rw [if_neg z,if_neg (by omega)]
  simp only [show j < j+1 by omega,if_true] at i;unfold cP at i;simp only [aAC,aAD,azn,bA] at i;have J:j+1≤(aY w fun a=>if a < j then M a ^^^ aQ c (d a) else M a).length:=by rw [eK];omega
  have v:=O (d j);have y:=N (M j) (aQ c (d j));simp only [↓pre,zam,amD,aai,simprocAttr,bne,bA,K,L,z,H,F,s,o,C,u,p,l]
  (first | refine aH (v) (by first | rfl | simp only [aA,aD, *]) ?_ | refine aG (v) (by first | rfl | simp only [aA,aD, *]) (by intro k;first | rfl | simp only [ *,zaa]) ?_);simp only [↓pre,zah,aai,simprocAttr,bne];(first | refine aH (y) (by first | rfl | simp only [aA,aD, *]) ?_ | refine aG (y) (by first | rfl | simp only [aA,aD, *]) (by intro k;first | rfl | simp only [ *,zaa]) ?_);simp only [↓pre,zam,amD,aai,simprocAttr,bne,aJ,o,C,J,i]
  refine dE (by kernel_rfl) ?_;simp only [↓pre,zah,aai,simprocAttr,bne,bA,K,L,z,H,F,w1];refine ⟨q - 1,by have:=B.out;omega,j+1,by have:=B.out;omega,rfl,⟨?_⟩⟩;rw [D.out,yN]
 ·have s:¬ ((j:Nat):Int) < ((w:Nat):Int):=by omega
  have Q:j=w:=by have:=B.out;omega
  subst Q;have t:=D.out;have E:aY j (fun a=>if a < j then M a ^^^ aQ c (d a) else M a)=aY j fun a=>M a ^^^ aQ c (d a):=qP fun x R=>by rw [if_pos R]
  rw [E] at t;subst t;simp only [↓pre,zah,aai,simprocAttr,bne,bA,H,F,s]
theorem dF.swap {m:aF} {b n w:Nat} {r:Bool} {β:Nat→Nat} {M:Mx} (h:dF m b n w n r β M) {a k:Nat} (t:a < n) (s:k < n) {cells:List AV} (D:m.at_ b=some ⟨cells,52,.var,true⟩) :
 dF (m.put b (some ⟨cP (cP cells a [.sl (β k) 0 w w r]) k [.sl (β a) 0 w w r],52,.var,true⟩)) b n w n r (fun i=>if i=a then β k else if i=k then β a else β i) (eG M a k):=by
 obtain ⟨f,q,u,v⟩:=h.row;rw [D] at q;obtain rfl:cells=f:=by simpa using q
 have g:∀ (cs:List AV) (i:Nat) (x:AV),i < cs.length→(cP cs i [x]).length=cs.length:=fun cs i x hi=>by
  unfold cP;simp only [aAZ,aBP,List.length_drop,aAC,aAD];omega
 have l:∀ (cs:List AV) (i j:Nat) (x:AV),i < cs.length→(cP cs i [x])[j]? = if j=i then some x else cs[j]? := fun cs i j x hi=>by
  unfold cP;have p:(cs.take i).length=i:=by rw [aBP];omega
  by_cases e:j=i
  ·subst e;rw [if_pos rfl,azT,aze (by omega),p,ay9];rfl
  ·rw [if_neg e,azT];by_cases B:j < i
   ·rw [azd (by omega),aBQ B]
   ·rw [aze (by omega),p,aze (by simp;omega),aAs];congr 1;simp only [aAC,aAD];omega
 have E:=g cells a (.sl (β k) 0 w w r) (by omega);refine ⟨⟨_,by rw [aO,if_pos rfl],by rw [g _ _ _ (by omega)];omega,fun i hi => ?_⟩,h.lt,fun i hi => ?_,fun i j hi z e => ?_⟩
 ·rw [l _ _ _ _ (by omega),l _ _ _ _ (by omega)];by_cases d:i=k
  ·rw [if_pos d];by_cases c:i=a
   ·rw [if_pos c,←d,c]
   ·rw [if_neg c,if_pos d]
  ·rw [if_neg d];by_cases c:i=a
   ·rw [if_pos c,if_pos c]
   ·rw [if_neg c,if_neg c,if_neg d];exact v i hi
 ·unfold eG;have o:=fun x (A:x < n)=>h.ne A
  by_cases d:i=a
  ·simp only [if_pos d];exact ⟨(h.own k s).1,by rw [aO,if_neg (o k s)];exact (h.own k s).2⟩
  ·by_cases c:i=k
   ·simp only [if_neg d,if_pos c];exact ⟨(h.own a t).1,by rw [aO,if_neg (o a t)];exact (h.own a t).2⟩
   ·simp only [if_neg d,if_neg c];exact ⟨(h.own i hi).1,by rw [aO,if_neg (o i hi)];exact (h.own i hi).2⟩
 ·have y:∀ i,(if i=a then β k else if i=k then β a else β i)=β (if i=a then k else if i=k then a else i):=fun i=>by split;rfl;split <;> rfl
  simp only [y] at e;have u:∀ i,i < n→(if i=a then k else if i=k then a else i) < n:=fun i hi=>by split;omega;split <;> omega
  have C:=h.inj _ _ (u i hi) (u j z) e
  revert C
  split <;> split <;> (try split) <;> (try split) <;> omega
theorem dF.put_other {m:aF} {b n w t:Nat} {a:Bool} {β:Nat→Nat} {M:Mx} (h:dF m b n w t a β M) {x:Nat} {y:Option eR} (f:b≠x) (e:∀ i,i < t→β i≠x):dF (m.put x y) b n w t a β M :=
 h.keep (ay7 _) fun j k c _ d=>by
  rw [aO,if_neg]
  ·exact c
  ·rintro rfl;rcases d with rfl | ⟨i,hi,rfl⟩
   ·exact f rfl
   ·exact e i hi rfl
structure uM (m:aF) (b1 b2 N:Nat) (f1 f2:Bool) (β γ:Nat→Nat) (M B:Mx):Prop where
 one:dF m b1 N N N f1 β M
 two:dF m b2 N N N f2 γ B
 ne:b1≠b2
 rows:∀ i j,i < N→j < N→β i≠γ j
theorem uM.cross {m:aF} {a b N:Nat} {d c:Bool} {β γ:Nat→Nat} {M B:Mx} (h:uM m a b N d c β γ M B) {i:Nat} (hi:i < N):β i≠b∧γ i≠a:=by
 obtain ⟨f,r1,_⟩:=h.one.row;obtain ⟨g,r2,_⟩:=h.two.row;constructor
 ·intro e;have:=(h.one.own i hi).2;rw [e,r2] at this;simp at this
 ·intro e;have:=(h.two.own i hi).2;rw [e,r1] at this;simp at this
def lL:Nat→Bool:=fun d=>d != 45 && d != 49 && d != 59 && d != 63 && d != 111 && d != 116 && d != 121 && d != 126 && d != 117 && d != 127
theorem auQ (m0:aF) (P I N:Nat) (g1 g2 f1 f2:Bool) (β γ:Nat→Nat) (M B:Mx) (hN:1≤N) (E:N≤32) (h:uM m0 P I N f1 f2 β γ M B):fH ayS 326 [.sl P 0 N N g1,.sl I 0 N N g2] m0 fun r m'=>∃ β' γ',r=aC ((gsol N M B N).n:Nat)∧uM m' P I N f1 f2 β' γ' (gsol N M B N).m (gsol N M B N).b:=by
 have hI:=anF;simp only [bA] at hI;obtain ⟨k6,m3,p3,i1⟩:=h.one.row;have l2:=i1 0 (by omega);have l4:0 < N:=by omega
 replace hN:=Hid.mk hN;replace E:=Hid.mk E;refine bI Tryz.func326 lL (h:=?_);unfold Tryz.f326;simp only [↓pre,zam,qH,lL,kS,simprocAttr,bne,l4,m3,l2];rw [bS];refine bU (fun q e m=>∃ j β γ,q+j=N∧e 0 = .sl P 0 N N g1∧e 1 = .sl I 0 N N g2∧e 5=aC ((gsol N M B j).n:Nat)∧e 15=aC (N:Nat)∧e 16=aC (j:Nat)∧Hid (uM m P I N f1 f2 β γ (gsol N M B j).m (gsol N M B j).b)) N ⟨0,β,γ,by omega,rfl,rfl,rfl,rfl,rfl,⟨h⟩⟩ ?_;rintro q e m ⟨j,β,γ,hq,J,V,D,p,t,U⟩;replace hq:=Hid.mk hq;have y:gsol N M B (j+1)=sX N j (gsol N M B j):=rfl;have c3:=ahP (N:=N) M B j;generalize f3:gsol N M B j=s at *
 replace f3:=Hid.mk f3;by_cases H:j < N
 ·have c0:((j:Nat):Int) < ((N:Nat):Int):=by omega
  have w1:=bY (n:=j) (by have:=E.out;omega);replace c3:=Hid.mk c3;simp only [↓pre,zah,lL,simprocAttr,bne,D,p,t,c0];rw [bS];refine x5 (fun e m'=>e 0 = .sl P 0 N N g1∧e 1 = .sl I 0 N N g2∧e 5=aC (s.n:Nat)∧e 6=aC (j:Nat)∧e 7=aC (dW s.m j (N - s.n) s.n:Nat)∧e 15=aC (N:Nat)∧e 16=aC (j:Nat)∧m'=m) (fun e m' hR => ?_) ?_
  ·obtain ⟨J,V,D,e6,e7,p,t,rfl⟩:=hR;have h7:=yJ s.m j (N - s.n) s.n;by_cases hp:dW s.m j (N - s.n) s.n=N
   ·have k1:sX N j s=s:=by unfold sX;simp only [hp,ay7,if_true]
    rw [hp] at e7;simp only [↓pre,za,lL,kS,simprocAttr,bne,J,V,D,e7,p,t,w1];refine ⟨q - 1,by have:=hq.out;omega,j+1,β,γ,by have:=hq.out;omega,by rw [y,k1],rfl, ?_⟩;rw [y,k1];exact U
   ·have K:dW s.m j (N - s.n) s.n < N:=by have:=c3.out;omega
    have e2:=ac4 s.m j (N - s.n) s.n (by have:=c3.out;omega);have c8:sX N j s=⟨s.n+1,fP (mT (eG s.m (dW s.m j (N - s.n) s.n) s.n) s.n (cN (eG s.m (dW s.m j (N - s.n) s.n) s.n s.n j))) s.n (fun i=>mT (eG s.m (dW s.m j (N - s.n) s.n) s.n) s.n (cN (eG s.m (dW s.m j (N - s.n) s.n) s.n s.n j)) i j),fP (mT (eG s.b (dW s.m j (N - s.n) s.n) s.n) s.n (cN (eG s.m (dW s.m j (N - s.n) s.n) s.n s.n j))) s.n (fun i=>mT (eG s.m (dW s.m j (N - s.n) s.n) s.n) s.n (cN (eG s.m (dW s.m j (N - s.n) s.n) s.n s.n j)) i j)⟩:=by unfold sX;simp only [if_neg (show ¬ N≤dW s.m j (N - s.n) s.n by omega)]
    rw [c8] at y;clear c8;obtain ⟨n,M1,B1⟩:=s;simp only at *
    generalize dW M1 j (N - n) n=a at *
    have d:n < N:=by omega
    have l1:¬ ((a:Nat):Int)=((N:Nat):Int):=by omega
    replace y:=Hid.mk y;replace h7:=Hid.mk h7;replace e2:=Hid.mk e2;obtain ⟨cells,Q,n2,L⟩:=U.out.one.row;obtain ⟨A,b3,q0,a2⟩:=U.out.two.row;have c7:=L a K;have n7:=L n d;have g6:=a2 a K;have i2:=a2 n d;have c1:=U.out.ne;have f7:¬ I=P:=fun h=>c1 h.symm
    have b0:=U.out.one.swap K d Q;have b8:=U.out.two.swap K d b3;replace L:=Hid.mk L;replace a2:=Hid.mk a2;replace b0:=Hid.mk b0;replace b8:=Hid.mk b8;have f8:a+1≤cells.length:=by omega
    have k2:a+1≤A.length:=by omega
    have f6:n+1≤(cells.take a++[AV.sl (β n) 0 N N f1]++cells.drop (a+1)).length:=by simp;omega
    have h1:n+1≤(A.take a++[AV.sl (γ n) 0 N N f2]++A.drop (a+1)).length:=by simp;omega
    simp only [↓pre,zam,qH,lL,kS,simprocAttr,bne,aJ,J,D,e7,l1,K,d,Q,c7,n7,f8];refine dE (by kernel_rfl) ?_;simp only [↓pre,zam,qH,lL,simprocAttr,bne,aJ,d,f6];refine dE (by kernel_rfl) ?_;simp only [↓pre,zam,qH,lL,yN,simprocAttr,bne,aJ,V,D,e7,K,d,b3,f7,g6,i2,k2];refine dE (by kernel_rfl) ?_;simp only [↓pre,zam,qH,lL,yN,simprocAttr,bne,aJ,d,h1];refine dE (by kernel_rfl) ?_;have F:uM ((m'.put P (some ⟨cP (cP cells a [.sl (β n) 0 N N f1]) n [.sl (β a) 0 N N f1],52,.var,true⟩)).put I (some ⟨cP (cP A a [.sl (γ n) 0 N N f2]) n [.sl (γ a) 0 N N f2],52,.var,true⟩)) P I N f1 f2 (fun i=>if i=a then β n else if i=n then β a else β i) (fun i=>if i=a then γ n else if i=n then γ a else γ i) (eG M1 a n) (eG B1 a n):=by
     refine ⟨b0.out.put_other c1 fun i hi => ?_, ?_,c1,fun i j hi hj => ?_⟩
     ·split
      ·exact (U.out.cross d).1
      ·split
       ·exact (U.out.cross K).1
       ·exact (U.out.cross hi).1
     ·refine b8.out.keep (ay7 _) fun j k hj _ hc => ?_
      rw [aO] at hj ⊢;by_cases e9:j=I
      ·rw [if_pos e9] at hj ⊢;exact hj
      ·rw [if_neg e9] at hj ⊢;rw [aO,if_neg]
       ·exact hj
       ·rintro rfl;rcases hc with h9 | ⟨i,hi,h9⟩
        ·exact e9 h9
        ·split at h9
         ·exact (U.out.cross d).2 h9.symm
         ·split at h9
          ·exact (U.out.cross K).2 h9.symm
          ·exact (U.out.cross hi).2 h9.symm
     ·repeat' split
      all_goals exact U.out.rows _ _ (by assumption) (by assumption)
    unfold cP at F;simp only [aAC,aAD,azn] at F;generalize q2:(fun i=>if i=a then β n else if i=n then β a else β i)=C at F;generalize q4:(fun i=>if i=a then γ n else if i=n then γ a else γ i)=S at F;generalize j1:aF.put (aF.put m' P _) I _=m1 at F;clear j1;have O:eG M1 a n n j≠0:=by
     have:=e2.out;unfold eG;by_cases e9:n=a
     ·rw [if_pos e9];rw [←e9] at this;exact this
     ·rw [if_neg e9,if_pos rfl];exact this
    generalize q5:eG M1 a n=M2 at F y O;generalize q1:eG B1 a n=B2 at F y;have c5:=hI (M2 n j);rw [if_neg O,if_neg O] at c5;generalize hc:cN (M2 n j)=c at c5 y;replace O:=Hid.mk O;obtain ⟨k4,b9,p5,a9⟩:=F.one.row;obtain ⟨k8,d4,o1,a5⟩:=F.two.row;have h8:=a9 n d;have n6:=a5 n d;obtain ⟨o3,a7⟩:=F.one.own n d;obtain ⟨p0,f5⟩:=F.two.own n d;have x:=iO (w:=N) (M2 n) H;simp only [bA] at x;have d3:=F.cross d;have h0:=F.one.ne d;have o0:=F.two.ne d;have g0:=F.rows n n d d;have p2:¬ P=C n:=fun h=>h0 h.symm
    have i3:¬ I=C n:=fun h=>d3.1 h.symm
    have n5:¬ S n=C n:=fun h=>g0 h.symm
    have h3:=anM m1 (C n) N f1 (M2 n) c (by have:=E.out;omega) a7;have k0:=anM (m1.put (C n) (some ⟨aY N (fun j=>aQ (M2 n j) c),5,.flat,true⟩)) (S n) N f2 (B2 n) c (by have:=E.out;omega) (by rw [aO,if_neg n5];exact f5);have Z:uM ((m1.put (C n) (some ⟨aY N (fun j=>aQ (M2 n j) c),5,.flat,true⟩)).put (S n) (some ⟨aY N (fun j=>aQ (B2 n j) c),5,.flat,true⟩)) P I N f1 f2 C S (mT M2 n c) (mT B2 n c):=by
     refine ⟨((F.one.put_row d _).put_other (fun h=>d3.2 h.symm) fun i hi=>F.rows i n hi d).congr fun i hi j hj=>by simp only [mT];split <;> rfl, ?_,F.ne,F.rows⟩;refine dF.congr (dF.put_row (F.two.put_other (fun h=>d3.1 h.symm) fun i hi=>fun h=>F.rows n i d hi h.symm) d _) fun i hi j hj=>by simp only [mT];split <;> rfl
    replace a9:=Hid.mk a9;replace a5:=Hid.mk a5;simp only [bA] at h3 k0;simp only [↓pre,zam,qH,lL,simprocAttr,bne,J,D,e6,b9,d,h8,a7,H,x]
    (first | refine aH (c5) (by first | rfl | simp only [aA,aD, *]) ?_ | refine aG (c5) (by first | rfl | simp only [aA,aD, *]) (by intro k;first | rfl | simp only [ *,zaa]) ?_);simp only [↓pre,zam,qH,lL,simprocAttr,bne,J,D,b9,d,h8]
    refine rC h3 ?_;simp only [↓pre,zam,qH,lL,simprocAttr,bne,V,D,d4,d,n6,i3];refine rC k0 ?_;generalize h4:aF.put (aF.put m1 (C n) _) (S n) _=m2 at Z;clear h4;simp only [↓pre,za,lL,kS,simprocAttr,bne,J];rw [bS];generalize r0:mT M2 n c=o at Z y;generalize q3:mT B2 n c=B3 at Z y;refine bU (fun q' e m'=>∃ i,q'+i=N∧e 0 = .sl P 0 N N g1∧e 1 = .sl I 0 N N g2∧e 5=aC (n:Nat)∧e 6=aC (j:Nat)∧e 15=aC (N:Nat)∧e 16=aC (j:Nat)∧e 90=aC (N:Nat)∧e 91=aC (i:Nat)∧Hid (uM m' P I N f1 f2 C S (fun f q=>if f < i then fP o n (fun i=>o i j) f q else o f q) (fun f q=>if f < i then fP B3 n (fun i=>o i j) f q else B3 f q))) N ⟨0,by omega,J,V,D,e6,p,t,rfl,rfl,⟨?_⟩⟩ ?_
    ·refine ⟨Z.one.congr fun i hi j hj => ?_,Z.two.congr fun i hi j hj => ?_,Z.ne,Z.rows⟩
     ·rw [if_neg (by omega)]
     ·rw [if_neg (by omega)]
    rintro q' e m' ⟨i,u,J,V,D,e6,p,t,b5,c2,g⟩;replace u:=Hid.mk u;by_cases l:i < N
    ·have R:((i:Nat):Int) < ((N:Nat):Int):=by omega
     have wi:=bY (n:=i) (by have:=E.out;omega);obtain ⟨k7,W,p4,a4⟩:=g.out.one.row;obtain ⟨k5,e3,o2,a1⟩:=g.out.two.row;have b7:=a4 i l;have h2:=a4 n d;have i0:=a1 i l;have g3:=a1 n d;obtain ⟨p8,T⟩:=g.out.one.own i l;obtain ⟨o4,d0⟩:=g.out.two.own i l;obtain ⟨n8,b4⟩:=g.out.one.own n d;obtain ⟨p1,a6⟩:=g.out.two.own n d;have z:=iO (w:=N) (fun q=>if i < i then fP o n (fun i=>o i j) i q else o i q) H;simp only [aBH,if_false,bA] at z T d0;have hx:=g.out.cross l;have q7:=g.out.cross d;have n3:∀ (X:Mx) (k:Nat→UInt8),(fun q=>if n < i then fP X n k n q else X n q)=X n:=fun X k=>by
      funext q;split
      ·unfold fP;rw [if_pos rfl]
      ·rfl
     rw [n3] at b4 a6;replace a4:=Hid.mk a4;replace a1:=Hid.mk a1;have v:(i=n∨o i j=0)→uM m' P I N f1 f2 C S (fun f q=>if f < i+1 then fP o n (fun i=>o i j) f q else o f q) (fun f q=>if f < i+1 then fP B3 n (fun i=>o i j) f q else B3 f q):=by
      intro k9;have hk:∀ (X:Mx) (f q:Nat),(if f < i then fP X n (fun i=>o i j) f q else X f q)=(if f < i+1 then fP X n (fun i=>o i j) f q else X f q):=fun X f q=>by
       by_cases e9:f < i
       ·rw [if_pos e9,if_pos (by omega)]
       ·rw [if_neg e9];by_cases e8:f=i
        ·subst e8;rw [if_pos (by omega)];unfold fP;rcases k9 with h9 | h9
         ·rw [if_pos h9]
         ·split
          ·rfl
          ·simp only [h9];rw [uK,sW]
        ·rw [if_neg (by omega)]
      exact ⟨g.out.one.congr fun f Y q hq=>hk o f q,g.out.two.congr fun f Y q hq=>hk B3 f q,g.out.ne,g.out.rows⟩
     replace v:=Hid.mk v;by_cases c4:i=n
     ·subst c4;simp only [↓pre,zam,qH,lL,simprocAttr,bne,J,V,D,e6,p,t,b5,c2,R,W,l,b7,T,H,z,wi];exact ⟨q' - 1,by have:=u.out;omega,i+1,by have:=u.out;omega,rfl,⟨v.out (.inl rfl)⟩⟩
     ·have d1:¬ ((i:Nat):Int)=((n:Nat):Int):=by omega
      by_cases hz:o i j=0
      ·have a0:(((o i j).toNat:Nat):Int)=0:=by rw [hz];rfl
       simp only [↓pre,zam,qH,lL,simprocAttr,bne,J,V,D,e6,p,t,b5,c2,R,W,l,b7,T,H,z,d1,a0,wi];exact ⟨q' - 1,by have:=u.out;omega,i+1,by have:=u.out;omega,rfl,⟨v.out (.inr hz)⟩⟩
      ·have a0:¬ (((o i j).toNat:Nat):Int)=0:=by
        intro hh;exact hz (aBc.1 (by simp;omega))
       have j0:¬ C i=C n:=fun h=>c4 (g.out.one.inj i n l d h)
       have k3:¬ S i=S n:=fun h=>c4 (g.out.two.inj i n l d h)
       have g5:=anN m' (C i) (C n) N f1 f1 (o i) (o n) (o i j) (by have:=E.out;omega) j0 T b4;have l0:¬ S i=C i:=fun h=>g.out.rows i i l l h.symm
       have n4:¬ S n=C i:=fun h=>g.out.rows i n l d h.symm
       have n0:¬ I=C i:=fun h=>hx.1 h.symm
       have h6:=anN (m'.put (C i) (some ⟨aY N (fun q=>o i q ^^^ aQ (o i j) (o n q)),5,.flat,true⟩)) (S i) (S n) N f2 f2 (B3 i) (B3 n) (o i j) (by have:=E.out;omega) k3 (by rw [aO,if_neg l0];exact d0) (by rw [aO,if_neg n4];exact a6);have h5:uM ((m'.put (C i) (some ⟨aY N (fun q=>o i q ^^^ aQ (o i j) (o n q)),5,.flat,true⟩)).put (S i) (some ⟨aY N (fun q=>B3 i q ^^^ aQ (o i j) (B3 n q)),5,.flat,true⟩)) P I N f1 f2 C S (fun f q=>if f < i+1 then fP o n (fun i=>o i j) f q else o f q) (fun f q=>if f < i+1 then fP B3 n (fun i=>o i j) f q else B3 f q):=by
        have hk:∀ (X:Mx) (f q:Nat),(if f=i then (fun q=>X i q ^^^ aQ (o i j) (X n q)) else fun q=>if f < i then fP X n (fun i=>o i j) f q else X f q) q=(if f < i+1 then fP X n (fun i=>o i j) f q else X f q):=fun X f q=>by
         by_cases e8:f=i
         ·subst e8;rw [if_pos rfl,if_pos (by omega)];unfold fP;rw [if_neg c4]
         ·rw [if_neg e8];by_cases e9:f < i
          ·simp only [if_pos e9,if_pos (show f < i+1 by omega)]
          ·simp only [if_neg e9,if_neg (show ¬ f < i+1 by omega)]
        refine ⟨((g.out.one.put_row l _).put_other (fun h=>hx.2 h.symm) fun f Y=>g.out.rows f i Y l).congr fun f Y q hq=>hk o f q, ?_,g.out.ne,g.out.rows⟩;exact (dF.put_row (g.out.two.put_other (fun h=>hx.1 h.symm) fun f Y=>fun h=>g.out.rows i f l Y h.symm) l _).congr fun f Y q hq=>hk B3 f q
       replace v:=Hid.mk v;simp only [bA] at g5 h6;simp only [↓pre,zam,qH,lL,simprocAttr,bne,J,D,e6,b5,c2,R,W,l,b7,h2,d,T,H,z,d1,a0];refine rC g5 ?_;refine dE (by kernel_rfl) ?_;simp only [↓pre,zam,qH,lL,simprocAttr,bne,V,D,e3,n0,l,i0,g3,d];refine rC h6 ?_;refine dE (by kernel_rfl) ?_;generalize g4:aF.put (aF.put m' (C i) _) (S i) _=m5 at h5;clear g4;simp only [↓pre,zah,lL,simprocAttr,bne,J,V,D,e6,p,t,b5,c2,wi];exact ⟨q' - 1,by have:=u.out;omega,i+1,by have:=u.out;omega,rfl,⟨h5⟩⟩
    ·have R:¬ ((i:Nat):Int) < ((N:Nat):Int):=by omega
     have m4:i=N:=by have:=u.out;omega
     subst m4;have wn:=bY (n:=n) (by have:=E.out;omega);simp only [↓pre,zah,lL,simprocAttr,bne,J,V,D,p,t,b5,c2,R,wn,w1];refine ⟨q - 1,by have:=hq.out;omega,j+1,C,S,by have:=hq.out;omega,by rw [y.out],rfl,⟨?_⟩⟩;rw [y.out];refine ⟨g.out.one.congr fun f hi j' hj => ?_,g.out.two.congr fun f hi j' hj => ?_,g.out.ne,g.out.rows⟩
     ·simp only [if_pos hi]
     ·simp only [if_pos hi]
  ·refine bU (fun q' e m'=>∃ a,q'+a=N∧s.n≤a∧e 0 = .sl P 0 N N g1∧e 1 = .sl I 0 N N g2∧e 5=aC (s.n:Nat)∧e 6=aC (j:Nat)∧e 7=aC (a:Nat)∧e 15=aC (N:Nat)∧e 16=aC (j:Nat)∧Hid (dW s.m j (N - s.n) s.n=dW s.m j (N - a) a)∧m'=m) (N - s.n) ⟨s.n,by have:=c3.out;omega,ay7 _,J,V,D,rfl,rfl,p,t,⟨rfl⟩,rfl⟩ ?_;rintro q' e m' ⟨a,u,f4,J,V,D,e6,e7,p,t,f0,rfl⟩;replace u:=Hid.mk u;replace f4:=Hid.mk f4;by_cases c6:a < N
   ·have a3:((a:Nat):Int) < ((N:Nat):Int):=by omega
    obtain ⟨cells,Q,n2,L⟩:=U.out.one.row;have c7:=L a c6;obtain ⟨q6,d2⟩:=U.out.one.own a c6;have x:=iO (w:=N) (s.m a) H;simp only [bA] at x;have wa:=bY (n:=a) (by have:=E.out;omega);have e4:N - a=(N - (a+1))+1:=by omega
    have G:dW s.m j (N - a) a=if s.m a j≠0 then a else dW s.m j (N - (a+1)) (a+1):=by rw [e4];rfl
    replace L:=Hid.mk L;replace e4:=Hid.mk e4;by_cases hz:s.m a j=0
    ·have a0:(((s.m a j).toNat:Nat):Int)=0:=by rw [hz];rfl
     rw [if_neg (by simp [hz])] at G;replace G:=Hid.mk G;simp only [↓pre,zam,qH,lL,kS,simprocAttr,bne,J,V,D,e6,e7,p,t,a3,c6,Q,c7,H,d2,x,a0,wa];exact ⟨q' - 1,by have:=u.out;omega,a+1,by have:=u.out;omega,by have:=f4.out;omega,rfl,⟨by rw [f0.out,G.out]⟩⟩
    ·have a0:¬ (((s.m a j).toNat:Nat):Int)=0:=by
      intro hh;exact hz (aBc.1 (by simp;omega))
     rw [if_pos hz] at G;replace G:=Hid.mk G;simp only [↓pre,zam,qH,lL,kS,simprocAttr,bne,J,V,D,e6,e7,p,t,a3,c6,Q,c7,H,d2,x,a0];rw [f0.out,G.out]
   ·have a3:¬ ((a:Nat):Int) < ((N:Nat):Int):=by omega
    have n1:a=N:=by have:=u.out;omega
    subst n1;have G:dW s.m j (a - a) a=a:=by rw [ay9];rfl
    simp only [↓pre,za,lL,kS,simprocAttr,bne,J,V,D,e6,e7,p,t,a3];rw [f0.out,G]
 ·have c0:¬ ((j:Nat):Int) < ((N:Nat):Int):=by omega
  have l3:j=N:=by have:=hq.out;omega
  subst l3;simp only [↓pre,zah,lL,simprocAttr,bne,D,p,t,c0];have:=f3.out;subst this;exact ⟨β,γ,rfl,U.out⟩
theorem auR (v:AV) (n:Nat) (M:Mx) (cells:List AV) (c:sZ v n n M cells) (d:1≤n) (b:n≤32) (L:ae7 n M):aR ayS 291 [v] ⟨.tup [.tree n n (mV true n n (mD n M)) true,aC 0],[]⟩:=by
 refine d6 ?_;have Y:=c.rd.plain;have A:n≤cells.length:=by
  obtain ⟨a,x,h,_⟩:=c.at_ (n - 1) (by omega);have:=(ay5.1 h).1;omega
 have g:=auG v n n M cells c d b d b;have f:=fun m=>anL m n d b
 have t:=fun m=>auP m v n n M cells c d b d b A
 have e:=fun m G H l q N J β γ h=>auQ m G H n l q N J β γ M jO d b h
 have s:=(auq L).1;rw [s] at e;obtain ⟨X,Q,w,y⟩:=c.at_ 0 (by omega);have p:0 < n:=by omega
 have B:¬ ((n:Nat):Int) < ((n:Nat):Int):=by omega
 have O:aF.empty.next=0:=rfl;refine bI Tryz.func291 aB (h:=?_);unfold Tryz.f291;simp only [↓pre,zab,simprocAttr]
 (first | refine aH (g) (by first | rfl | simp only [aD, *]) ?_ | refine aG (g) (by first | rfl | simp only [aA,aD, *]) (by intro k;first | rfl | simp only [ *,zaa]) ?_);simp only [↓pre,zag,amw,simprocAttr,c.rd.len',c.rd.addr',p,w,y.len']
 refine nR (f _) ?_;rintro r E ⟨β,rfl,z,Z,T,R⟩;simp only [↓pre,zab,simprocAttr];refine nR (t E) ?_;rintro r D ⟨γ,rfl,l,q,F,U⟩;have C:=z.lt;have K:uM D E.next aF.empty.next n false true γ β M jO:=by
  refine ⟨l,z.keep (Nat.le_of_lt (aza (Nat.lt_succ_self _) (by have:=l.lt;omega))) fun j k u o _=>F j k u o,by omega,fun i j hi u => ?_⟩;have V:=q i hi;have W:=(z.own j u).1;omega
 simp only [↓pre,zab,simprocAttr];refine nR (e D _ _ _ _ _ _ _ _ K) ?_;rintro r S ⟨P,γ',rfl,I⟩;simp only [↓pre,zag,amw,simprocAttr,c.rd.len',B];exact ⟨1,by rw [j8,dM,I.two.fzT,aAh,dM,gB,i8];rfl⟩
theorem auS (v:AV) (L:List (List UInt8)) (cells:List AV) (n:Nat) (g:fQ v L cells) (l:∀ b∈L,b.length=n) (F:n≤65536) (G:L.length≤65536):aR ayS 301 [v] ⟨aV true,[]⟩:=by
 have I:=g.rd.plain;have A:¬ (65536:Int) < ((n:Nat):Int):=by omega
 replace l:=Hid.mk l;refine aX Tryz.func301 aB (h:=?_);unfold Tryz.f301;simp only [↓pre,zag,amx,simprocAttr,g.rd.len'];rw [bS];refine bU (fun q e m=>∃ i,q+i=L.length∧e 0=v∧e 5=v∧e 6=aC (L.length:Nat)∧e 7=aC (i:Nat)) L.length ⟨0,by omega,rfl,rfl,rfl,rfl⟩ ?_;rintro q e m ⟨i,k,y,w,s,r⟩;replace k:=Hid.mk k;by_cases f:i < L.length
 ·have c:((i:Nat):Int) < ((L.length:Nat):Int):=by omega
  have w1:=bY (n:=i) (by omega);obtain ⟨b,o⟩:∃ b,L[i]? = some b:=⟨_,azj f⟩
  obtain ⟨t,d⟩:∃ b,L[0]? = some b:=⟨_,azj (by omega)⟩
  have D:0 < L.length:=by omega
  obtain ⟨a,x,C,u⟩:=g.at_ i b o;obtain ⟨H,E,p,j⟩:=g.at_ 0 t d;have z:=l.out b (az5 o);have B:=l.out t (az5 d);rw [z] at u;rw [B] at j;replace o:=Hid.mk o;replace d:=Hid.mk d;simp only [↓pre,zag,amx,simprocAttr,y,w,s,r,g.rd.addr',f,c,C,u.len',D,p,j.len',A,w1];exact ⟨q - 1,by have:=k.out;omega,i+1,by have:=k.out;omega,rfl⟩
 ·have c:¬ ((i:Nat):Int) < ((L.length:Nat):Int):=by omega
  simp only [↓pre,zad,simprocAttr,s,r,c]
theorem ah2 {m:aF} {x:eR} {y:Option eR} {b:eR} (h:y=some b):(m.push x).put m.next y=m.push b:=by
 subst h;obtain ⟨n,a,mm⟩:=m;unfold aF.put aF.push;congr 1;funext j;simp only;split <;> rfl
def wU:Nat→Bool:=fun d=>d != 6 && d != 29 && d != 35
theorem auT:gN ayS 338=some ((aAm 256).map fun _ => .int .u8 0):=by kernel_rfl
theorem auU (m0:aF) (b n:Nat) (f:Bool) (A B:Nat→UInt8) (c:UInt8) (N:AV) (x:List AV) (Y:aZ N n (aY n B++x)) (hn:n≤65536) (hb:m0.at_ b=some ⟨aY n A,5,.flat,true⟩) (a0:b < m0.next):fH ayS 302 [.sl b 0 n n f,bA c,N] m0 fun r m'=>r = .tup []∧m'=(m0.push ⟨aY 256 (fun i=>aQ c (azN i)),338,.var,true⟩).put b (some ⟨aY n (fun j=>A j ^^^ aQ c (B j)),5,.flat,true⟩):=by
 have Z:=ahX c;have X:=ahT;have hz:=auT;have hp:=Y.plain;simp only [bA] at Z X;refine bI Tryz.func302 wU (h:=?_);unfold Tryz.f302;simp only [↓pre,zah,wU,aM,simprocAttr,bne,bA,hz];have V:List.map AV.val ((aAm 256).map fun _=>Value.int .u8 0)=aY 256 fun _=>0:=by
  unfold aY tab;rw [aBv,aBv];rfl
 rw [V];rw [bS];refine bU (fun q e m=>∃ i,q+i=256∧e 0 = .sl b 0 n n f∧e 1=bA c∧e 2=N∧e 6 = .ptr m0.next 0∧e 9=aC (i:Nat)∧m=m0.push ⟨aY 256 (fun j=>if j < i then aQ c (azN j) else 0),338,.var,true⟩) 256 ⟨0,by omega,rfl,rfl,rfl,rfl,rfl,rfl⟩ ?_;rintro q e m ⟨i,u,E,I,s,H,S,rfl⟩;replace u:=Hid.mk u;by_cases o:i < 256
 ·have l:((i:Nat):Int) < 256:=by omega
  have w1:=bY (n:=i) (by omega);have w2:=yL o;have M:=Z (azN i);have d:=yK (w:=256) (f:=fun j=>if j < i then aQ c (azN j) else 0) (g:=fun j=>if j < i+1 then aQ c (azN j) else 0) o fun j O=>by
   by_cases e:j=i
   ·subst e;rw [if_pos rfl]
   ·rw [if_neg e];by_cases s:j < i
    ·rw [if_pos s,if_pos (by omega)]
    ·rw [if_neg s,if_neg (by omega)]
  simp only [show i < i+1 by omega,if_true] at d;unfold cP at d;simp only [aAC,aAD,azn,bA] at d;have D:i+1≤(aY 256 fun j=>if j < i then aQ c (azN j) else 0).length:=by rw [eK];omega
  simp only [↓pre,zah,aeJ,wU,bE,simprocAttr,bne,bA,I,S,l,w2]
  (first | refine aH (M) (by first | rfl | simp only [aA,aD, *]) ?_ | refine aG (M) (by first | rfl | simp only [aA,aD, *]) (by intro k;first | rfl | simp only [ *,zaa]) ?_);simp only [↓pre,zam,aeJ,wU,simprocAttr,bne,aJ,bA,E,I,s,H,S,o,D,d,ah2 rfl,w1]
  exact ⟨q - 1,by have:=u.out;omega,i+1,by have:=u.out;omega,rfl,rfl⟩
 ·have l:¬ ((i:Nat):Int) < 256:=by omega
  have hi:i=256:=by have:=u.out;omega
  subst hi;have hT:aY 256 (fun j=>if j < 256 then aQ c (azN j) else 0)=aY 256 fun i=>aQ c (azN i):=qP fun j O=>by rw [if_pos O]
  rw [hT];generalize U:(aY 256 fun i=>aQ c (azN i))=T;have K:∀ z:UInt8,T[z.toNat]? = some (.val (.int .u8 (aQ c z).toNat)):=fun z=>by
   rw [←U,iO (w:=256) (fun i=>aQ c (azN i)) z.toNat_lt,UInt8.ofNat_toNat];rfl
  have W:∀ z:UInt8,z.toNat < 256:=fun z=>z.toNat_lt
  simp only [↓pre,za,wU,kS,simprocAttr,bne,bA,E,S];rw [bS];refine bU (fun q e m=>∃ j,q+j=n∧e 0 = .sl b 0 n n f∧e 1=bA c∧e 2=N∧e 6 = .ptr m0.next 0∧e 20=aC (n:Nat)∧e 21=aC (j:Nat)∧Hid (m=(m0.push ⟨T,338,.var,true⟩).put b (some ⟨aY n (fun a=>if a < j then A a ^^^ aQ c (B a) else A a),5,.flat,true⟩))) n ⟨0,by omega,E,I,s,H,rfl,rfl,⟨?_⟩⟩ ?_
  ·have:aY n (fun a=>if a < 0 then A a ^^^ aQ c (B a) else A a)=aY n A:=qP fun j _=>by rw [if_neg (by omega)]
   rw [this,abD];rw [aT,if_neg (by omega)];exact hb
  rintro q e m ⟨j,u,E,I,s,H,y,C,P⟩;replace u:=Hid.mk u;by_cases o:j < n
  ·have l:((j:Nat):Int) < ((n:Nat):Int):=by omega
   have w1:=bY (n:=j) (by omega);have L:m.at_ b=some ⟨aY n (fun a=>if a < j then A a ^^^ aQ c (B a) else A a),5,.flat,true⟩:=by rw [P.out,aO,if_pos rfl]
   have F:m.at_ m0.next=some ⟨T,338,.var,true⟩:=by rw [P.out,aO,if_neg (by omega),aT,if_pos rfl]
   have t:=iO (w:=n) (fun a=>if a < j then A a ^^^ aQ c (B a) else A a) o;have p:(aY n B++x)[j]? = some (bA (B j)):=by rw [azd (by rw [eK];omega)];exact iO B o
   simp only [aBH,if_false,bA] at t p;have d:=yK (w:=n) (f:=fun a=>if a < j then A a ^^^ aQ c (B a) else A a) (g:=fun a=>if a < j+1 then A a ^^^ aQ c (B a) else A a) o fun a a1=>by
    by_cases e:a=j
    ·subst e;rw [if_pos rfl]
    ·rw [if_neg e];by_cases s:a < j
     ·rw [if_pos s,if_pos (by omega)]
     ·rw [if_neg s,if_neg (by omega)]
   simp only [show j < j+1 by omega,if_true] at d;unfold cP at d;simp only [aAC,aAD,azn,bA] at d;have D:j+1≤(aY n fun a=>if a < j then A a ^^^ aQ c (B a) else A a).length:=by rw [eK];omega
   have G:=X (A j) (aQ c (B j));have Q:=K (B j);have J:=W (B j);simp only [↓pre,zam,aeJ,wU,simprocAttr,bne,bA,E,s,H,y,C,l,o,L,F,t,p,Y.addr',Q,J]
   (first | refine aH (G) (by first | rfl | simp only [aA,aD, *]) ?_ | refine aG (G) (by first | rfl | simp only [aA,aD, *]) (by intro k;first | rfl | simp only [ *,zaa]) ?_);simp only [↓pre,zam,aeJ,wU,simprocAttr,bne,aJ,o,L,D,d]
   refine dE (by kernel_rfl) ?_;simp only [↓pre,zah,wU,simprocAttr,bne,bA,E,I,s,H,y,C,w1];refine ⟨q - 1,by have:=u.out;omega,j+1,by have:=u.out;omega,rfl,⟨?_⟩⟩;rw [P.out,yN]
  ·have l:¬ ((j:Nat):Int) < ((n:Nat):Int):=by omega
   have O:j=n:=by have:=u.out;omega
   subst O;have v:=P.out;have R:aY j (fun a=>if a < j then A a ^^^ aQ c (B a) else A a)=aY j fun a=>A a ^^^ aQ c (B a):=qP fun x hx=>by rw [if_pos hx]
   rw [R] at v;subst v;simp only [↓pre,zah,wU,simprocAttr,bne,bA,y,C,l]
def pK (N:Nat) (c:Nat→UInt8) (M:Mx):Nat→UInt8:=fun p=>gJ N fun q=>aQ (c q) (M q p)
def abF:Nat→Bool:=fun d=>d != 45
theorem auV (C w:AV) (N n:Nat) (c:Nat→UInt8) (M:Mx) (x:List AV) (cells:List AV) (J:aZ C N (aY N c++x)) (f:sZ w N n M cells) (T:1≤N) (R:N≤16) (z:n≤65536):fH ayS 245 [C,w] aF.empty fun r m=>r = .tup [.sl 0 0 n n true,aC 0]∧m.at_ 0=some ⟨aY n (pK N c M),5,.flat,true⟩:=by
 have W:=f.rd.plain;have O:=J.plain;have p:((aAm N).map fun i=>tab n (M i)).length=N:=by simp
 have s:=auS w _ cells n f.rows (fun b S=>by
  obtain ⟨i,_,rfl⟩:=azm.1 S;exact pJ _ _) z (by rw [p];omega)
 have Q:¬ (16:Int) < ((N:Nat):Int):=by omega
 have P:¬ ((N:Nat):Int)=0:=by omega
 have t:0 < N:=by omega
 obtain ⟨V,U,F,G⟩:=f.at_ 0 t;have D:=fun m=>rN m (n:=n) z
 have I:aF.empty.next=0:=rfl;refine bI Tryz.func245 abF (h:=?_);unfold Tryz.f245;simp only [↓pre,za,ahg,abF,simprocAttr,bne,f.rd.len',J.len',Q]
 (first | refine aH (s) (by first | rfl | simp only [aD, *]) ?_ | refine aG (s) (by first | rfl | simp only [aA,aD, *]) (by intro k;first | rfl | simp only [ *,zaa]) ?_);simp only [↓pre,za,ahg,abF,simprocAttr,bne,f.rd.len',f.rd.addr',t,F,G.len',P,D,I]
 rw [bS];refine bU (fun q e m=>∃ i,q+i=N∧e 0=C∧e 1=w∧e 6 = .sl 0 0 n n true∧e 32=aC (N:Nat)∧e 33=aC (i:Nat)∧Hid (m.at_ 0=some ⟨aY n (pK i c M),5,.flat,true⟩∧0 < m.next)) N ⟨0,by omega,rfl,rfl,rfl,rfl,rfl,⟨rfl,by simp [bM]⟩⟩ ?_;rintro q e m ⟨i,v,K,L,B,l,o,H⟩;replace v:=Hid.mk v;by_cases j:i < N
 ·have d:((i:Nat):Int) < ((N:Nat):Int):=by omega
  have w1:=bY (n:=i) (by omega);obtain ⟨a,y,E,A⟩:=f.at_ i j;have u:(aY N c++x)[i]? = some (bA (c i)):=by rw [azd (by rw [eK];omega)];exact iO c j
  have g:=auU m 0 n true (pK i c M) (M i) (c i) a y A z H.out.1 H.out.2;simp only [bA] at g u;simp only [↓pre,za,ahg,abF,simprocAttr,bne,K,L,B,l,o,d,J.addr',f.rd.addr',j,E,u];refine rC g ?_;refine dE (by kernel_rfl) ?_;simp only [↓pre,za,abF,simprocAttr,bne,K,L,B,l,o,w1];exact ⟨q - 1,by have:=v.out;omega,i+1,by have:=v.out;omega,rfl,⟨rfl,Nat.succ_pos _⟩⟩
 ·have d:¬ ((i:Nat):Int) < ((N:Nat):Int):=by omega
  have hi:i=N:=by have:=v.out;omega
  subst hi;simp only [↓pre,zah,abF,simprocAttr,bne,B,l,o,d];exact H.out.1
theorem anO (b d:AV) (N n:Nat) (c:Nat→UInt8) (M:Mx) (x:List AV) (cells:List AV) (g:aZ b N (aY N c++x)) (i:sZ d N n M cells) (e:1≤N) (a:N≤16) (f:n≤65536):aR ayS 245 [b,d] ⟨.tup [.sl 0 0 n n true,aC 0],[(5,aY n (pK N c M))]⟩:=by
 refine alQ (sK (auV b d N n c M x cells g i e a f) ?_);rintro r m ⟨rfl,h⟩;have j:bP ayS 5 = .flat:=by kernel_rfl
 simp [jG,canon,gP,aC,h,j]
def uN (k r i:Int):Value := .agg #[.int .i64 k,.int .i64 r,.int .i64 i]
theorem auW (k r i a:Int):cF ayS (Op.equal 265 (uN k r i) (uN k r a))=some (decide (i=a)):=by
 refine alP (by kernel_rfl) (by kernel_rfl) ?_;have h:wB ayS #[.int .i64 k,.int .i64 r,.int .i64 i] #[.int .i64 k,.int .i64 r,.int .i64 a] (aaZ ayS 265)=if k=k then (if r=r then (if i=a then some true else some false) else some false) else some false:=by kernel_rfl
 rw [h,if_pos rfl,if_pos rfl];by_cases hi:i=a <;> simp [hi]
theorem anP (k r i:Int):acr ayS 265 (uN k r i)=true:=by kernel_rfl
theorem afb:xT ayS 206=some (265,aN):=by kernel_rfl
def uO (k r n:Nat):List (Value×AV):=(aAm n).map fun i=>(uN (k:Nat) (r:Nat) (i:Nat),.tree k k (aY k (fJ k i)) true)
theorem auX (k r n:Nat):uO k r (n+1)=uO k r n++[(uN (k:Nat) (r:Nat) (n:Nat),.tree k k (aY k (fJ k n)) true)]:=by
 unfold uO;rw [aAT,aBp];rfl
theorem anQ (k r:Nat) (i:Int) (a:Nat):∀ (n:Nat),tV ayS 265 (uN (k:Nat) (r:Nat) i) ((List.range' a n).map fun (i:Nat)=>(uN (k:Nat) (r:Nat) (i:Nat),(.tree k k (aY k (fJ k i)) true:AV)))=some (if (a:Int)≤i∧i < (a+n:Nat) then some (i.toNat - a) else none)
 | 0=>by rw [if_neg (by omega)];rfl
 | n+1=>by
  rw [List.range'_succ,aAo,tV,auW];by_cases h:i=(a:Nat)
  ·rw [decide_eq_true h,if_pos (by omega)];have:i.toNat - a=0:=by omega
   rw [this]
  ·rw [decide_eq_false h,anQ k r i (a+1) n];by_cases b:(a:Int)≤i∧i < (a+(n+1):Nat)
   ·rw [if_pos b,if_pos (by omega)];simp only [az3];congr 2;omega
   ·rw [if_neg b,if_neg (by omega)];rfl
 termination_by n=>n
theorem anR (k r:Nat) (i:Int) (n:Nat):tV ayS 265 (uN (k:Nat) (r:Nat) i) (uO k r n)=some (if 0≤i∧i < (n:Nat) then some i.toNat else none):=by
 have:=anQ k r i 0 n;unfold uO;rw [List.range_eq_range'];simpa using this
def pL (m:aF) (g k r n:Nat):Prop:=m.mm.maps g=some (uO k r n)
theorem anS {m:aF} {g k r n i:Nat} (h:pL m g k r n) (hi:i < n):vW ayS m 206 (.val (.map (some g))) (.agg [aC (k:Nat),aC (r:Nat),aC (i:Nat)])=some (.tree k k (aY k (fJ k i)) true):=by
 unfold pL at h;rw [aq0 (by rw [afb];rfl)];have c:i6 (.agg [aC (k:Nat),aC (r:Nat),aC (i:Nat)])=some (uN (k:Nat) (r:Nat) (i:Nat)):=rfl;have a:=anR k r (i:Nat) n;rw [if_pos (by omega)] at a;have b:(uO k r n)[i]? = some (uN (k:Nat) (r:Nat) (i:Nat),.tree k k (aY k (fJ k i)) true):=by
  unfold uO;rw [azl,aBO hi];rfl
 simp only [acs,afb,rA,h,c,aAh,az3,anP,if_true,a,Int.toNat_natCast,b]
theorem anT {m:aF} {g k r n:Nat} (h:pL m g k r n):tW ayS m 206 (.val (.map (some g))) (.agg [aC (k:Nat),aC (r:Nat),aC (n:Nat)]) (.tree k k (aY k (fJ k n)) true)=some ⟨eN,m.setM (m.mm.set g (uO k r (n+1))),none⟩:=by
 unfold pL at h;rw [aq1 (by rw [afb];rfl)];have b:i6 (.agg [aC (k:Nat),aC (r:Nat),aC (n:Nat)])=some (uN (k:Nat) (r:Nat) (n:Nat)):=rfl;have a:=anR k r (n:Nat) n;rw [if_neg (by omega)] at a;simp only [aaN,afb,rA,h,b,aAh,az3,anP,if_true,a,auX];rfl
theorem anU {m:aF} {g k r n:Nat}:pL (m.setM (m.mm.set g (uO k r n))) g k r n:=by
 unfold pL;simp [aF.setM,Maps.set]
theorem auY (m0:aF) (k r:Nat) (N:1≤k) (F:k≤12) (S:r≤4):fH ayS 177 [aC (k:Nat),aC (r:Nat)] m0 fun G m'=>∃ g mm,G = .val (.map (some g))∧m'=m0.setM mm∧pL m' g k r (k+r):=by
 have R:¬ ((k:Nat):Int) < 1:=by omega
 have P:¬ (12:Int) < ((k:Nat):Int):=by omega
 have Q:¬ ((r:Nat):Int) < 0:=by omega
 have U:¬ (4:Int) < ((r:Nat):Int):=by omega
 have o:=auL k N (by omega);have L:=(ae9 true true k k jO).rd;refine bI Tryz.func177 aB (h:=?_);unfold Tryz.f177;simp only [↓pre,zad,simprocAttr,R,P,Q,U];intro g V;simp only [↓pre,zab,simprocAttr]
 (first | refine aH (o) (by first | rfl | simp only [aA,aD, *]) ?_ | refine aG (o) (by first | rfl | simp only [aA,aD, *]) (by intro k;first | rfl | simp only [ *,zaa]) ?_);simp only [↓pre,zae,aeB,simprocAttr,L.len']
 rw [bS];refine bU (fun q e m=>∃ i mm,q+i=k∧e 0=aC (k:Nat)∧e 1=aC (r:Nat)∧e 5 = .val (.map (some g))∧e 34 = .tree k k (mV true k k jO) true∧e 35=aC (k:Nat)∧e 36=aC (i:Nat)∧m=m0.setM mm∧pL m g k r i) k ⟨0,_,by omega,rfl,rfl,rfl,rfl,rfl,rfl,rfl,by simp [pL,aF.setM,Maps.add,uO]⟩ ?_;rintro q e m ⟨i,mm,C,A,x,v,K,t,u,rfl,y⟩;replace C:=Hid.mk C;by_cases s:i < k
 ·have b:((i:Nat):Int) < ((k:Nat):Int):=by omega
  have w1:=bY (n:=i) (by omega);have f:=aah true (w:=k) jO s;have I:aY k (jO i)=aY k (fJ k i):=qP fun j M=>by unfold jO fJ;rw [if_pos s]
  rw [I] at f;have z:=anT y;simp only [aC] at z;simp only [↓pre,zag,aeB,simprocAttr,A,x,v,K,t,u,b,L.addr',s,f,z,w1];exact ⟨q - 1,by have:=C.out;omega,i+1,_,by have:=C.out;omega,rfl,rfl,anU⟩
 ·have b:¬ ((i:Nat):Int) < ((k:Nat):Int):=by omega
  have hi:i=k:=by have:=C.out;omega
  subst hi;by_cases H:r=0
  ·have c:¬ (0:Int) < ((r:Nat):Int):=by omega
   simp only [↓pre,zad,simprocAttr,x,v,t,u,b,c];subst H;exact ⟨g,mm,rfl,rfl,y⟩
  ·have c:(0:Int) < ((r:Nat):Int):=by omega
   have p:=auM i r N F (by omega) S;have B:=(ae9 true true r i (iA i)).rd;simp only [↓pre,zad,simprocAttr,A,x,t,u,b,c]
   (first | refine aH (p) (by first | rfl | simp only [aA,aD, *]) ?_ | refine aG (p) (by first | rfl | simp only [aA,aD, *]) (by intro k;first | rfl | simp only [ *,zaa]) ?_);simp only [↓pre,zae,aeB,simprocAttr,B.len']
   rw [bS];refine bU (fun q e m=>∃ j mm,q+j=r∧e 0=aC (i:Nat)∧e 1=aC (r:Nat)∧e 5 = .val (.map (some g))∧e 56 = .tree r r (mV true r i (iA i)) true∧e 57=aC (r:Nat)∧e 58=aC (j:Nat)∧m=m0.setM mm∧pL m g i r (i+j)) r ⟨0,mm,by omega,A,x,v,rfl,rfl,rfl,rfl,y⟩ ?_;rintro T e m ⟨j,mm,d,A,x,v,J,E,D,rfl,y⟩;replace d:=Hid.mk d;by_cases l:j < r
   ·have a:((j:Nat):Int) < ((r:Nat):Int):=by omega
    have w1:=bY (n:=j) (by omega);have O:azv.wrap (((i:Nat):Int)+((j:Nat):Int))=((i+j:Nat):Int):=by rw [←Int.natCast_add];exact cD (by omega)
    have f:=aah true (w:=i) (iA i) l;have I:aY i (iA i j)=aY i (fJ i (i+j)):=rfl;rw [I] at f;have z:=anT y;simp only [aC] at z;simp only [↓pre,zag,aeB,simprocAttr,A,x,v,J,E,D,a,B.addr',l,f,O,z,w1];exact ⟨T - 1,by have:=d.out;omega,j+1,_,by have:=d.out;omega,rfl,rfl,anU⟩
   ·have a:¬ ((j:Nat):Int) < ((r:Nat):Int):=by omega
    have M:j=r:=by have:=d.out;omega
    subst M;simp only [↓pre,zad,simprocAttr,v,E,D,a];exact ⟨g,mm,rfl,rfl,y⟩
theorem vK {m:aF} {el:TypeId} {sz n:Nat} {v:AV} {cells:List AV} (h:Own m el sz v n cells) (k:Nat):fzT k m v=some (bD n cells):=by
 rcases h.form with ⟨rfl,rfl,rfl⟩ | ⟨b,rfl,c,a,d⟩
 ·unfold aN bD;rw [gB];rfl
 ·rw [uC c,aBu];unfold bD;rw [if_neg (by omega)]
def eH (c:AV):Prop:=∀ (k:Nat) (m:aF),fzT k m c=some c
theorem auZ (n c:Nat) (cs:List AV) (f:Bool):eH (.tree n c cs f):=fun k m=>zT
theorem bN (v:Value):eH (.val v):=fun k m=>gB
theorem kT {v:AV} {n:Nat} {cs:List AV} (h:aZ v n cs):eH v:=fun k m=>acA h
theorem abG {k:Nat} {m:aF}:∀ (cs:List AV),(∀ c∈cs,eH c)→oO k m cs=some cs
 | [],_=>i8
 | c::cs,h=>by
  rw [dM,h c (by simp) k m,aAh,abG cs fun x a=>h x (by simp [a])];rfl
theorem afc {m:aF} {el:TypeId} {sz n:Nat} {v:AV} {cells:List AV} (h:cG .var m el sz v n cells) (e:∀ c∈cells,eH c) (k:Nat):fzT (k+1) m v=some (bD n cells):=by
 rcases h.form with ⟨rfl,rfl,rfl⟩ | ⟨b,rfl,d,a,f⟩
 ·unfold aN bD;rw [gB];rfl
 ·rw [aed d (abG _ (by rw [aBu];exact e)),aBu];unfold bD;rw [if_neg (by omega)]
def bW (C:List (List UInt8)) (n:Nat):List Nat:=(aAm n).filter fun i=>decide ((C.getD i []).length≠0)
theorem wV (C:List (List UInt8)) (n:Nat):bW C (n+1)=bW C n++(if (C.getD n []).length≠0 then [n] else []):=by
 unfold bW;rw [aAT,List.filter_append];congr 1;by_cases h:(C.getD n []).length≠0 <;> simp [aBI]
theorem afd (C:List (List UInt8)) (n:Nat):(bW C n).length≤n:=by
 unfold bW;have:=List.length_filter_le (fun i=>decide ((C.getD i []).length≠0)) (aAm n);rw [aBJ] at this;exact this
theorem ah3 {C:List (List UInt8)} {n i:Nat} (h:i∈bW C n):i < n∧(C.getD i []).length≠0:=by
 unfold bW at h;rw [aBL,aAw] at h;exact ⟨h.1,by simpa using h.2⟩
theorem anV (C:List (List UInt8)) (n:Nat):(bW C n).Nodup:=aBK.filter _
def pM (l:List Nat):List AV:=l.map fun (i:Nat)=>aC i
theorem anW (a b:List Nat):pM (a++b)=pM a++pM b:=by simp [pM]
theorem anX {l:List Nat} {i n:Nat} (h:l[i]? = some n):(pM l)[i]? = some (.val (.int .i64 n)):=by
 unfold pM;rw [azl,h];rfl
theorem s6 {C:List (List UInt8)} {i:Nat} {b:List UInt8} (h:C[i]? = some b):C.getD i []=b:=by rw [azp,h];rfl
def abH (C:List (List UInt8)) (L:Nat):Prop:=∀ b∈C,b.length=0∨b.length=L
theorem au0 (v:AV) (C:List (List UInt8)) (cells:List AV) (L:Nat) (s:fQ v C cells) (G:abH C L) (hL:L≤65536) (hn:C.length≤1000):aR ayS 178 [v,aC (C.length:Nat)] ⟨.tup [(fU 3 (bW C C.length).length (pM (bW C C.length))).v,aV true],(fU 3 (bW C C.length).length (pM (bW C C.length))).rows⟩:=by
 have hp:=s.rd.plain;replace G:=Hid.mk G;refine aX Tryz.func178 aB (h:=?_);unfold Tryz.f178;simp only [↓pre,zag,aeC,simprocAttr,s.rd.len'];rw [bS];refine bU (fun q e m=>∃ i lv,q+i=C.length∧e 0=v∧e 6=lv∧e 13=v∧e 14=aC (C.length:Nat)∧e 15=aC (i:Nat)∧Hid (Own m 3 1 lv (bW C i).length (pM (bW C i)))) C.length ⟨0,aN,by omega,rfl,rfl,rfl,rfl,rfl,⟨fC⟩⟩ ?_;rintro q e m ⟨i,lv,u,R,I,t,l,k,P⟩;replace u:=Hid.mk u;by_cases o:i < C.length
 ·have d:((i:Nat):Int) < ((C.length:Nat):Int):=by omega
  have w1:=bY (n:=i) (by omega);obtain ⟨b,E⟩:∃ b,C[i]? = some b:=⟨_,azj o⟩
  obtain ⟨a,x,X,H⟩:=s.at_ i b E;have Z:=G.out b (az5 E);have c:=wV C i;rw [s6 E] at c;have Y:=afd C i;replace E:=Hid.mk E;by_cases h0:b.length=0
  ·have p:((b.length:Nat):Int)=0:=by omega
   rw [if_neg (by omega),aBi] at c;replace c:=Hid.mk c;simp only [↓pre,zag,aeC,simprocAttr,R,I,t,l,k,d,s.rd.addr',o,X,H.len',p,w1];exact ⟨q - 1,by have:=u.out;omega,i+1,lv,by have:=u.out;omega,rfl,rfl,by rw [c.out];exact P⟩
  ·have p:¬ ((b.length:Nat):Int)=0:=by omega
   have J:b.length=L:=by omega
   have V:¬ (65536:Int) < ((b.length:Nat):Int):=by omega
   rw [if_pos h0] at c;replace c:=Hid.mk c;simp only [↓pre,zag,aeC,bE,simprocAttr,I,t,l,k,d,s.rd.addr',o,X,H.len',p];refine x4 (sz:=1) (y:=8) (zl:=[.int .i64 0]) (by kernel_rfl) P.out (by kernel_rfl) (by kernel_rfl) (by kernel_rfl) rfl mN rfl (by omega) (by omega) ?_;intro a1 m' F U N S;obtain ⟨b',rfl,O,T⟩:=F.sl (by omega);have w:0 < (bW C i).length+1:=by omega
   obtain ⟨B,j⟩:∃ B,(bW C (i+1))[0]? = some B:=⟨_,azj (by rw [c.out,aAZ];simp)⟩
   have r:=ah3 (az5 j);have g:=anX j;rw [c.out,anW] at g;have z:B < C.length:=by omega
   obtain ⟨K,f⟩:∃ b,C[B]? = some b:=⟨_,azj z⟩
   obtain ⟨a0,x0,M,A⟩:=s.at_ B K f;have W:=G.out K (az5 f);rw [s6 f] at r;have D:K.length=L:=by omega
   replace f:=Hid.mk f;replace j:=Hid.mk j;replace r:=Hid.mk r;have Q:(pM [i])=[.val (.int .i64 (i:Nat))]:=rfl;rw [Q] at g;rw [J] at V H;rw [D] at A;simp only [↓pre,zag,aeC,bH,simprocAttr,R,t,l,k,H.len',V,s.rd.addr',z,w,O,g,M,A.len',w1];refine ⟨q - 1,by have:=u.out;omega,i+1,_,by have:=u.out;omega,rfl,rfl,⟨?_⟩⟩;rw [c.out,anW,aAZ];exact F
 ·have d:¬ ((i:Nat):Int) < ((C.length:Nat):Int):=by omega
  have hi:i=C.length:=by have:=u.out;omega
  subst hi;simp only [↓pre,zad,simprocAttr,I,l,k,d];rw [ad6 (by kernel_rfl) P.out];rfl
theorem au1 (v:AV) (C:List (List UInt8)) (cells:List AV) (L:Nat) (e:fQ v C cells) (b:abH C L) (f:L≤65536) (c:C.length≤1000):aR ayS 178 [v,aC (C.length:Nat)] ⟨.tup [bD (bW C C.length).length (pM (bW C C.length)),aV true],[]⟩:=by
 have h:=au0 v C cells L e b f c;have g:=alG (P:=ayS) 3 (bW C C.length).length (pM (bW C C.length));have d:=alH (P:=ayS) (el:=3) (by kernel_rfl) (bW C C.length).length (pM (bW C C.length));have a:=uB 0 h (by simp [iT,j7,aV,d]);simp only [fE,iD,aV,g] at a;exact a
def eP (L:Nat) (F:Mx) (a n:Nat):List AV:=(List.range' a n).map fun i => .tree L L (aY L (F i)) true
theorem au2 (L:Nat) (F:Mx) (a n:Nat):(eP L F a n).length=n:=by simp [eP]
theorem afe (L:Nat) (F:Mx) (a n:Nat):eP L F a (n+1)=eP L F a n++[.tree L L (aY L (F (a+n))) true]:=by
 unfold eP;rw [List.range'_1_concat,aBp];rfl
theorem aff {L:Nat} {F:Mx} {a n i:Nat} (h:i < n):(eP L F a n)[i]? = some (.tree L L (aY L (F (a+i))) true):=by
 unfold eP;rw [azl,List.getElem?_range' h];simp
theorem anY (L:Nat) (F:Mx) (a n:Nat):∀ c∈eP L F a n,eH c:=by
 intro c b;unfold eP at b;obtain ⟨i,_,rfl⟩:=azm.1 b;exact auZ _ _ _ _
theorem au3 (L:Nat) (F:Mx) (a b:Nat):eP L F 0 a++eP L F a b=eP L F 0 (a+b):=by
 unfold eP;rw [←aBp];congr 1;have:=List.range'_append (s:=0) (m:=a) (n:=b) (step:=1);simpa using this
theorem au4 {L:Nat} {F G:Mx} {a n:Nat} (h:∀ i,a≤i→i < a+n→∀ p,p < L→F i p=G i p):eP L F a n=eP L G a n:=by
 unfold eP;apply aAt;intro i hi;rw [List.mem_range'_1] at hi;rw [qP (h i hi.1 (by omega))]
theorem abI {m:aF} {n c:Nat} {cs:List AV} {f:Bool}:gF ayS m 45 1 [(0,.tree n c cs f)]=some ⟨.tree 1 1 [.tree n c cs f] true,m,none⟩:=by
 have h1:bZ ayS 45=some 52:=by kernel_rfl
 have h2:cE ayS 52=some 1:=by kernel_rfl
 have h5:gN ayS 52=some [.slice none 0 0]:=by kernel_rfl
 simp [gF,h1,h2,h5,jF,aAT,iR,g8,d5,cP,AV.cells,j5,i7,bL]
theorem anZ {m:aF} {b n:Nat} {f:Bool} {cells:List AV} {el:TypeId} (hb:m.at_ b=some ⟨cells,el,.flat,true⟩):tZ ayS false true m 45 1 [(0,.sl b 0 n n f)]=some ⟨.tree 1 1 [.tree n n cells f] true,m.put b (some ⟨cells,el,.flat,false⟩),none⟩:=by
 have h1:bZ ayS 45=some 52:=by kernel_rfl
 have h2:cE ayS 52=some 1:=by kernel_rfl
 have h5:gN ayS 52=some [.slice none 0 0]:=by kernel_rfl
 have hn:gF ayS m 45 1 [(0,.sl b 0 n n f)]=none:=by
  simp [gF,h1,h2,h5,jF,aAT,iR,g8,d5,cP,AV.cells,j5,i7]
 rw [ak7 hn]
 simp [xU,h1,h2,h5,jF,aAT,iR,g8,d5,cP,AV.cells,fzs,fz,hb,bL]
theorem ah4:∀ l:List UInt8,lP (l.map bA)=true
 | []=>rfl
 | a::l=>by simp [lP,jX,bA,ah4 l]
theorem an0 (w:Nat) (f:Nat→UInt8):lP (aY w f)=true:=ah4 _
def ac6 (k L:Nat) (D:Mx) (b:List AV):Prop:=∀ i,i < k→∃ a x,b[i]? = some a∧aZ a L (aY L (D i)++x)
theorem au5 (m0:aF) (g k r a n L:Nat) (E:AV) (D:Mx) (M:List AV) (Y:pL m0 g k r (k+r)) (S:m6 m0 E k M) (v:uZ m0 E) (J:ac6 k L D M) (Z:1≤k) (T:k≤12) (hr:r≤4) (ha:a+n≤k+r) (V:L≤65536):fH ayS 179 [.val (.map (some g)),aC (k:Nat),aC (r:Nat),aC (a:Nat),aC (a+n:Nat),E] m0 fun H m'=>∃ lv,H = .tup [lv,aC 0]∧cG .var m' 52 1 lv n (eP L (oV k D) a n)∧lU m0 m'∧mO m0 lv:=by
 refine bI Tryz.func179 aB (h:=?_);unfold Tryz.f179;simp only [↓pre,simprocAttr,sx];rw [bS];refine bU (fun q e m=>∃ i lv,q+i=n∧e 0 = .val (.map (some g))∧e 1=aC (k:Nat)∧e 2=aC (r:Nat)∧e 4=aC (a+n:Nat)∧e 5=E∧e 14=lv∧e 15=aC (a+i:Nat)∧Hid (cG .var m 52 1 lv i (eP L (oV k D) a i)∧lU m0 m∧mO m0 lv)) n ⟨0,aN,by omega,rfl,rfl,rfl,rfl,rfl,rfl,rfl,⟨fC,lU.refl _,zU _⟩⟩ ?_;rintro q e m ⟨i,lv,A,O,P,Q,F,N,B,t,C⟩;replace A:=Hid.mk A;by_cases R:i < n
 ·have p:((a+i:Nat):Int) < ((a+n:Nat):Int):=by omega
  have w1:=bY (n:=a+i) (by omega);obtain ⟨G,c,l⟩:=C.out;have z:=anS (m:=m) (g:=g) (k:=k) (r:=r) (n:=k+r) (i:=a+i) (by unfold pL;rw [c.mm];exact Y) (by omega);obtain ⟨X,s,u⟩:=(S.keep c.w v).lend2 (a := .tree k k (aY k (fJ k (a+i))) true) rfl;have o:=anO (.tree k k (aY k (fJ k (a+i))) true) X k L (fJ k (a+i)) D [] M ⟨.inr (.inr ⟨k,true,by rw [aBi],ay7 _⟩)⟩ ⟨u,J⟩ Z (by omega) V;rw [show pK k (fJ k (a+i)) D=oV k D (a+i) from rfl] at o;simp only [aC] at z o;have d:lU m0 ((m.push ⟨aY L (oV k D (a+i)),5,.flat,true⟩).put m.next (some ⟨aY L (oV k D (a+i)),5,.flat,false⟩)):=⟨c.mm,by rw [bX,bM];have:=c.next;omega,fun j x W hl=>by have:=c.next;rw [aO,if_neg (by omega),aT,if_neg (by omega)];exact c.at_ j x W hl⟩
  have I:=anZ (m:=m.push ⟨aY L (oV k D (a+i)),5,.flat,true⟩) (b:=m.next) (n:=L) (f:=true) (by rw [aT,if_pos rfl]);replace C:=Hid.mk C;replace c:=Hid.mk c;replace G:=Hid.mk G;replace l:=Hid.mk l;replace u:=Hid.mk u;replace d:=Hid.mk d;simp only [↓pre,zad,aml,simprocAttr,O,P,Q,F,N,t,p,z];refine ad1 o s (by simp [fF.apart,jX,lP,an0]) ?_;simp only [↓pre,zad,aml,bE,simprocAttr,B,I];refine alR (kd := .var) (sz:=1) (y:=24) (zl:=[.slice none 0 0]) (by kernel_rfl) (G.out.pp _ _) (by kernel_rfl) (by kernel_rfl) (by kernel_rfl) rfl mN rfl (by omega) (by omega) d.out l.out ?_;intro U m' K c l;simp only [↓pre,zab,simprocAttr,O,P,Q,F,N,t,w1];refine ⟨q - 1,by have:=A.out;omega,i+1,_,by have:=A.out;omega,rfl,rfl,⟨?_,c,l⟩⟩;rw [afe];exact K
 ·have hi:i=n:=by have:=A.out;omega
  subst hi;have p:¬ ((a+i:Nat):Int) < ((a+i:Nat):Int):=by omega
  simp only [↓pre,zad,simprocAttr,F,B,t,p];exact ⟨lv,rfl,C.out⟩
theorem au6 {g:Nat} {x y:Operand}:dR ayS .eql 206 x y (.val (.map (some g))) (.val (.map none))=some (.val (.bool false)):=by kernel_rfl
end Go.Proofs.YtaekhhlgnbhnpaaGreat