import Derived.KernelRfl
import Derived.Test.YtaekhhlgnbhnpaaGreatOzcG15
import Derived.Test.YtaekhhlgnbhnpaaGreatOzcG10
import Derived.Test.YtaekhhlgnbhnpaaGreatOzcG11
import Derived.Test.YtaekhhlgnbhnpaaGreatOzcG16
import Derived.Test.YtaekhhlgnbhnpaaGreatOzcG12
set_option linter.unusedVariables false
set_option linter.unusedSimpArgs false
namespace Go.Gf
def xt (a:Nat):Nat:=if a < 128 then 2*a else (2*a) ^^^ 0x11d
def gm:Nat→Nat→Nat→Nat
 | 0,_,_=>0
 | n+1,a,b=>(if b % 2=1 then a else 0) ^^^ gm n (xt a) (b / 2)
def gmul (a b:Nat):Nat:=gm 8 a b
theorem asO (b c:Nat):((b ^^^ c) % 2=1)↔¬ ((b % 2=1)↔(c % 2=1)):=by
 have h:=Nat.testBit_xor b c 0
 simp only [Nat.testBit_zero] at h
 by_cases hb:b % 2=1 <;> by_cases hc:c % 2=1 <;> simp [hb,hc] at h ⊢ <;> omega
theorem agM:∀ (n a b c:Nat),gm n a (b ^^^ c)=gm n a b ^^^ gm n a c
 | 0,_,_,_=>by unfold gm;rfl
 | n+1,a,b,c=>by
  have ih:=agM n (xt a) (b / 2) (c / 2)
  have ho:=asO b c
  unfold gm
  rw [Nat.xor_div_two,ih]
  generalize gm n (xt a) (b / 2)=x
  generalize gm n (xt a) (c / 2)=y
  by_cases hb:b % 2=1 <;> by_cases hc:c % 2=1
  ·rw [if_neg (by rw [ho];simp [hb,hc]),if_pos hb,if_pos hc,Nat.zero_xor]
   rw [show (a ^^^ x) ^^^ (a ^^^ y)=(a ^^^ a) ^^^ (x ^^^ y) by ac_rfl,Nat.xor_self,Nat.zero_xor]
  ·rw [if_pos (by rw [ho];simp [hb,hc]),if_pos hb,if_neg hc,Nat.zero_xor]
   ac_rfl
  ·rw [if_pos (by rw [ho];simp [hb,hc]),if_neg hb,if_pos hc,Nat.zero_xor]
   ac_rfl
  ·rw [if_neg (by rw [ho];simp [hb,hc]),if_neg hb,if_neg hc,Nat.zero_xor,Nat.zero_xor,Nat.zero_xor]
def eT:Nat:=70160881166704368827218703435136616750530459438269794890424969378298545675077208731798828898087927652446353395360628748027273188182808436399538186061104243134188885576122562338679313492324190829158544377810568631194580132524405266702234305646236648896994794467054525044798919765581988418950285252905306116225263236585714808161311289784028762024137133735135393922581566890382566480334369299400480864790538739986285574563168380416343369614948461817839620668187777978661530364712890858126432457562886306102556561631759900551331094983229723298224611133722330829711659991602983068895685602467964643306841827719562658305
def lT:Nat:=22135253156888987530748098150270024343632497605293634117281264061560962248099620766229961468867162294233796152347975563017024165690400661622462404646302566225833645086064538892198543335321514950294300187779610338557442029018619797274438901674641748676613670242915365385819254959901651105240253464034662486586186382979728982817772067067513442677601938078891989292316012868233806586592927239821351197800766822366321181463280924672822998103315976779850880337712374790938628529953751181886374687897611504386983350015558142994211516619836411558782076806704747441947939324473761869443721989389604670425385080942269787340800
def gE (n:Nat):Nat:=(eT >>> (8*n)) % 256
def gL (a:Nat):Nat:=(lT >>> (8*a)) % 256
def amm:Bool:=(List.range 256).all fun a=>(List.range 256).all fun b=>gmul a b == (if a=0 then 0 else if b=0 then 0 else gE ((gL a+gL b) % 255))
theorem asP:amm=true:=by kernel_rfl
def amn:Bool:=(List.range 255).all fun n=>gL (gE n) == n && gE n != 0 && decide (gE n < 256)
theorem asQ:amn=true:=by kernel_rfl
def amo:Bool:=(List.range 256).all fun a=>a == 0 || (gE (gL a) == a && decide (gL a < 255))
theorem asR:amo=true:=by kernel_rfl
theorem lK {a b:Nat} (ha:a < 256) (hb:b < 256):gmul a b=(if a=0 then 0 else if b=0 then 0 else gE ((gL a+gL b) % 255)):=by
 have h:=asP
 unfold amm at h
 rw [List.all_eq_true] at h
 have h1:=h a (List.mem_range.2 ha)
 rw [List.all_eq_true] at h1
 exact eq_of_beq (h1 b (List.mem_range.2 hb))
theorem wD {n:Nat} (h:n < 255):gL (gE n)=n∧gE n≠0∧gE n < 256:=by
 have h1:=asQ
 unfold amn at h1
 rw [List.all_eq_true] at h1
 have h2:=h1 n (List.mem_range.2 h)
 simp only [Bool.and_eq_true,beq_iff_eq,bne_iff_ne,decide_eq_true_eq] at h2
 exact ⟨h2.1.1,h2.1.2,h2.2⟩
theorem aeq {a:Nat} (h:a < 256) (h0:a≠0):gE (gL a)=a∧gL a < 255:=by
 have h1:=asR
 unfold amo at h1
 rw [List.all_eq_true] at h1
 have h2:=h1 a (List.mem_range.2 h)
 simp only [Bool.or_eq_true,Bool.and_eq_true,beq_iff_eq,decide_eq_true_eq] at h2
 rcases h2 with h2 | h2
 ·exact absurd h2 h0
 ·exact h2
theorem aer {a b:Nat} (ha:a < 256) (hb:b < 256):gmul a b < 256:=by
 rw [lK ha hb]
 split
 ·omega
 ·split
  ·omega
  ·exact (wD (Nat.mod_lt _ (by decide))).2.2
theorem asS {a b:Nat} (ha:a < 256) (hb:b < 256):gmul a b=gmul b a:=by
 rw [lK ha hb,lK hb ha,Nat.add_comm (gL a)]
 by_cases h1:a=0 <;> by_cases h2:b=0 <;> simp [h1,h2]
theorem agN {a b:Nat} (ha:a < 256) (hb:b < 256) (h1:a≠0) (h2:b≠0):gmul a b≠0:=by
 rw [lK ha hb,if_neg h1,if_neg h2]
 exact (wD (Nat.mod_lt _ (by decide))).2.1
theorem asT {a b c:Nat} (ha:a < 256) (hb:b < 256) (hc:c < 256):gmul (gmul a b) c=gmul a (gmul b c):=by
 have hab:=aer ha hb
 have hbc:=aer hb hc
 by_cases h1:a=0
 ·rw [lK hab hc,lK ha hbc,lK ha hb,if_pos h1,if_pos rfl]
  simp [h1]
 ·by_cases h2:b=0
  ·rw [lK hab hc,lK ha hbc,lK ha hb,lK hb hc,if_pos h2,if_pos h2]
   simp [h1]
  ·by_cases h3:c=0
   ·rw [lK hab hc,lK ha hbc,lK hb hc,if_pos h3,if_pos h3]
    simp [h1]
   ·have e1:=agN ha hb h1 h2
    have e2:=agN hb hc h2 h3
    rw [lK hab hc,lK ha hbc,if_neg e1,if_neg h3,if_neg h1,if_neg e2]
    rw [lK ha hb,if_neg h1,if_neg h2,lK hb hc,if_neg h2,if_neg h3]
    rw [(wD (Nat.mod_lt _ (by decide))).1,(wD (Nat.mod_lt _ (by decide))).1]
    congr 1
    omega
theorem asU {a:Nat} (ha:a < 256):gmul a 1=a:=by
 rw [lK ha (by decide)]
 split
 ·rename_i h;rw [h]
 ·rename_i h
  rw [if_neg (by decide)]
  have:=aeq ha h
  have e:gL 1=0:=by kernel_rfl
  rw [e,Nat.add_zero,Nat.mod_eq_of_lt this.2]
  exact this.1
def ginv (a:Nat):Nat:=gE ((255 - gL a) % 255)
theorem agO (a:Nat):ginv a < 256:=(wD (Nat.mod_lt _ (by decide))).2.2
theorem asV {a:Nat} (ha:a < 256) (h0:a≠0):gmul a (ginv a)=1:=by
 have h:=aeq ha h0
 have hi:=wD (n:=(255 - gL a) % 255) (Nat.mod_lt _ (by decide))
 rw [lK ha (agO a),if_neg h0,if_neg (show ginv a≠0 from hi.2.1)]
 unfold ginv
 rw [hi.1]
 have e:(gL a+(255 - gL a) % 255) % 255=0:=by omega
 have e0:gE 0=1:=by kernel_rfl
 rw [e,e0]
def aR (a b:UInt8):UInt8:=UInt8.ofNat (gmul a.toNat b.toNat)
def cR (a:UInt8):UInt8:=UInt8.ofNat (ginv a.toNat)
theorem mD {n:Nat} (h:n < 256):(UInt8.ofNat n).toNat=n:=by rw [UInt8.toNat_ofNat'];exact Nat.mod_eq_of_lt h
theorem jD (a:UInt8):a.toNat < 256:=a.toNat_lt
theorem r6 (a b:UInt8):(aR a b).toNat=gmul a.toNat b.toNat:=mD (aer (jD a) (jD b))
theorem oY (a b:UInt8):aR a b=aR b a:=by unfold aR;rw [asS (jD a) (jD b)]
theorem acL (a b c:UInt8):aR (aR a b) c=aR a (aR b c):=by
 apply UInt8.toNat_inj.1
 rw [r6,r6,r6,r6]
 exact asT (jD a) (jD b) (jD c)
theorem uS (a:UInt8):aR a 1=a:=by
 apply UInt8.toNat_inj.1
 rw [r6]
 exact asU (jD a)
theorem oZ (a:UInt8):aR 1 a=a:=by rw [oY,uS]
theorem qV (a:UInt8):aR a 0=0:=by
 apply UInt8.toNat_inj.1
 rw [r6,lK (jD a) (jD 0)]
 split
 ·rfl
 ·rfl
theorem tS (a:UInt8):aR 0 a=0:=by rw [oY,qV]
theorem qG {a:UInt8} (h:a≠0):aR a (cR a)=1:=by
 apply UInt8.toNat_inj.1
 rw [r6]
 unfold cR
 rw [mD (agO _)]
 exact asV (jD a) fun e=>h (UInt8.toNat_inj.1 e)
theorem tT (a b c:UInt8):aR a (b ^^^ c)=aR a b ^^^ aR a c:=by
 apply UInt8.toNat_inj.1
 rw [UInt8.toNat_xor,r6,r6,r6,UInt8.toNat_xor]
 exact agM 8 _ _ _
theorem agP (a b c:UInt8):aR (a ^^^ b) c=aR a c ^^^ aR b c:=by
 rw [oY,tT,oY c a,oY c b]
theorem aes {a b:UInt8} (ha:a≠0) (hb:b≠0):aR a b≠0:=by
 intro h
 have h2:=congrArg UInt8.toNat h
 rw [r6] at h2
 exact agN (jD a) (jD b) (fun e=>ha (UInt8.toNat_inj.1 e)) (fun e=>hb (UInt8.toNat_inj.1 e)) h2
theorem aet {a:UInt8} (h:a≠0):cR a≠0:=by
 intro e
 have:=qG h
 rw [e,qV] at this
 exact absurd this (by decide)
instance:Std.Associative aR:=⟨acL⟩
instance:Std.Commutative aR:=⟨oY⟩
theorem abl (a:UInt8):a ^^^ a=0:=UInt8.xor_self
theorem r7 (a:UInt8):a ^^^ 0=a:=UInt8.xor_zero
theorem abm (a:UInt8):0 ^^^ a=a:=UInt8.zero_xor
instance:Std.Associative (α:=UInt8) (· ^^^ ·):=⟨UInt8.xor_assoc⟩
instance:Std.Commutative (α:=UInt8) (· ^^^ ·):=⟨UInt8.xor_comm⟩
theorem agQ {a b:UInt8} (h:a ^^^ b=0):a=b:=by
 have:a ^^^ b ^^^ b=0 ^^^ b:=by rw [h]
 rw [UInt8.xor_assoc,abl,r7,abm] at this
 exact this
theorem uT {a b:UInt8} (h:a≠b):a ^^^ b≠0:=fun e=>h (agQ e)
def gD:Nat→(Nat→UInt8)→UInt8
 | 0,_=>0
 | n+1,f=>gD n f ^^^ f n
theorem x2 {f g:Nat→UInt8}:∀ n,(∀ i,i < n→f i=g i)→gD n f=gD n g
 | 0,_=>rfl
 | n+1,h=>by unfold gD;rw [x2 n fun i hi=>h i (by omega),h n (by omega)]
theorem agR {f:Nat→UInt8}:∀ n,(∀ i,i < n→f i=0)→gD n f=0
 | 0,_=>rfl
 | n+1,h=>by unfold gD;rw [agR n fun i hi=>h i (by omega),h n (by omega)];rfl
theorem acM (c:UInt8) (f:Nat→UInt8):∀ n,aR c (gD n f)=gD n fun i=>aR c (f i)
 | 0=>qV c
 | n+1=>by unfold gD;rw [tT,acM c f n]
theorem asW (c:UInt8) (f:Nat→UInt8) (n:Nat):aR (gD n f) c=gD n fun i=>aR (f i) c:=by
 rw [oY,acM]
 exact x2 n fun i _=>oY _ _
theorem aeu (f g:Nat→UInt8):∀ n,gD n (fun i=>f i ^^^ g i)=gD n f ^^^ gD n g
 | 0=>(r7 0).symm
 | n+1=>by
  show gD n (fun i=>f i ^^^ g i) ^^^ (f n ^^^ g n)=(gD n f ^^^ f n) ^^^ (gD n g ^^^ g n)
  rw [aeu f g n];ac_rfl
theorem abn {f:Nat→UInt8} {k:Nat}:∀ n,k < n→(∀ i,i < n→i≠k→f i=0)→gD n f=f k
 | 0,h,_=>by omega
 | n+1,h,h0=>by
  unfold gD
  by_cases hk:k=n
  ·subst hk
   rw [agR k fun i hi=>h0 i (by omega) (by omega),abm]
  ·rw [abn n (by omega) fun i hi hne=>h0 i (by omega) hne,h0 n (by omega) (fun e=>hk e.symm),r7]
theorem acN {a b c:UInt8} (ha:a≠0) (h:aR a b=aR a c):b=c:=by
 have:=congrArg (aR (cR a)) h
 rw [←acL,←acL,oY (cR a) a,qG ha,oZ,oZ] at this
 exact this
theorem aev {a b:UInt8} (ha:a≠0) (h:aR a b=0):b=0:=acN ha (h.trans (qV a).symm)
theorem asX {zi zn wj wn:UInt8} (h1:zi≠wj) (h2:zn≠wj):aR (zi ^^^ wn) (cR (zi ^^^ wj)) ^^^ aR (zn ^^^ wn) (cR (zn ^^^ wj))=aR (zi ^^^ zn) (aR (aR (wn ^^^ wj) (cR (zn ^^^ wj))) (cR (zi ^^^ wj))):=by
 have d1:=uT h1
 have d2:=uT h2
 refine acN d1 (acN d2 ?_)
 have e1:=qG d1
 have e2:=qG d2
 generalize cR (zi ^^^ wj)=p at *
 generalize cR (zn ^^^ wj)=q at *
 have l1:aR (zn ^^^ wj) (aR (zi ^^^ wj) (aR (zi ^^^ wn) p ^^^ aR (zn ^^^ wn) q))=aR (zn ^^^ wj) (zi ^^^ wn) ^^^ aR (zi ^^^ wj) (zn ^^^ wn):=by
  rw [tT,tT]
  congr 1
  ·rw [show aR (zi ^^^ wj) (aR (zi ^^^ wn) p)=aR (aR (zi ^^^ wj) p) (zi ^^^ wn) by ac_rfl,e1,oZ]
  ·rw [show aR (zn ^^^ wj) (aR (zi ^^^ wj) (aR (zn ^^^ wn) q))=aR (aR (zn ^^^ wj) q) (aR (zi ^^^ wj) (zn ^^^ wn)) by ac_rfl,e2,oZ]
 have l2:aR (zn ^^^ wj) (aR (zi ^^^ wj) (aR (zi ^^^ zn) (aR (aR (wn ^^^ wj) q) p)))=aR (zi ^^^ zn) (wn ^^^ wj):=by
  rw [show aR (zn ^^^ wj) (aR (zi ^^^ wj) (aR (zi ^^^ zn) (aR (aR (wn ^^^ wj) q) p)))=aR (aR (zn ^^^ wj) q) (aR (aR (zi ^^^ wj) p) (aR (zi ^^^ zn) (wn ^^^ wj))) by ac_rfl,e1,e2,oZ,oZ]
 rw [l1,l2]
 simp only [tT,agP]
 rw [oY zn zi,oY wj zi,oY wj zn]
 have key:∀ a b c d f g:UInt8,((a ^^^ d) ^^^ (f ^^^ c)) ^^^ ((a ^^^ g) ^^^ (b ^^^ c))=(b ^^^ f) ^^^ (d ^^^ g):=by
  intro a b c d f g
  rw [show ((a ^^^ d) ^^^ (f ^^^ c)) ^^^ ((a ^^^ g) ^^^ (b ^^^ c))=((a ^^^ a) ^^^ (c ^^^ c)) ^^^ ((b ^^^ f) ^^^ (d ^^^ g)) by ac_rfl,abl,abl,r7,abm]
 exact key _ _ _ _ _ _
def kP {α:Type} (l:List α) (f:α→UInt8):UInt8:=l.foldr (fun a s=>f a ^^^ s) 0
theorem oC {α:Type} (a:α) (l:List α) (f:α→UInt8):kP (a::l) f=f a ^^^ kP l f:=rfl
theorem agS {α:Type} {f g:α→UInt8}:∀ (l:List α),(∀ a∈l,f a=g a)→kP l f=kP l g
 | [],_=>rfl
 | a::l,h=>by rw [oC,oC,h a (by simp),agS l fun b hb=>h b (by simp [hb])]
theorem amp {α:Type} {f:α→UInt8}:∀ (l:List α),(∀ a∈l,f a=0)→kP l f=0
 | [],_=>rfl
 | a::l,h=>by rw [oC,h a (by simp),amp l fun b hb=>h b (by simp [hb])];rfl
theorem aew {α:Type} (c:UInt8) (f:α→UInt8):∀ l:List α,aR c (kP l f)=kP l fun a=>aR c (f a)
 | []=>qV c
 | a::l=>by rw [oC,oC,tT,aew c f l]
theorem amq {α:Type} (f g:α→UInt8):∀ l:List α,kP l (fun a=>f a ^^^ g a)=kP l f ^^^ kP l g
 | []=>(r7 0).symm
 | a::l=>by rw [oC,oC,oC,amq f g l];ac_rfl
theorem amr:∀ (W Z:List UInt8) (x:UInt8→UInt8),W.length=Z.length→W.Nodup→Z.Nodup→(∀ z∈Z,∀ w∈W,z≠w)→(∀ z∈Z,kP W (fun w=>aR (x w) (cR (z ^^^ w)))=0)→∀ w∈W,x w=0
 | [],_,_,_,_,_,_,_=>fun w hw=>by cases hw
 | w0::W,[],_,hl,_,_,_,_=>by simp at hl
 | w0::W,z0::Z,x,hl,hw,hz,hd,h=>by
  rw [List.nodup_cons] at hw hz
  have h0:=h z0 (by simp)
  rw [oC] at h0
  have d00:z0≠w0:=hd z0 (by simp) w0 (by simp)
  have ih:=amr W Z (fun w=>aR (x w) (aR (w0 ^^^ w) (cR (z0 ^^^ w)))) (by simpa using hl) hw.2 hz.2 (fun z hz w hw=>hd z (by simp [hz]) w (by simp [hw])) (fun z hzm=>by
   have h1:=h z (by simp [hzm])
   rw [oC] at h1
   have dz0:z≠w0:=hd z (by simp [hzm]) w0 (by simp)
   have dzz:z ^^^ z0≠0:=uT fun e=>hz.1 (e ▸ hzm)
   refine aev dzz ?_
   rw [aew]
   have e:kP W (fun w=>aR (z ^^^ z0) (aR (aR (x w) (aR (w0 ^^^ w) (cR (z0 ^^^ w)))) (cR (z ^^^ w))))=aR (z ^^^ w0) (kP W fun w=>aR (x w) (cR (z ^^^ w))) ^^^ aR (z0 ^^^ w0) (kP W fun w=>aR (x w) (cR (z0 ^^^ w))):=by
    rw [aew,aew,←amq]
    refine agS W fun w hw => ?_
    have st:=asX (zi:=z) (zn:=z0) (wj:=w) (wn:=w0) (hd z (by simp [hzm]) w (by simp [hw])) (hd z0 (by simp) w (by simp [hw]))
    have:=congrArg (aR (x w)) st
    rw [tT] at this
    rw [show aR (z ^^^ w0) (aR (x w) (cR (z ^^^ w)))=aR (x w) (aR (z ^^^ w0) (cR (z ^^^ w))) by ac_rfl,show aR (z0 ^^^ w0) (aR (x w) (cR (z0 ^^^ w)))=aR (x w) (aR (z0 ^^^ w0) (cR (z0 ^^^ w))) by ac_rfl,this]
    ac_rfl
   have g1:=congrArg (aR (z ^^^ w0)) h1
   have g0:=congrArg (aR (z0 ^^^ w0)) h0
   rw [tT,qV,show aR (z ^^^ w0) (aR (x w0) (cR (z ^^^ w0)))=aR (x w0) (aR (z ^^^ w0) (cR (z ^^^ w0))) by ac_rfl,qG (uT dz0),uS] at g1
   rw [tT,qV,show aR (z0 ^^^ w0) (aR (x w0) (cR (z0 ^^^ w0)))=aR (x w0) (aR (z0 ^^^ w0) (cR (z0 ^^^ w0))) by ac_rfl,qG (uT d00),uS] at g0
   rw [e,←agQ g1,←agQ g0]
   exact abl _)
  have hW:∀ w∈W,x w=0:=fun w hwm=>by
   have h2:=ih w hwm
   have n1:aR (w0 ^^^ w) (cR (z0 ^^^ w))≠0:=aes (uT fun e=>hw.1 (e ▸ hwm)) (aet (uT (hd z0 (by simp) w (by simp [hwm]))))
   rw [oY] at h2
   exact aev n1 h2
  intro w hwm
  rcases List.mem_cons.1 hwm with rfl | hwm
  ·rw [amp W fun w' hw'=>by rw [hW w' hw',tS],r7,oY] at h0
   exact aev (aet (uT d00)) h0
  ·exact hW w hwm
abbrev Mx:=Nat→Nat→UInt8
def eI (m:Mx) (a n:Nat):Mx:=fun i=>if i=a then m n else if i=n then m a else m i
def mE (m:Mx) (n:Nat) (c:UInt8):Mx:=fun i q=>if i=n then aR (m n q) c else m i q
def fN (m:Mx) (n:Nat) (k:Nat→UInt8):Mx:=fun i q=>if i=n then m i q else m i q ^^^ aR (k i) (m n q)
def dZ (m:Mx) (j:Nat):Nat→Nat→Nat
 | 0,at_=>at_
 | f+1,at_=>if m at_ j≠0 then at_ else dZ m j f (at_+1)
theorem x3 (m:Mx) (j:Nat):∀ f a,a≤dZ m j f a∧dZ m j f a≤a+f
 | 0,a=>⟨Nat.le_refl _,Nat.le_refl _⟩
 | f+1,a=>by
  unfold dZ
  split
  ·omega
  ·have:=x3 m j f (a+1);omega
theorem acO (m:Mx) (j:Nat):∀ f a,dZ m j f a < a+f→m (dZ m j f a) j≠0
 | 0,a,h=>by unfold dZ at h;omega
 | f+1,a,h=>by
  unfold dZ at h ⊢
  split at h
  ·rename_i h1;rw [if_pos h1];exact h1
  ·rename_i h1;rw [if_neg h1];exact acO m j f (a+1) (by omega)
theorem ams (m:Mx) (j:Nat):∀ f a i,a≤i→i < dZ m j f a→m i j=0
 | 0,a,i,h1,h2=>by unfold dZ at h2;omega
 | f+1,a,i,h1,h2=>by
  unfold dZ at h2
  split at h2
  ·omega
  ·rename_i h3
   by_cases e:i=a
   ·subst e;simpa using h3
   ·exact ams m j f (a+1) i (by omega) h2
structure zW where
 n:Nat
 m:Mx
 b:Mx
def sC (N j:Nat) (s:zW):zW :=
 let a:=dZ s.m j (N - s.n) s.n
 if N≤a then s else
  let m1:=eI s.m a s.n
  let b1:=eI s.b a s.n
  let c:=cR (m1 s.n j)
  let m2:=mE m1 s.n c
  let b2:=mE b1 s.n c
  ⟨s.n+1,fN m2 s.n (fun i=>m2 i j),fN b2 s.n (fun i=>m2 i j)⟩
def gsol (N:Nat) (m b:Mx):Nat→zW
 | 0=>⟨0,m,b⟩
 | j+1=>sC N j (gsol N m b j)
def jE:Mx:=fun i j=>if i=j then 1 else 0
def kern (N:Nat) (m:Mx) (x:Nat→UInt8):Prop:=∀ i,i < N→gD N (fun q=>aR (m i q) (x q))=0
def asY (N j:Nat) (m:Mx):Prop:=∀ i q,i < N→q < j→m i q=if i=q then 1 else 0
def zX (N:Nat) (M0 m b:Mx):Prop:=∀ i q,i < N→m i q=gD N fun t=>aR (b i t) (M0 t q)
structure agT (N j:Nat) (M0:Mx) (s:zW):Prop where
 n:s.n=j
 unit:asY N j s.m
 prod:zX N M0 s.m s.b
 ker:∀ x,kern N s.m x→kern N M0 x
theorem asZ {N a n:Nat} {m:Mx} {x:Nat→UInt8} (ha:a < N) (hn:n < N) (h:kern N (eI m a n) x):kern N m x:=by
 intro i hi
 by_cases e1:i=a
 ·have:=h n hn
  unfold eI at this
  by_cases e2:n=a
  ·rw [if_pos e2] at this;rw [e1,←e2];exact this
  ·rw [if_neg e2,if_pos rfl] at this;rw [e1];exact this
 ·by_cases e2:i=n
  ·have:=h a ha
   unfold eI at this
   rw [if_pos rfl] at this
   rw [e2];exact this
  ·have:=h i hi
   unfold eI at this
   rw [if_neg e1,if_neg e2] at this
   exact this
theorem as0 {N n:Nat} {m:Mx} {c:UInt8} {x:Nat→UInt8} (hc:c≠0) (h:kern N (mE m n c) x):kern N m x:=by
 intro i hi
 have:=h i hi
 unfold mE at this
 by_cases e:i=n
 ·subst e
  simp only [if_true] at this
  refine aev hc ?_
  rw [acM]
  rw [←this]
  exact x2 N fun q _=>by ac_rfl
 ·simp only [if_neg e] at this
  exact this
theorem as1 {N n:Nat} {m:Mx} {k:Nat→UInt8} {x:Nat→UInt8} (hn:n < N) (h:kern N (fN m n k) x):kern N m x:=by
 have h0:=h n hn
 unfold fN at h0
 simp only [if_true] at h0
 intro i hi
 have:=h i hi
 unfold fN at this
 by_cases e:i=n
 ·subst e;exact h0
 ·simp only [if_neg e] at this
  have e2:gD N (fun q=>aR (m i q ^^^ aR (k i) (m n q)) (x q))=gD N (fun q=>aR (m i q) (x q)) ^^^ aR (k i) (gD N fun q=>aR (m n q) (x q)):=by
   rw [acM,←aeu]
   exact x2 N fun q _=>by rw [agP,acL]
  rw [e2,h0,qV,r7] at this
  exact this
theorem as2 {N a n:Nat} {M0 m b:Mx} (ha:a < N) (hn:n < N) (h:zX N M0 m b):zX N M0 (eI m a n) (eI b a n):=by
 intro i q hi
 unfold eI
 by_cases e1:i=a
 ·simp only [if_pos e1];exact h n q hn
 ·by_cases e2:i=n
  ·simp only [if_neg e1,if_pos e2];exact h a q ha
  ·simp only [if_neg e1,if_neg e2];exact h i q hi
theorem as3 {N n:Nat} {M0 m b:Mx} {c:UInt8} (hn:n < N) (h:zX N M0 m b):zX N M0 (mE m n c) (mE b n c):=by
 intro i q hi
 unfold mE
 by_cases e:i=n
 ·simp only [if_pos e]
  rw [h n q hn,asW]
  exact x2 N fun t _=>by ac_rfl
 ·simp only [if_neg e];exact h i q hi
theorem as4 {N n:Nat} {M0 m b:Mx} {k:Nat→UInt8} (hn:n < N) (h:zX N M0 m b):zX N M0 (fN m n k) (fN b n k):=by
 intro i q hi
 unfold fN
 by_cases e:i=n
 ·simp only [if_pos e];exact h i q hi
 ·simp only [if_neg e]
  rw [h i q hi,h n q hn,acM,←aeu]
  exact x2 N fun t _=>by rw [agP,acL]
theorem as5 {N j:Nat} {M0:Mx} {s:zW} (hj:j < N) (h:agT N j M0 s) (hM:∀ x,kern N M0 x→∀ q,q < N→x q=0):agT N (j+1) M0 (sC N j s):=by
 have hn:=h.n
 have hp:=x3 s.m j (N - s.n) s.n
 have hlt:dZ s.m j (N - s.n) s.n < N:=by
  by_cases hlt:dZ s.m j (N - s.n) s.n < N
  ·exact hlt
  ·exfalso
   have hz:∀ i,s.n≤i→i < N→s.m i j=0:=fun i h1 h2=>ams s.m j (N - s.n) s.n i h1 (by omega)
   have hx:kern N s.m (fun q=>if q < j then s.m q j else if q=j then 1 else 0):=by
    intro i hi
    by_cases hij:i < j
    ·have e:gD N (fun q=>aR (s.m i q) (if q < j then s.m q j else if q=j then 1 else 0))=gD N (fun q=>(if q=i then s.m i j else 0) ^^^ (if q=j then s.m i j else 0)):=x2 N fun q hq=>by
      by_cases h1:q < j
      ·rw [if_pos h1,h.unit i q hi h1]
       have h2:¬ q=j:=by omega
       by_cases h3:q=i
       ·subst h3;rw [if_pos rfl,if_pos rfl,if_neg h2,oZ,r7]
       ·rw [if_neg (fun e=>h3 e.symm),if_neg h3,if_neg h2,tS];rfl
      ·rw [if_neg h1]
       by_cases h2:q=j
       ·subst h2
        rw [if_pos rfl,if_pos rfl,if_neg (by omega),uS,abm]
       ·rw [if_neg h2,if_neg h2,if_neg (by omega),qV];rfl
     rw [e,aeu,abn (k:=i) N hi fun q _ hne=>if_neg hne,abn (k:=j) N hj fun q _ hne=>if_neg hne,if_pos rfl,if_pos rfl]
     exact abl _
    ·refine agR N fun q hq => ?_
     show aR (s.m i q) (if q < j then s.m q j else if q=j then 1 else 0)=0
     by_cases h1:q < j
     ·rw [h.unit i q hi h1,if_neg (by omega),tS]
     ·rw [if_neg h1]
      by_cases h2:q=j
      ·subst h2;rw [hz i (by omega) hi,tS]
      ·rw [if_neg h2,qV]
   have:=hM _ (h.ker _ hx) j hj
   rw [if_neg (Nat.lt_irrefl j),if_pos rfl] at this
   exact absurd this (by decide)
 have hpv:=acO s.m j (N - s.n) s.n (by omega)
 unfold sC
 simp only
 generalize dZ s.m j (N - s.n) s.n=a at *
 rw [if_neg (by omega)]
 have hnN:s.n < N:=by omega
 have hc:eI s.m a s.n s.n j≠0:=by
  unfold eI
  by_cases e:s.n=a
  ·rw [if_pos e,e];exact hpv
  ·rw [if_neg e,if_pos rfl];exact hpv
 have hci:=aet hc
 refine ⟨by show s.n+1=j+1;omega, ?_,as4 hnN (as3 hnN (as2 hlt hnN h.prod)),fun x hx=>h.ker x (asZ hlt hnN (as0 hci (as1 hnN hx)))⟩
 have hsw:∀ i q,i < N→q < j→eI s.m a s.n i q=if i=q then 1 else 0:=by
  intro i q hi hq
  have hq1:=h.unit a q hlt hq
  have hq2:=h.unit s.n q hnN hq
  rw [if_neg (by omega)] at hq1 hq2
  unfold eI
  by_cases e1:i=a
  ·rw [if_pos e1,hq2,if_neg (by omega)]
  ·by_cases e2:i=s.n
   ·rw [if_neg e1,if_pos e2,hq1,if_neg (by omega)]
   ·rw [if_neg e1,if_neg e2];exact h.unit i q hi hq
 intro i q hi hq
 dsimp only
 generalize eI s.m a s.n=m1 at *
 have hone:aR (m1 s.n j) (cR (m1 s.n j))=1:=qG hc
 unfold fN mE
 by_cases hqj:q=j
 ·subst hqj
  by_cases e:i=s.n
  ·simp only [if_pos e,hone]
   rw [if_pos (by omega)]
  ·simp only [if_neg e,if_true,hone,uS]
   rw [if_neg (by omega)]
   exact abl _
 ·have h1:=hsw i q hi (by omega)
  have h2:=hsw s.n q hnN (by omega)
  rw [if_neg (by omega)] at h2
  by_cases e:i=s.n
  ·simp only [if_pos e,h2,tS]
   rw [if_neg (by omega)]
  ·simp only [if_neg e,if_true,h2,tS,qV,r7]
   exact h1
theorem aex {N:Nat} {M0:Mx} (hM:∀ x,kern N M0 x→∀ q,q < N→x q=0):∀ j,j≤N→agT N j M0 (gsol N M0 jE j)
 | 0,_=>⟨rfl,fun i q _ h=>by omega,fun i q hi=>by
  show M0 i q=_
  have e0:gD N (fun t=>aR (jE i t) (M0 t q))=M0 i q:=by
   rw [abn (k:=i) N hi fun t _ hne=>by unfold jE;rw [if_neg (fun e=>hne e.symm),tS]]
   unfold jE
   rw [if_pos rfl,oZ]
  exact e0.symm,fun x hx=>hx⟩
 | j+1,h=>as5 (by omega) (aex hM j (by omega)) hM
theorem as6 {N:Nat} {M0:Mx} (hM:∀ x,kern N M0 x→∀ q,q < N→x q=0):(gsol N M0 jE N).n=N∧∀ i q,i < N→q < N→(gD N fun t=>aR ((gsol N M0 jE N).b i t) (M0 t q))=if i=q then 1 else 0:=by
 have h:=aex hM N (Nat.le_refl _)
 exact ⟨h.n,fun i q hi hq=>by rw [←h.prod i q hi];exact h.unit i q hi hq⟩
def sE (N j:Nat) (s:Nat×Mx):Nat×Mx :=
 let a:=dZ s.2 j (N - s.1) s.1
 if N≤a then s else
  let m1:=eI s.2 a s.1
  (s.1+1,fN m1 s.1 (fun i=>aR (m1 i j) (cR (m1 s.1 j))))
def rsol (N:Nat) (x:Mx):Nat→Nat×Mx
 | 0=>(0,x)
 | j+1=>sE N j (rsol N x j)
structure agU (N:Nat) (s:zW) (r:Nat×Mx):Prop where
 n:r.1=s.n
 rows:∃ f:Nat→UInt8,(∀ i,i < N→f i≠0)∧∀ i,i < N→∀ q,q < N→r.2 i q=aR (f i) (s.m i q)∧r.2 i (N+q)=aR (f i) (s.b i q)
theorem amt {N j:Nat} {m x:Mx} {f:Nat→UInt8} (hj:j < N) (hf:∀ i,i < N→f i≠0) (h:∀ i,i < N→x i j=aR (f i) (m i j)):∀ k a,a+k≤N→dZ x j k a=dZ m j k a
 | 0,_,_=>rfl
 | k+1,a,ha=>by
  unfold dZ
  rw [amt hj hf h k (a+1) (by omega)]
  have hx:=h a (by omega)
  by_cases h0:m a j=0
  ·rw [if_neg (show ¬ x a j≠0 by rw [hx,h0,qV];simp),if_neg (show ¬ m a j≠0 by simp [h0])]
  ·rw [if_pos (show x a j≠0 by rw [hx];exact aes (hf a (by omega)) h0),if_pos h0]
theorem as7 {N j:Nat} {s:zW} {r:Nat×Mx} (hj:j < N) (hle:s.n≤N) (h:agU N s r):agU N (sC N j s) (sE N j r):=by
 obtain ⟨hn,f,hf,hr⟩:=h
 obtain ⟨rn,x⟩:=r
 simp only at hn hr
 subst hn
 have hpv:dZ x j (N - s.n) s.n=dZ s.m j (N - s.n) s.n:=amt hj hf (fun i hi=>(hr i hi j hj).1) _ _ (by omega)
 have hp:=x3 s.m j (N - s.n) s.n
 have hpa:=acO s.m j (N - s.n) s.n
 unfold sC sE
 simp only [hpv]
 generalize dZ s.m j (N - s.n) s.n=a at *
 by_cases ha:N≤a
 ·rw [if_pos ha,if_pos ha]
  exact ⟨rfl,f,hf,hr⟩
 ·rw [if_neg ha,if_neg ha]
  have hnN:s.n < N:=by omega
  have haN:a < N:=by omega
  have hc:s.m a j≠0:=hpa (by omega)
  -- swapped
  have hsw:∃ g:Nat→UInt8,(∀ i,i < N→g i≠0)∧∀ i,i < N→∀ q,q < N→eI x a s.n i q=aR (g i) (eI s.m a s.n i q)∧eI x a s.n i (N+q)=aR (g i) (eI s.b a s.n i q):=by
   refine ⟨fun i=>if i=a then f s.n else if i=s.n then f a else f i,fun i hi => ?_,fun i hi q hq => ?_⟩
   ·simp only
    split
    ·exact hf _ hnN
    ·split
     ·exact hf _ haN
     ·exact hf _ hi
   ·unfold eI
    by_cases e1:i=a
    ·simp only [if_pos e1];exact hr _ hnN q hq
    ·by_cases e2:i=s.n
     ·simp only [if_neg e1,if_pos e2];exact hr _ haN q hq
     ·simp only [if_neg e1,if_neg e2];exact hr _ hi q hq
  have hc1:eI s.m a s.n s.n j≠0:=by
   unfold eI
   by_cases e:s.n=a
   ·rw [if_pos e,e];exact hc
   ·rw [if_neg e,if_pos rfl];exact hc
  obtain ⟨g,hg,hrw⟩:=hsw
  generalize eI x a s.n=x1 at *
  generalize eI s.m a s.n=m1 at *
  generalize eI s.b a s.n=b1 at *
  have hgn:=hg _ hnN
  have hin:=qG hc1
  have hgi:cR (x1 s.n j)=aR (cR (g s.n)) (cR (m1 s.n j)):=by
   have e:=(hrw _ hnN j hj).1
   have h0:x1 s.n j≠0:=by rw [e];exact aes hgn hc1
   refine acN h0 ?_
   rw [qG h0,e]
   rw [show aR (aR (g s.n) (m1 s.n j)) (aR (cR (g s.n)) (cR (m1 s.n j)))=aR (aR (g s.n) (cR (g s.n))) (aR (m1 s.n j) (cR (m1 s.n j))) by ac_rfl,qG hgn,hin,uS]
  refine ⟨rfl,fun i=>if i=s.n then aR (g s.n) (m1 s.n j) else g i,fun i hi => ?_,fun i hi q hq => ?_⟩
  ·simp only
   split
   ·exact aes hgn hc1
   ·exact hg i hi
  ·obtain ⟨r1,r2⟩:=hrw i hi q hq
   obtain ⟨n1,n2⟩:=hrw _ hnN q hq
   obtain ⟨j1,_⟩:=hrw i hi j hj
   dsimp only
   unfold fN mE
   by_cases e:i=s.n
   ·subst e
    simp only [if_true]
    rw [n1,n2]
    constructor
    ·rw [show aR (aR (g s.n) (m1 s.n j)) (aR (m1 s.n q) (cR (m1 s.n j)))=aR (aR (g s.n) (m1 s.n q)) (aR (m1 s.n j) (cR (m1 s.n j))) by ac_rfl,hin,uS]
    ·rw [show aR (aR (g s.n) (m1 s.n j)) (aR (b1 s.n q) (cR (m1 s.n j)))=aR (aR (g s.n) (b1 s.n q)) (aR (m1 s.n j) (cR (m1 s.n j))) by ac_rfl,hin,uS]
   ·simp only [if_neg e,if_true]
    rw [hgi,j1,r1,r2,n1,n2,tT,tT]
    have hgv:=qG hgn
    constructor
    ·rw [show aR (aR (aR (g i) (m1 i j)) (aR (cR (g s.n)) (cR (m1 s.n j)))) (aR (g s.n) (m1 s.n q))=aR (aR (g s.n) (cR (g s.n))) (aR (g i) (aR (m1 i j) (aR (m1 s.n q) (cR (m1 s.n j))))) by ac_rfl,hgv,oZ]
    ·rw [show aR (aR (aR (g i) (m1 i j)) (aR (cR (g s.n)) (cR (m1 s.n j)))) (aR (g s.n) (b1 s.n q))=aR (aR (g s.n) (cR (g s.n))) (aR (g i) (aR (m1 i j) (aR (b1 s.n q) (cR (m1 s.n j))))) by ac_rfl,hgv,oZ]
theorem agV {N:Nat} (m b:Mx):∀ j,(gsol N m b j).n≤N
 | 0=>Nat.zero_le _
 | j+1=>by
  have ih:=agV (N:=N) m b j
  show (sC N j (gsol N m b j)).n≤N
  have hp:=x3 (gsol N m b j).m j (N - (gsol N m b j).n) (gsol N m b j).n
  unfold sC
  simp only
  split
  ·exact ih
  ·show (gsol N m b j).n+1≤N
   omega
def lL (N:Nat) (m:Mx):Mx:=fun i q=>if q < N then m i q else if q=N+i then 1 else 0
theorem agW {N:Nat} (m:Mx):∀ j,j≤N→agU N (gsol N m jE j) (rsol N (lL N m) j)
 | 0,_=>⟨rfl,fun _=>1,fun _ _=>(by decide:(1:UInt8)≠0),fun i hi q hq=>by
  show lL N m i q=aR 1 (m i q)∧lL N m i (N+q)=aR 1 (jE i q)
  unfold lL jE
  rw [oZ,oZ,if_pos hq,if_neg (by omega)]
  refine ⟨rfl, ?_⟩
  by_cases e:i=q
  ·rw [if_pos e,if_pos (by omega)]
  ·rw [if_neg e,if_neg (by omega)]⟩
 | j+1,h=>as7 (by omega) (agV m jE j) (agW m j (by omega))
theorem as8 {N:Nat} {M0:Mx} (hM:∀ x,kern N M0 x→∀ q,q < N→x q=0):(rsol N (lL N M0) N).1=N∧∀ i q,i < N→q < N→aR ((rsol N (lL N M0) N).2 i (N+q)) (cR ((rsol N (lL N M0) N).2 i i))=(gsol N M0 jE N).b i q:=by
 have h:=aex hM N (Nat.le_refl _)
 obtain ⟨hn,f,hf,hr⟩:=agW M0 N (Nat.le_refl _)
 refine ⟨hn.trans h.n,fun i q hi hq => ?_⟩
 have h1:=(hr i hi i hi).1
 have h2:=(hr i hi q hq).2
 rw [h.unit i i hi hi,if_pos rfl,uS] at h1
 rw [h1,h2,show aR (aR (f i) ((gsol N M0 jE N).b i q)) (cR (f i))=aR (aR (f i) (cR (f i))) ((gsol N M0 jE N).b i q) by ac_rfl,qG (hf i hi),oZ]
def fJ (k cell q:Nat):UInt8:=if cell < k then (if cell=q then 1 else 0) else cR (UInt8.ofNat cell ^^^ UInt8.ofNat q)
theorem amu {α:Type} (f:α→UInt8):∀ (a b:List α),kP (a++b) f=kP a f ^^^ kP b f
 | [],b=>(abm _).symm
 | x::a,b=>by rw [List.cons_append,oC,oC,amu f a b];ac_rfl
theorem amv (f:Nat→UInt8):∀ n,gD n f=kP (List.range n) f
 | 0=>rfl
 | n+1=>by
  rw [List.range_succ,amu,←amv f n]
  show gD n f ^^^ f n=gD n f ^^^ (f n ^^^ 0)
  rw [r7]
theorem amw {α:Type} (p:α→Bool) (f:α→UInt8):∀ (l:List α),(∀ a∈l,p a=false→f a=0)→kP l f=kP (l.filter p) f
 | [],_=>rfl
 | a::l,h=>by
  have ih:=amw p f l fun b hb=>h b (by simp [hb])
  rw [List.filter_cons,oC]
  split
  ·rw [oC,ih]
  ·rename_i hp
   rw [h a (by simp) (by simpa using hp),abm,ih]
theorem amx {α β:Type} (g:α→β) (f:β→UInt8):∀ l:List α,kP (l.map g) f=kP l fun a=>f (g a)
 | []=>rfl
 | a::l=>by rw [List.map_cons,oC,oC,amx g f l]
theorem agX:∀ (l:List Nat),l.Nodup→(∀ a∈l,a < 256)→(l.map UInt8.ofNat).Nodup
 | [],_,_ => .nil
 | a::l,h,hb=>by
  rw [List.nodup_cons] at h
  rw [List.map_cons,List.nodup_cons]
  refine ⟨fun hm => ?_,agX l h.2 fun b hb2=>hb b (by simp [hb2])⟩
  obtain ⟨b,hb1,he⟩:=List.mem_map.1 hm
  have:=congrArg UInt8.toNat he
  rw [mD (hb b (by simp [hb1])),mD (hb a (by simp))] at this
  exact h.1 (this ▸ hb1)
theorem agY {α:Type} (p:α→Bool):∀ l:List α,(l.filter p).length+(l.filter fun a => !p a).length=l.length
 | []=>rfl
 | a::l=>by
  have:=agY p l
  rw [List.filter_cons,List.filter_cons]
  cases h:p a <;> simp <;> omega
theorem mds {k:Nat} {at_:List Nat} (hk:at_.length=k) (hn:at_.Nodup) (hb:∀ a∈at_,a < 256) {x:Nat→UInt8} (h:kern k (fun t q=>fJ k (at_.getD t 0) q) x):∀ q,q < k→x q=0:=by
 have heq:∀ a∈at_,gD k (fun q=>aR (fJ k a q) (x q))=0:=by
  intro a ha
  obtain ⟨t,ht⟩:=List.getElem?_of_mem ha
  have htl:=(List.getElem?_eq_some_iff.1 ht).1
  have:=h t (by omega)
  simp only [List.getD_eq_getElem?_getD,ht,Option.getD_some] at this
  exact this
 have h1:∀ q,q < k→q∈at_→x q=0:=by
  intro q hq hm
  have:=heq q hm
  rw [abn (k:=q) k hq fun i _ hne=>by unfold fJ;rw [if_pos hq,if_neg (fun e=>hne e.symm),tS]] at this
  unfold fJ at this
  rw [if_pos hq,if_pos rfl,oZ] at this
  exact this
 have hlen:((List.range k).filter fun q => !decide (q∈at_)).length=(at_.filter fun a => !decide (a < k)).length:=by
  have s1:=agY (fun q=>decide (q∈at_)) (List.range k)
  have s2:=agY (fun a=>decide (a < k)) at_
  rw [List.length_range] at s1
  have:((List.range k).filter fun q=>decide (q∈at_)).length=(at_.filter fun a=>decide (a < k)).length:=by
   apply List.Perm.length_eq
   rw [List.perm_ext_iff_of_nodup (List.nodup_range.filter _) (hn.filter _)]
   intro a
   simp only [List.mem_filter,List.mem_range,decide_eq_true_eq]
   exact And.comm
  omega
 have hbk:∀ q,q < k→q < 256:=by
  intro q hq
  have:k≤256:=by
   have hsub:at_.length≤(List.range 256).length:=hn.length_le_of_subset fun a ha=>List.mem_range.2 (hb a ha)
   rw [List.length_range] at hsub
   omega
  omega
 have hc:=amr (((List.range k).filter fun q => !decide (q∈at_)).map UInt8.ofNat) ((at_.filter fun a => !decide (a < k)).map UInt8.ofNat) (fun w=>x w.toNat) (by rw [List.length_map,List.length_map];exact hlen)
  (agX _ (List.nodup_range.filter _) fun a ha=>hbk a (List.mem_range.1 (List.mem_filter.1 ha).1))
  (agX _ (hn.filter _) fun a ha=>hb a (List.mem_filter.1 ha).1)
  (fun z hz w hw e=>by
   obtain ⟨a,ha,rfl⟩:=List.mem_map.1 hz
   obtain ⟨b,hb2,rfl⟩:=List.mem_map.1 hw
   rw [List.mem_filter] at ha hb2
   have hbl:=List.mem_range.1 hb2.1
   have:=congrArg UInt8.toNat e
   rw [mD (hb a ha.1),mD (hbk b hbl)] at this
   have h2:=ha.2
   simp at h2
   omega)
  (fun z hz=>by
   obtain ⟨a,ha,rfl⟩:=List.mem_map.1 hz
   rw [List.mem_filter] at ha
   have hak:¬ a < k:=by simpa using ha.2
   rw [amx]
   have h2:=heq a ha.1
   rw [amv,amw (fun q => !decide (q∈at_)) _ _ fun q hq hp=>by rw [h1 q (List.mem_range.1 hq) (by simpa using hp),qV]] at h2
   rw [←h2]
   refine agS _ fun q hq => ?_
   have hql:=List.mem_range.1 (List.mem_filter.1 hq).1
   unfold fJ
   rw [if_neg hak,mD (hbk q hql)]
   exact oY _ _)
 intro q hq
 by_cases hm:q∈at_
 ·exact h1 q hq hm
 ·have:=hc (UInt8.ofNat q) (List.mem_map.2 ⟨q,List.mem_filter.2 ⟨List.mem_range.2 hq,by simp [hm]⟩,rfl⟩)
  rw [mD (hbk q hq)] at this
  exact this
def lV (N:Nat) (M0:Mx):Mx:=(gsol N M0 jE N).b
def aey (N:Nat) (M0:Mx):Prop:=∀ x,kern N M0 x→∀ q,q < N→x q=0
theorem as9 {N i:Nat} (hi:i < N) (x:Nat→UInt8):(gD N fun q=>aR (if i=q then 1 else 0) (x q))=x i:=by
 rw [abn (k:=i) N hi fun q _ hne=>by rw [if_neg (fun e=>hne e.symm),tS],if_pos rfl,oZ]
def kQ (k:Nat) (at_:List Nat):Mx:=fun t q=>fJ k (at_.getD t 0) q
theorem amy {k:Nat} {at_:List Nat} (hk:at_.length=k) (hn:at_.Nodup) (hb:∀ a∈at_,a < 256):aey k (kQ k at_):=fun x h=>mds hk hn hb h
def kC (k:Nat) (at_:List Nat) (C:Mx):Mx:=fun i p=>gD k fun t=>aR (lV k (kQ k at_) i t) (C (at_.getD t 0) p)
def oG (k:Nat) (D:Mx):Mx:=fun i p=>gD k fun q=>aR (fJ k i q) (D q p)
def abo (k:Nat) (at_:List Nat) (C:Mx):Mx:=oG k (kC k at_ C)
theorem ata {k:Nat} (D:Mx) {i:Nat} (hi:i < k) (p:Nat):oG k D i p=D i p:=by
 unfold oG
 rw [x2 k fun q hq=>by unfold fJ;rw [if_pos hi],as9 hi]
end Go.Gf
set_option maxRecDepth 10000
namespace Go.Proofs.YtaekhhlgnbhnpaaGreat
open Go Go.Tw Go.Proofs Go.Gf
theorem amz {P:Program} {k:IntKind} {a:Int}:yM P .neg (.val (.int k a))=some (.val (.int k (k.wrap (-a)))):=by
 simp [yM,Op.unary,Op.intArith,cT,Bind.bind,Sem.bind,Pure.pure]
theorem abp (a b:UInt8):vL .u8 (a.toNat:Int) (b.toNat:Int)=((a ^^^ b).toNat:Int):=by
 rw [aqy (jD a) (jD b),UInt8.toNat_xor]
theorem agZ (a b:UInt8):aX Tryz.prog 300 [aU a,aU b] ⟨aU (a ^^^ b),[]⟩:=by
 refine bE follows Tryz.func300 (by unfold Tryz.f300;rfl) (by unfold Tryz.f300;simp) aE (by unfold Tryz.f300;simp) (by kernel_rfl) ?_;unfold Tryz.f300
 simp only [↓pre,simprocAttr,aA,sx,aq9,aE,c8,aU,abp]
def twI (a:Int):Int:=vL .u8 (IntKind.u8.wrap (a*2 ^ min 1 8)) (rT .u8 29 (IntKind.u8.wrap (-(a / 2 ^ min 7 8))))
def amA:Bool:=(List.range 256).all fun a=>decide (twI (a:Int)=(xt a:Int)) && decide (xt a < 256)
theorem atb:amA=true:=by kernel_rfl
theorem amB (a:UInt8):twI (a.toNat:Int)=(xt a.toNat:Int)∧xt a.toNat < 256:=by
 have h:=atb
 unfold amA at h
 rw [List.all_eq_true] at h
 have h2:=h a.toNat (List.mem_range.2 (jD a))
 simpa using h2
def xtU (a:UInt8):UInt8:=UInt8.ofNat (xt a.toNat)
theorem ag0 (a:UInt8):(xtU a).toNat=xt a.toNat:=mD (amB a).2
theorem amC (a:UInt8):aX Tryz.prog 348 [aU a] ⟨aU (xtU a),[]⟩:=by
 have h:=(amB a).1
 unfold twI at h
 have h2:((xtU a).toNat:Int)=(xt a.toNat:Int):=by rw [ag0]
 refine bE follows Tryz.func348 (by unfold Tryz.f348;rfl) (by unfold Tryz.f348;simp) aE (by unfold Tryz.f348;simp) (by kernel_rfl) ?_;unfold Tryz.f348
 simp only [↓pre,simprocAttr,aA,sx,are,aE,c8,aL,aU,amz,IntKind.bits,h,h2]
def stI (c a b:Int):Int:=vL .u8 c (rT .u8 a (IntKind.u8.wrap (-(rT .u8 b 1))))
theorem aez (a b:UInt8):rT .u8 (a.toNat:Int) (b.toNat:Int)=((a &&& b).toNat:Int):=by
 have h:(a &&& b).toNat < 256:=jD _
 rw [UInt8.toNat_and] at h
 unfold rT
 rw [uE,uE,BitVec.toNat_and,BitVec.toNat_ofNat,BitVec.toNat_ofNat,UInt8.toNat_and]
 simp only [IntKind.bits]
 have h1:=jD a
 have h2:=jD b
 rw [Nat.mod_eq_of_lt (by omega),Nat.mod_eq_of_lt (by omega)]
 simp [IntKind.wrap,IntKind.bits,IntKind.signed]
 omega
theorem atc (c a b:UInt8):stI (c.toNat:Int) (a.toNat:Int) (b.toNat:Int)=((if b.toNat % 2=1 then c ^^^ a else c).toNat:Int):=by
 unfold stI
 have e1:rT .u8 (b.toNat:Int) 1=((b.toNat % 2:Nat):Int):=by
  have:=aez b 1
  rw [show ((1:UInt8).toNat:Int)=1 from rfl] at this
  rw [this,UInt8.toNat_and]
  show ((b.toNat &&& 1:Nat):Int)=_
  rw [Nat.and_one_is_mod]
 rw [e1]
 by_cases h:b.toNat % 2=1
 ·rw [if_pos h,h]
  have e2:IntKind.u8.wrap (-((1:Nat):Int))=((255:UInt8).toNat:Int):=by decide
  rw [e2,aez,abp]
  have:a &&& 255=a:=by
   apply UInt8.toNat_inj.1
   rw [UInt8.toNat_and]
   have:=jD a
   show a.toNat &&& 255=a.toNat
   have h8:=Nat.and_two_pow_sub_one_eq_mod a.toNat 8
   rw [show (2 ^ 8 - 1:Nat)=255 from rfl] at h8
   rw [h8]
   omega
  rw [this]
 ·rw [if_neg h,show b.toNat % 2=0 by omega]
  have e2:IntKind.u8.wrap (-((0:Nat):Int))=((0:UInt8).toNat:Int):=by decide
  rw [e2,aez,abp]
  have:a &&& 0=0:=by
   apply UInt8.toNat_inj.1
   rw [UInt8.toNat_and]
   show a.toNat &&& 0=0
   exact Nat.and_zero _
  rw [this,r7]
def hfU (b:UInt8):UInt8:=UInt8.ofNat (b.toNat / 2)
theorem ag1 (b:UInt8):(hfU b).toNat=b.toNat / 2:=mD (by have:=jD b;omega)
theorem ag2:∀ (n a:Nat),gm n a 0=0
 | 0,_=>by unfold gm;rfl
 | n+1,a=>by unfold gm;rw [if_neg (by decide),Nat.zero_div,ag2 n,Nat.xor_self]
theorem ag3 (a b:UInt8):aX Tryz.prog 330 [aU a,aU b] ⟨aU (aR a b),[]⟩:=by
 have ht:=amC
 have hst:=atc
 unfold stI at hst
 refine bE follows Tryz.func330 (by unfold Tryz.f330;rfl) (by unfold Tryz.f330;simp) aE (by unfold Tryz.f330;simp) (by kernel_rfl) ?_;unfold Tryz.f330
 simp only [↓pre,simprocAttr,aA,sx,aeb,aE]
 rw [b9]
 refine cA (fun q e m=>∃ x y z:UInt8,y.toNat < 2 ^ q∧e 0=aU x∧e 1=aU y∧e 5=aU z∧aB (z.toNat ^^^ gm q x.toNat y.toNat=(aR a b).toNat)) 8 ⟨a,b,0,jD b,rfl,rfl,rfl,⟨?_⟩⟩ ?_
 ·rw [r6];exact Nat.zero_xor _
 rintro q e m ⟨x,y,z,hy,e0,e1,e5,hJ⟩
 by_cases h0:y=0
 ·subst h0
  have hz:z=aR a b:=by
   apply UInt8.toNat_inj.1
   have:=hJ.out
   rw [show (0:UInt8).toNat=0 from rfl,ag2,Nat.xor_zero] at this
   exact this
  rw [←hz]
  simp only [↓pre,simprocAttr,aA,sx,aeb,aE,e0,e1,e5,aU,show (0:UInt8).toNat=0 from rfl,Int.natCast_zero,eq_self]
 ·have hy0:¬ ((y.toNat:Nat):Int)=0:=fun h=>h0 (UInt8.toNat_inj.1 (by show y.toNat=0;omega))
  have hq:q≠0:=fun e=>by subst e;exact hy0 (by simp at hy;omega)
  obtain ⟨p,rfl⟩:∃ p,q=p+1:=⟨q - 1,by omega⟩
  have hs:=hst z x y
  have hh:((y.toNat:Nat):Int) / 2 ^ min 1 8=((hfU y).toNat:Int):=by rw [ag1];simp
  replace hy:=aB.mk hy
  simp only [↓pre,simprocAttr,aA,sx,aeb,aE,e0,e1,e5,aU,hy0,c8,aL,amz,hs]
  refine aM (ht x) (by rfl) ?_;simp only [↓pre,simprocAttr,aA,sx,aeb,aE,e0,e1,e5,aU,hy0,c8,aL,IntKind.bits,hh]
  refine ⟨p,by omega,xtU x,hfU y,(if y.toNat % 2=1 then z ^^^ x else z), ?_,rfl,rfl,rfl,⟨?_⟩⟩
  ·have:=hy.out
   rw [ag1]
   rw [Nat.pow_succ] at this
   omega
  ·have:=hJ.out
   unfold gm at this
   rw [ag1,ag0,←this]
   by_cases h:y.toNat % 2=1
   ·rw [if_pos h,if_pos h,UInt8.toNat_xor,Nat.xor_assoc]
   ·rw [if_neg h,if_neg h,Nat.zero_xor]
def gR (f:Nat→Nat):List AV:=(List.range 256).map fun j => .val (.int .u8 (f j:Int))
theorem zY (f:Nat→Nat):(gR f).length=256:=by simp [gR]
theorem abq (f:Nat→Nat) {j:Nat} (h:j < 256):(gR f)[j]? = some (.val (.int .u8 (f j:Int))):=by
 unfold gR
 rw [List.getElem?_map,List.getElem?_range h]
 rfl
theorem amD {f g:Nat→Nat} {i:Nat} (hi:i < 256) (hg:∀ j,j < 256→g j=if j=i then g i else f j):cN (gR f) i [.val (.int .u8 (g i:Int))]=gR g:=by
 have hl:=zY f
 unfold cN
 apply List.ext_getElem?
 intro j
 by_cases hj:j < 256
 ·rw [abq g hj,List.append_assoc]
  have htl:((gR f).take i).length=i:=by rw [List.length_take,hl];omega
  by_cases h1:j < i
  ·rw [List.getElem?_append_left (by omega),List.getElem?_take_of_lt h1,abq f hj,hg j hj,if_neg (by omega)]
  ·rw [List.getElem?_append_right (by omega),htl]
   by_cases h2:j=i
   ·subst h2;rw [Nat.sub_self];rfl
   ·rw [List.getElem?_append_right (by simp;omega),List.getElem?_drop]
    simp only [List.length_cons,List.length_nil]
    rw [show i+(0+1)+(j - i - (0+1))=j by omega,abq f hj,hg j hj,if_neg h2]
 ·rw [List.getElem?_eq_none (by simp [hl];omega),List.getElem?_eq_none (by rw [zY];omega)]
def lM (n j:Nat):Nat:=if j < n then gE j else 0
def mF (n v:Nat):Nat:=if v≠0∧gL v < n then gL v else 0
theorem atd {n:Nat} (hn:n < 256):cN (gR (lM n)) n [.val (.int .u8 (gE n:Int))]=gR (lM (n+1)):=by
 have h:=amD (f:=lM n) (g:=lM (n+1)) hn fun j hj=>by
  unfold lM
  by_cases h:j=n
  ·rw [if_pos h,h]
  ·rw [if_neg h]
   by_cases h2:j < n
   ·rw [if_pos h2,if_pos (by omega)]
   ·rw [if_neg h2,if_neg (by omega)]
 rw [show lM (n+1) n=gE n by unfold lM;rw [if_pos (by omega)]] at h
 exact h
theorem ate {n:Nat} (hn:n < 255):cN (gR (mF n)) (gE n) [.val (.int .u8 (n:Int))]=gR (mF (n+1)):=by
 obtain ⟨h1,h2,h3⟩:=wD hn
 have h:=amD (f:=mF n) (g:=mF (n+1)) h3 fun v hv=>by
  unfold mF
  by_cases h:v=gE n
  ·rw [if_pos h,h]
  ·rw [if_neg h]
   by_cases h0:v=0
   ·rw [if_neg (by simp [h0]),if_neg (by simp [h0])]
   ·have:=aeq hv h0
    have hne:gL v≠n:=fun e=>h (by rw [←this.1,e])
    by_cases h4:gL v < n
    ·rw [if_pos ⟨h0,by omega⟩,if_pos ⟨h0,h4⟩]
    ·rw [if_neg (fun h=>by omega),if_neg (fun h=>h4 h.2)]
 rw [show mF (n+1) (gE n)=n by unfold mF;rw [h1,if_pos ⟨h2,by omega⟩]] at h
 exact h
def amE:Bool:=(List.range 255).all fun n=>xt (gE n) == gE ((n+1) % 255)
theorem atf:amE=true:=by kernel_rfl
def eU (n:Nat):UInt8:=UInt8.ofNat (gE (n % 255))
theorem ag4 (n:Nat):(eU n).toNat=gE (n % 255):=mD (wD (Nat.mod_lt _ (by decide))).2.2
theorem atg {n:Nat} (h:n < 255):xtU (eU n)=eU (n+1):=by
 apply UInt8.toNat_inj.1
 rw [ag0,ag4,ag4,Nat.mod_eq_of_lt h]
 have h1:=atf
 unfold amE at h1
 rw [List.all_eq_true] at h1
 exact eq_of_beq (h1 n (List.mem_range.2 h))
theorem abr {m:aF} {b:Nat} {k:eP} (h:m.at_ b=some k):m.put b (some k)=m:=by
 obtain ⟨n,a,mm⟩:=m
 unfold aF.put
 congr 1
 funext j
 simp only
 split
 ·rename_i e;rw [e];exact h.symm
 ·rfl
def acP:Nat→Bool:=fun d=>d != 0 && d != 1 && d != 17 && d != 18
theorem aeA (m:aF):aK Tryz.prog false m 338=some ⟨.ptr m.next 0,m.push ⟨gR (fun _=>0),338,.var,true⟩,none⟩:=by kernel_rfl
theorem ath:aX Tryz.prog 347 [] ⟨.tup [.agg (gR (lM 255)),.agg (gR (mF 255))],[]⟩:=by
 have ht:=amC
 have f0:(fun _=>0)=lM 0:=by funext j;simp [lM]
 have f1:(fun _=>0)=mF 0:=by funext j;simp [mF]
 refine bE follows Tryz.func347 (by unfold Tryz.f347;rfl) (by unfold Tryz.f347;simp) acP (by unfold Tryz.f347;simp) (by kernel_rfl) ?_;unfold Tryz.f347
 simp only [↓pre,simprocAttr,aA,sx,aef,acP,bne,aC,aI,aL,aJ,aG,aH,aeA,sr]
 rw [b9]
 refine cA (fun q e m=>∃ n,q+n=255∧e 0 = .ptr 0 0∧e 1 = .ptr 1 0∧e 2=aU (eU n)∧e 4=aD (n:Nat)∧m.at_ 0=some ⟨gR (lM n),338,.var,true⟩∧m.at_ 1=some ⟨gR (mF n),338,.var,true⟩) 255 ⟨0,rfl,rfl,rfl,rfl,rfl,by rw [←f0];rfl,by rw [←f1];rfl⟩ ?_
 rintro q e m ⟨n,hq,e0,e1,e2,e4,hm0,hm1⟩
 replace hq:=aB.mk hq
 have hl0:=zY (lM n)
 have hl1:=zY (mF n)
 by_cases hlt:n < 255
 ·have hlt':((n:Nat):Int) < 255:=by omega
  have w1:=cI (n:=n) (by omega)
  have hen:((eU n).toNat:Int)=(gE n:Int):=by rw [ag4,Nat.mod_eq_of_lt hlt]
  have hgl:=(wD hlt).2.2
  have p0:=atd (n:=n) (by omega)
  have p1:=ate hlt
  unfold cN at p0 p1
  simp only [List.length_cons,List.length_nil,Nat.zero_add] at p0 p1
  have hn1:n≤255:=by omega
  have hg1:gE n≤255:=by omega
  have hn256:n < 256:=by omega
  have hw:IntKind.u8.wrap ((n:Nat):Int)=((n:Nat):Int):=by simp [IntKind.wrap,IntKind.bits,IntKind.signed];omega
  have hnx:=atg hlt
  have hts:=ht (eU n)
  rw [hnx] at hts
  simp only [aU,hen] at hts e2
  replace hnx:=aB.mk hnx
  replace hen:=aB.mk hen
  simp only [↓pre,simprocAttr,aA,sx,aef,acP,bne,aC,aI,aL,aJ,aG,aH,aeA,e0,e1,e2,e4,hm0,hm1,hl0,hl1,hlt',hn256,hgl,hn1,hg1,p0,p1,hw,sr]
  refine aM (hts) (by rfl) ?_;simp only [↓pre,simprocAttr,aA,sx,aef,acP,bne,aC,aI,aL,aJ,aG,aH,aeA,e0,e1,e2,e4,w1,aU,sr]
  exact ⟨q - 1,by have:=hq.out;omega,n+1,by have:=hq.out;omega,rfl,rfl,rfl,rfl⟩
 ·have hlt':¬ ((n:Nat):Int) < 255:=by omega
  have hn:n=255:=by have:=hq.out;omega
  subst hn
  have ht0:(gR (lM 255)).take 256=gR (lM 255):=List.take_of_length_le (by omega)
  have ht1:(gR (mF 255)).take 256=gR (mF 255):=List.take_of_length_le (by omega)
  have hd0:(gR (lM 255)).drop 256=[]:=List.drop_eq_nil_of_le (by omega)
  have hd1:(gR (mF 255)).drop 256=[]:=List.drop_eq_nil_of_le (by omega)
  have hst:∀ f,∀ c∈gR f,yZ Tryz.prog c:=fun f c hc=>by
   unfold gR at hc
   obtain ⟨j,_,rfl⟩:=List.mem_map.1 hc
   exact adJ _
  have hc0:=fun m=>adK (P:=Tryz.prog) m 3 [] [] _ (hst (lM 255))
  have hc1:=fun m=>adK (P:=Tryz.prog) m 3 [] [] _ (hst (mF 255))
  replace hst:=aB.mk hst
  have hp0:=abr hm0
  have hp1:=abr hm1
  simp only [↓pre,simprocAttr,aA,sx,aef,acP,bne,aC,aI,aL,aJ,aG,aH,aeA,e0,e1,e2,e4,hm0,hm1,hl0,hl1,hlt',ht0,hd0,ht1,hd1,hp0,hp1,hc0,hc1,sr]
theorem amF {m:aF}:∀ (cs:List AV),(∀ c∈cs,∃ v,c = .val v)→fzs m cs=some (cs,m)
 | [],_=>by unfold fzs;rfl
 | c::cs,h=>by
  obtain ⟨v,rfl⟩:=h c (by simp)
  have ih:=amF (m:=m) cs fun x hx=>h x (by simp [hx])
  unfold fzs fz
  simp [ih]
theorem aeB (m:aF):aK Tryz.prog true m 338=some ⟨.ptr m.next 0,m.push ⟨gR (fun _=>0),338,.hole,true⟩,none⟩:=by kernel_rfl
theorem ati (a:UInt8):aX Tryz.prog 329 [aU a,aD (-1)] ⟨.tup [aU (if a=0 then 0 else cR a),aD (if a=0 then 10 else 0)],[]⟩:=by
 have ht:=ath
 by_cases h0:a=0
 ·subst h0
  rw [if_pos rfl,if_pos rfl]
  refine bE follows Tryz.func329 (by unfold Tryz.f329;rfl) (by unfold Tryz.f329;simp) aE (by unfold Tryz.f329;simp) (by kernel_rfl) ?_;unfold Tryz.f329
  simp only [↓pre,post,↓reduceIte,Nat.reduceEqDiff,Nat.reduceAdd,Nat.reduceMul,Nat.reduceSub,Nat.reduceLeDiff,Nat.reduceMod,Nat.reduceDiv,reduceCtorEq,Nat.reduceLT,Nat.reduceGT,Nat.reduceBEq,sb,Int.reduceEq,vI,vJ,cL,c9,aD,aA,qO,i5,kV,rK,pM,mL,pK,jZ,mY,oP,rJ,fX,cN,AV.cells,fK,dF,fzs,fz,pO,iT,canon,f9,shift,gS,d8,gG,acC,aE,aU,show (0:UInt8).toNat=0 from rfl,Int.natCast_zero,eq_self,l6,l7,Int.reduceNeg,Int.reduceLT]
 ·rw [if_neg h0,if_neg h0]
  have hn:a.toNat≠0:=fun h=>h0 (UInt8.toNat_inj.1 h)
  have ha0:¬ ((a.toNat:Nat):Int)=0:=by omega
  have hal:=jD a
  obtain ⟨g1,g2⟩:=aeq hal hn
  have hw:(gR (mF 255))[a.toNat]? = some (.val (.int .u8 (gL a.toNat:Int))):=by
   rw [abq _ hal]
   unfold mF
   rw [if_pos ⟨hn,g2⟩]
  have hiv:((cR a).toNat:Int)=(gE ((255 - gL a.toNat) % 255):Int):=by
   unfold cR
   rw [mD (agO _)]
   rfl
  have hr1:Int.tmod (-1) 255 = -1:=by decide
  have hc:IntKind.i64.wrap ((gL a.toNat:Nat):Int)=((gL a.toNat:Nat):Int):=dT (by omega)
  have hm:IntKind.i64.wrap (((gL a.toNat:Nat):Int) * -1) = -((gL a.toNat:Nat):Int):=by
   rw [show ((gL a.toNat:Nat):Int) * -1 = -((gL a.toNat:Nat):Int) by omega]
   exact eD (by omega) (by omega)
  have hr2:Int.tmod (-((gL a.toNat:Nat):Int)) 255 = -((gL a.toNat:Nat):Int):=by
   rw [Int.neg_tmod,Int.tmod_eq_of_lt (by omega) (by omega)]
  generalize cR a=iv at *
  generalize hL:gL a.toNat=L at *
  replace hL:=aB.mk hL
  replace g1:=aB.mk g1
  have h255:(255:Int)≠0:=by decide
  have hl0:=zY (lM 255)
  have hl1:=zY (mF 255)
  have hnx:aF.empty.next=0:=rfl
  have hsv:∀ (f:Nat→Nat) (k:Nat),gS k (gR f)=gR f:=fun f k=>by
   have key:∀ l:List Nat,gS k (l.map fun j=>AV.val (.int .u8 (f j:Int)))=l.map fun j=>AV.val (.int .u8 (f j:Int)):=by
    intro l
    induction l with
    | nil=>unfold gS;rfl
    | cons a l ih=>rw [List.map_cons];unfold gS;rw [ih];rfl
   exact key _
  have hlz:=zY (fun _=>0)
  have hfz:∀ (f:Nat→Nat) (m:aF),fzs m (gR f)=some (gR f,m):=fun f m=>amF _ fun c hc=>by
   unfold gR at hc
   obtain ⟨j,_,rfl⟩:=List.mem_map.1 hc
   exact ⟨_,rfl⟩
  refine bE follows Tryz.func329 (by unfold Tryz.f329;rfl) (by unfold Tryz.f329;simp) aE (by unfold Tryz.f329;simp) (by kernel_rfl) ?_;unfold Tryz.f329
  simp only [↓pre,post,↓reduceIte,Nat.reduceEqDiff,Nat.reduceAdd,Nat.reduceMul,Nat.reduceSub,Nat.reduceLeDiff,Nat.reduceMod,Nat.reduceDiv,reduceCtorEq,Nat.reduceLT,Nat.reduceGT,Nat.reduceBEq,sb,Int.reduceEq,vI,vJ,cL,c9,aD,aA,qO,i5,kV,rK,pM,mL,pK,jZ,mY,oP,rJ,fX,cN,AV.cells,fK,dF,fzs,fz,pO,iT,canon,f9,shift,gS,d8,gG,acC,aE,aU,aC,aI,aL,aeB,aJ,eq_self,aG,aH,ha0,l6,l7,Nat.mul_one,hl0,hl1,dH,cW,hlz,hfz,hsv,hnx]
  refine aM (ht) (by rfl) ?_;simp only [↓pre,post,↓reduceIte,Nat.reduceEqDiff,Nat.reduceAdd,Nat.reduceMul,Nat.reduceSub,Nat.reduceLeDiff,Nat.reduceMod,Nat.reduceDiv,reduceCtorEq,Nat.reduceLT,Nat.reduceGT,Nat.reduceBEq,sb,Int.reduceEq,vI,vJ,cL,c9,aD,aA,qO,i5,kV,rK,pM,mL,pK,jZ,mY,oP,rJ,fX,cN,AV.cells,fK,dF,fzs,fz,pO,iT,canon,f9,shift,gS,d8,gG,acC,aE,aU,aC,aI,aL,aeB,aJ,eq_self,aG,aH,ha0,l6,l7,Nat.mul_one,hl0,hl1,dH,cW,hlz,hfz,hsv,hnx]
  by_cases hL0:L=0
  ·subst hL0
   have hk:¬ -(((0:Nat):Nat):Int) < 0:=by omega
   have hpw:(gR (lM 255))[0]? = some (.val (.int .u8 ((1:Nat):Int))):=by
    rw [abq _ (by decide)]
    have:lM 255 0=1:=by kernel_rfl
    rw [this]
   have e1:gE ((255 - 0) % 255)=1:=by kernel_rfl
   rw [e1] at hiv
   rw [hiv]
   have z1 : -(((0:Nat):Nat):Int)=0:=by decide
   rw [z1] at hm hr2 hk
   simp only [↓pre,post,↓reduceIte,Nat.reduceEqDiff,Nat.reduceAdd,Nat.reduceMul,Nat.reduceSub,Nat.reduceLeDiff,Nat.reduceMod,Nat.reduceDiv,reduceCtorEq,Nat.reduceLT,Nat.reduceGT,Nat.reduceBEq,sb,Int.reduceEq,vI,vJ,cL,c9,aD,aA,qO,i5,kV,rK,pM,mL,pK,jZ,mY,oP,rJ,fX,cN,AV.cells,fK,dF,fzs,fz,pO,iT,canon,f9,shift,gS,d8,gG,acC,aE,aU,aC,aI,aL,aeB,aJ,eq_self,aG,aH,ha0,l6,l7,Nat.mul_one,hl0,hl1,dH,cW,hlz,hfz,hsv,hnx,hal,hw,hc,hm,hr1,hr2,h255,hk,hpw,z1,Int.reduceLT]
  ·have hk : -((L:Nat):Int) < 0:=by omega
   have hadd:IntKind.i64.wrap (-((L:Nat):Int)+255)=((255 - L:Nat):Int):=by
    rw [show -((L:Nat):Int)+255=((255 - L:Nat):Int) by omega]
    exact dT (by omega)
   have hmod:(255 - L) % 255=255 - L:=Nat.mod_eq_of_lt (by omega)
   have hlt:255 - L < 256:=by omega
   have hpw:(gR (lM 255))[255 - L]? = some (.val (.int .u8 (gE (255 - L):Int))):=by
    rw [abq _ hlt]
    unfold lM
    rw [if_pos (by omega)]
   rw [hmod] at hiv
   rw [hiv]
   replace hmod:=aB.mk hmod
   simp only [↓pre,post,↓reduceIte,Nat.reduceEqDiff,Nat.reduceAdd,Nat.reduceMul,Nat.reduceSub,Nat.reduceLeDiff,Nat.reduceMod,Nat.reduceDiv,reduceCtorEq,Nat.reduceLT,Nat.reduceGT,Nat.reduceBEq,sb,Int.reduceEq,vI,vJ,cL,c9,aD,aA,qO,i5,kV,rK,pM,mL,pK,jZ,mY,oP,rJ,fX,cN,AV.cells,fK,dF,fzs,fz,pO,iT,canon,f9,shift,gS,d8,gG,acC,aE,aU,aC,aI,aL,aeB,aJ,eq_self,aG,aH,ha0,l6,l7,Nat.mul_one,hl0,hl1,dH,cW,hlz,hfz,hsv,hnx,hal,hw,hc,hm,hr1,hr2,h255,hk,hpw,hadd,hlt]
theorem amG (a:UInt8):aX Tryz.prog 299 [aU a] ⟨.tup [aU (if a=0 then 0 else cR a),aD (if a=0 then 10 else 0)],[]⟩:=by
 have h:=ati a
 generalize (if a=0 then 0 else cR a)=x at *
 generalize (if a=0 then (10:Int) else 0)=y at *
 refine bE follows Tryz.func299 (by unfold Tryz.f299;rfl) (by unfold Tryz.f299;simp) aE (by unfold Tryz.f299;simp) (by kernel_rfl) ?_;unfold Tryz.f299
 simp only [↓pre,post,↓reduceIte,Nat.reduceEqDiff,Nat.reduceAdd,Nat.reduceMul,Nat.reduceSub,Nat.reduceLeDiff,Nat.reduceMod,Nat.reduceDiv,reduceCtorEq,Nat.reduceLT,Nat.reduceGT,Nat.reduceBEq,sb,Int.reduceEq,vI,vJ,cL,c9,aD,aA,qO,i5,kV,rK,pM,mL,pK,jZ,mY,oP,rJ,fX,cN,AV.cells,fK,dF,fzs,fz,pO,iT,canon,f9,shift,gS,d8,gG,alD,aE,aU]
 refine aM (h) (by rfl) ?_;simp only [↓pre,post,↓reduceIte,Nat.reduceEqDiff,Nat.reduceAdd,Nat.reduceMul,Nat.reduceSub,Nat.reduceLeDiff,Nat.reduceMod,Nat.reduceDiv,reduceCtorEq,Nat.reduceLT,Nat.reduceGT,Nat.reduceBEq,sb,Int.reduceEq,vI,vJ,cL,c9,aD,aA,qO,i5,kV,rK,pM,mL,pK,jZ,mY,oP,rJ,fX,cN,AV.cells,fK,dF,fzs,fz,pO,iT,canon,f9,shift,gS,d8,gG,alD,aE,aU]
def tab (w:Nat) (f:Nat→UInt8):List UInt8:=(List.range w).map f
theorem aeC (w:Nat) (f:Nat→UInt8):(tab w f).length=w:=by simp [tab]
theorem atj {w:Nat} (f:Nat→UInt8) {j:Nat} (h:j < w):(tab w f)[j]? = some (f j):=by
 unfold tab
 rw [List.getElem?_map,List.getElem?_range h]
 rfl
theorem atk {w:Nat} {f g:Nat→UInt8} (h:∀ j,j < w→f j=g j):tab w f=tab w g:=by
 unfold tab
 apply List.map_congr_left
 intro j hj
 exact h j (List.mem_range.1 hj)
def bA (w:Nat) (f:Nat→UInt8):List AV:=(tab w f).map aU
theorem fC (w:Nat) (f:Nat→UInt8):(bA w f).length=w:=by simp [bA,aeC]
theorem iN {w:Nat} (f:Nat→UInt8) {j:Nat} (h:j < w):(bA w f)[j]? = some (aU (f j)):=by
 unfold bA
 rw [List.getElem?_map,atj f h]
 rfl
theorem sF {w:Nat} {f g:Nat→UInt8} (h:∀ j,j < w→f j=g j):bA w f=bA w g:=by unfold bA;rw [atk h]
theorem x4 {w:Nat} {f g:Nat→UInt8} {i:Nat} (hi:i < w) (hg:∀ j,j < w→g j=if j=i then g i else f j):cN (bA w f) i [aU (g i)]=bA w g:=by
 have hl:=fC w f
 unfold cN
 apply List.ext_getElem?
 intro j
 by_cases hj:j < w
 ·rw [iN g hj,List.append_assoc]
  have htl:((bA w f).take i).length=i:=by rw [List.length_take,hl];omega
  by_cases h1:j < i
  ·rw [List.getElem?_append_left (by omega),List.getElem?_take_of_lt h1,iN f hj,hg j hj,if_neg (by omega)]
  ·rw [List.getElem?_append_right (by omega),htl]
   by_cases h2:j=i
   ·subst h2;rw [Nat.sub_self];rfl
   ·rw [List.getElem?_append_right (by simp;omega),List.getElem?_drop]
    simp only [List.length_cons,List.length_nil]
    rw [show i+(0+1)+(j - i - (0+1))=j by omega,iN f hj,hg j hj,if_neg h2]
 ·rw [List.getElem?_eq_none (by simp [hl];omega),List.getElem?_eq_none (by rw [fC];omega)]
structure sG (v:AV) (n w:Nat) (M:Mx) (cells:List AV):Prop where
 rd:bC v n cells
 at_:∀ i,i < n→∃ a x,cells[i]? = some a∧bC a w (bA w (M i)++x)
structure gI (v:AV) (L:List (List UInt8)) (cells:List AV):Prop where
 rd:bC v L.length cells
 at_:∀ (i:Nat) (b:List UInt8),L[i]? = some b→∃ a x,cells[i]? = some a∧bC a b.length (b.map aU++x)
theorem sG.rows {v:AV} {n w:Nat} {M:Mx} {cells:List AV} (h:sG v n w M cells):gI v ((List.range n).map fun i=>tab w (M i)) cells:=by
 refine ⟨by simpa using h.rd,fun i b hb => ?_⟩
 have hi:i < n:=by have:=(List.getElem?_eq_some_iff.1 hb).1;simpa using this
 rw [List.getElem?_map,List.getElem?_range hi] at hb
 cases hb
 obtain ⟨a,x,h1,h2⟩:=h.at_ i hi
 exact ⟨a,x,h1,by rw [aeC];exact h2⟩
theorem atl (v:AV) (n w:Nat) (M:Mx) (cells:List AV) (hv:sG v n w M cells) (hn:1≤n) (hn2:n≤32) (hw:1≤w) (hw2:w≤32):aX Tryz.prog 325 [v] ⟨aD 0,[]⟩:=by
 have hp:=hv.rd.plain
 have k1:¬ ((n:Nat):Int) < 1:=by omega
 have k2:¬ (32:Int) < ((n:Nat):Int):=by omega
 have k3:¬ ((w:Nat):Int) < 1:=by omega
 have k4:¬ (32:Int) < ((w:Nat):Int):=by omega
 have hn0:0 < n:=by omega
 obtain ⟨a0,x0,hc0,hr0⟩:=hv.at_ 0 (by omega)
 refine bE follows Tryz.func325 (by unfold Tryz.f325;rfl) (by unfold Tryz.f325;simp) aE (by unfold Tryz.f325;simp) (by kernel_rfl) ?_;unfold Tryz.f325
 simp only [↓pre,simprocAttr,aA,sx,ags,aE,aC,aI,hv.rd.len',k1,k2,sr]
 rw [b9]
 refine cA (fun q e m=>∃ i,q+i=n∧e 0=v∧e 13=v∧e 14=aD (n:Nat)∧e 15=aD (i:Nat)) n ⟨0,by omega,rfl,rfl,rfl,rfl⟩ ?_
 rintro q e m ⟨i,hq,e0,e13,e14,e15⟩
 replace hq:=aB.mk hq
 by_cases hlt:i < n
 ·have hlt':((i:Nat):Int) < ((n:Nat):Int):=by omega
  have w1:=cI (n:=i) (by omega)
  obtain ⟨a,x,hc,hr⟩:=hv.at_ i hlt
  simp only [↓pre,simprocAttr,aA,sx,ags,aE,aC,aI,e0,e13,e14,e15,hv.rd.len',hv.rd.addr',hlt,hlt',hc,hr.len',hn0,hc0,hr0.len',k3,k4,w1,sr]
  exact ⟨q - 1,by have:=hq.out;omega,i+1,by have:=hq.out;omega,rfl⟩
 ·have hlt':¬ ((i:Nat):Int) < ((n:Nat):Int):=by omega
  simp only [↓pre,simprocAttr,aA,sx,ags,aE,aC,aI,e0,e13,e14,e15,hlt',sr]
theorem x5 {n:Nat} (h:n < 256):IntKind.u8.wrap ((n:Nat):Int)=((UInt8.ofNat n).toNat:Int):=by
 rw [mD h]
 simp [IntKind.wrap,IntKind.bits,IntKind.signed]
 omega
theorem atm (i j:Nat):aX Tryz.prog 297 [aD (i:Nat),aD (j:Nat)] ⟨aU (jE i j),[]⟩:=by
 unfold jE
 by_cases h:i=j
 ·have h':((i:Nat):Int)=((j:Nat):Int):=by omega
  rw [if_pos h]
  refine bE follows Tryz.func297 (by unfold Tryz.f297;rfl) (by unfold Tryz.f297;simp) aE (by unfold Tryz.f297;simp) (by kernel_rfl) ?_;unfold Tryz.f297
  simp only [↓pre,simprocAttr,aA,sx,alC,aE,h']
  rfl
 ·have h':¬ ((i:Nat):Int)=((j:Nat):Int):=by omega
  rw [if_neg h]
  refine bE follows Tryz.func297 (by unfold Tryz.f297;rfl) (by unfold Tryz.f297;simp) aE (by unfold Tryz.f297;simp) (by kernel_rfl) ?_;unfold Tryz.f297
  simp only [↓pre,simprocAttr,aA,sx,alC,aE,h']
  rfl
def gV (k:Nat):Mx:=fun i j=>fJ k (k+i) j
theorem atn (k i j:Nat) (hk:k+i < 256) (hj:j < k):aX Tryz.prog 298 [aD (i:Nat),aD (j:Nat),.tptr 0 [aD (k:Nat)]] ⟨aU (gV k i j),[]⟩:=by
 have hA:=agZ (UInt8.ofNat (k+i)) (UInt8.ofNat j)
 have hI:=amG (UInt8.ofNat (k+i) ^^^ UInt8.ofNat j)
 have hne:UInt8.ofNat (k+i) ^^^ UInt8.ofNat j≠0:=uT fun e=>by
  have:=congrArg UInt8.toNat e
  rw [mD hk,mD (by omega)] at this
  omega
 rw [if_neg hne,if_neg hne] at hI
 have hM:gV k i j=cR (UInt8.ofNat (k+i) ^^^ UInt8.ofNat j):=by unfold gV fJ;rw [if_neg (by omega)]
 rw [hM]
 have w1:=x5 hk
 have w2:=x5 (n:=j) (by omega)
 have wa:IntKind.i64.wrap (((k:Nat):Int)+((i:Nat):Int))=((k+i:Nat):Int):=by rw [←Int.natCast_add];exact dT (by omega)
 replace hne:=aB.mk hne
 replace hM:=aB.mk hM
 generalize UInt8.ofNat (k+i)=x at *
 generalize UInt8.ofNat j=y at *
 simp only [aU] at hA hI
 refine bE follows Tryz.func298 (by unfold Tryz.f298;rfl) (by unfold Tryz.f298;simp) aE (by unfold Tryz.f298;simp) (by kernel_rfl) ?_;unfold Tryz.f298
 simp only [↓pre,simprocAttr,aA,sx,agq,aE,aL,wa,w1,w2,aU]
 refine aM (hA) (by rfl) ?_;simp only [↓pre,simprocAttr,aA,sx,agq,aE,aL,aU];refine aM (hI) (by rfl) ?_;simp only [↓pre,simprocAttr,aA,sx,agq,aE,aL,aU]
structure dG (m:aF) (b n w t:Nat) (fl:Bool) (β:Nat→Nat) (M:Mx):Prop where
 row:∃ cells,m.at_ b=some ⟨cells,52,.var,true⟩∧cells.length=n∧∀ i,i < t→cells[i]? = some (.sl (β i) 0 w w fl)
 lt:b < m.next
 own:∀ i,i < t→β i < m.next∧m.at_ (β i)=some ⟨bA w (M i),5,.flat,true⟩
 inj:∀ i j,i < t→j < t→β i=β j→i=j
theorem dG.ne {m:aF} {b n w t:Nat} {fl:Bool} {β:Nat→Nat} {M:Mx} (h:dG m b n w t fl β M) {i:Nat} (hi:i < t):β i≠b:=by
 intro e
 obtain ⟨cells,hb,_⟩:=h.row
 have:=(h.own i hi).2
 rw [e,hb] at this
 simp at this
theorem dG.congr {m:aF} {b n w t:Nat} {fl:Bool} {β:Nat→Nat} {M M':Mx} (h:dG m b n w t fl β M) (hM:∀ i,i < t→∀ j,j < w→M i j=M' i j):dG m b n w t fl β M' :=
 ⟨h.row,h.lt,fun i hi=>by rw [←sF (hM i hi)];exact h.own i hi,h.inj⟩
theorem dG.keep {m m':aF} {b n w t:Nat} {fl:Bool} {β:Nat→Nat} {M:Mx} (h:dG m b n w t fl β M) (hn:m.next≤m'.next) (hk:∀ j k,m.at_ j=some k→j < m.next→(j=b∨∃ i,i < t∧j=β i)→m'.at_ j=some k):dG m' b n w t fl β M:=by
 obtain ⟨cells,hb,hl,hat⟩:=h.row
 refine ⟨⟨cells,hk b _ hb h.lt (.inl rfl),hl,hat⟩,Nat.lt_of_lt_of_le h.lt hn,fun i hi => ?_,h.inj⟩
 obtain ⟨h1,h2⟩:=h.own i hi
 exact ⟨Nat.lt_of_lt_of_le h1 hn,hk _ _ h2 h1 (.inr ⟨i,hi,rfl⟩)⟩
theorem dG.put_row {m:aF} {b n w t:Nat} {fl:Bool} {β:Nat→Nat} {M:Mx} (h:dG m b n w t fl β M) {i:Nat} (hi:i < t) (g:Nat→UInt8):dG (m.put (β i) (some ⟨bA w g,5,.flat,true⟩)) b n w t fl β (fun i'=>if i'=i then g else M i'):=by
 obtain ⟨cells,hb,hl,hat⟩:=h.row
 have hne:=h.ne hi
 refine ⟨⟨cells,by rw [aG,if_neg (fun e=>hne e.symm)];exact hb,hl,hat⟩,h.lt,fun j hj=>⟨(h.own j hj).1, ?_⟩,h.inj⟩
 rw [aG]
 by_cases e:j=i
 ·subst e;rw [if_pos rfl];simp only [if_true]
 ·rw [if_neg (fun e2=>e (h.inj j i hj hi e2))]
  simp only [if_neg e]
  exact (h.own j hj).2
theorem dG.add_row {m : aF} {b n w t : Nat} {fl : Bool} {β : Nat → Nat} {M : Mx} (h : dG m b n w t fl β M) (ht : t < n) {cells : List AV} (hb : m.at_ b = some ⟨cells, 52, .var, true⟩) (g : Nat → UInt8) :
   dG ((m.push ⟨bA w g, 5, .flat, true⟩).put b (some ⟨cN cells t [.sl m.next 0 w w fl], 52, .var, true⟩)) b n w (t + 1) fl (fun i => if i = t then m.next else β i) (fun i => if i = t then g else M i) := by
 obtain ⟨cells', hb', hl, hat⟩ := h.row
 rw [hb] at hb'
 obtain rfl : cells = cells' := by simpa using hb'
 have hlt := h.lt
 have hsl : (cN cells t [.sl m.next 0 w w fl]).length = n := by
   unfold cN
   simp only [List.length_append, List.length_take, List.length_drop, List.length_cons, List.length_nil]
   omega
 refine ⟨⟨_, by rw [aG, if_pos rfl], hsl, fun i hi => ?_⟩, by rw [aZ, aW]; omega, fun i hi => ?_, fun i j hi hj e => ?_⟩
 · unfold cN
   have htl : (cells.take t).length = t := by rw [List.length_take]; omega
   by_cases e : i = t
   · subst e
     rw [List.append_assoc, List.getElem?_append_right (by omega), htl, Nat.sub_self]
     simp
   · rw [List.append_assoc, List.getElem?_append_left (by omega), List.getElem?_take_of_lt (by omega), hat i (by omega)]
     simp [e]
 · by_cases e : i = t
   · simp only [if_pos e]
     exact ⟨by rw [aZ, aW]; omega, by rw [aG, if_neg (by omega), aH, if_pos rfl]⟩
   · simp only [if_neg e]
     obtain ⟨h1, h2⟩ := h.own i (by omega)
     refine ⟨by rw [aZ, aW]; omega, ?_⟩
     rw [aG, if_neg (h.ne (by omega)), aH, if_neg (by omega)]
     exact h2
 · by_cases e1 : i = t <;> by_cases e2 : j = t
   · omega
   · simp only [if_pos e1, if_neg e2] at e
     have := (h.own j (by omega)).1
     omega
   · simp only [if_neg e1, if_pos e2] at e
     have := (h.own i (by omega)).1
     omega
   · simp only [if_neg e1, if_neg e2] at e
     exact h.inj i j (by omega) (by omega) e
def mG (fl:Bool) (n w:Nat) (M:Mx):List AV:=(List.range n).map fun i => .tree w w (bA w (M i)) fl
theorem ato (fl:Bool) (n w:Nat) (M:Mx):(mG fl n w M).length=n:=by simp [mG]
theorem zZ (fl:Bool) {n w i:Nat} (M:Mx) (h:i < n):(mG fl n w M)[i]? = some (.tree w w (bA w (M i)) fl):=by
 unfold mG
 rw [List.getElem?_map,List.getElem?_range h]
 rfl
theorem aeD (f fl:Bool) (n w:Nat) (M:Mx):sG (.tree n n (mG fl n w M) f) n w M (mG fl n w M) :=
 ⟨⟨.inr (.inr ⟨n,f,rfl,Nat.le_refl _⟩)⟩,fun i hi=>⟨_,[],zZ fl M hi,⟨.inr (.inr ⟨w,fl,by rw [List.append_nil],Nat.le_refl _⟩)⟩⟩⟩
theorem amH {k:Nat} {m:aF}:∀ (cs cs':List AV),cs.length=cs'.length→(∀ (i:Nat) (c c':AV),cs[i]? = some c→cs'[i]? = some c'→fzT k m c=some c')→nU k m cs=some cs'
 | [],[],_,_=>i7
 | c::cs,c'::cs',hl,h=>by
  rw [dY,h 0 c c' rfl rfl,Option.bind_some,amH cs cs' (by simpa using hl) fun i x x' h1 h2=>h (i+1) x x' (by simpa using h1) (by simpa using h2)]
  rfl
 | [],_::_,hl,_=>by simp at hl
 | _::_,[],hl,_=>by simp at hl
theorem dG.fzT {m:aF} {b n w:Nat} {fl:Bool} {β:Nat→Nat} {M:Mx} (h:dG m b n w n fl β M) (f:Bool):Go.Tw.fzT 1 m (.sl b 0 n n f)=some (.tree n n (mG fl n w M) f):=by
 obtain ⟨cells,hb,hl,hat⟩:=h.row
 refine adL hb (amH _ _ (by rw [List.drop_zero,hl,ato]) fun i c c' h1 h2 => ?_)
 rw [List.drop_zero] at h1
 have hi:i < n:=by have:=(List.getElem?_eq_some_iff.1 h1).1;omega
 rw [hat i hi] at h1
 rw [zZ fl M hi] at h2
 cases h1;cases h2
 rw [rU (h.own i hi).2,List.drop_zero]
theorem aeE {el:TypeId} {x:Value} (h2:cH Tryz.prog el=some 1) (h5:eX Tryz.prog el=some [x]) (n:Nat):i4 Tryz.prog el n=some ((List.range n).map fun _ => .val x):=by
 unfold i4
 rw [h2,Option.bind_some]
 by_cases h:n=0
 ·subst h;rfl
 ·rw [if_neg (by omega),h5,Option.bind_some,if_pos (show [x].length=1 from rfl),Nat.mul_one]
  congr 1
  apply List.map_congr_left
  intro i _
  rw [Nat.mod_one]
  rfl
theorem ag5 (m:aF) {n:Nat} (hn:n≤32):pJ Tryz.prog m 45 n n=some ⟨.sl m.next 0 n n true,m.push ⟨(List.range n).map fun _=>aO,52,.var,true⟩,none⟩:=by
 have h1:cD Tryz.prog 45=some 52:=by kernel_rfl
 have h2:cH Tryz.prog 52=some 1:=by kernel_rfl
 have h3:hY Tryz.prog 52=some 24:=by kernel_rfl
 have h4:bW Tryz.prog 52 = .var:=by kernel_rfl
 have hz:=aeE h2 (x := .slice none 0 0) (by kernel_rfl) n
 simp only [pJ,h1,h2,h3,h4,hz,bO,Option.bind_some,Nat.mul_one]
 rw [if_pos (by omega),List.take_of_length_le (by simp)]
 rfl
theorem sH (m:aF) {n:Nat} (hn:n≤65536):pJ Tryz.prog m 52 n n=some ⟨.sl m.next 0 n n true,m.push ⟨bA n fun _=>0,5,.flat,true⟩,none⟩:=by
 have h1:cD Tryz.prog 52=some 5:=by kernel_rfl
 have h2:cH Tryz.prog 5=some 1:=by kernel_rfl
 have h3:hY Tryz.prog 5=some 1:=by kernel_rfl
 have h4:bW Tryz.prog 5 = .flat:=by kernel_rfl
 have hz:=aeE h2 (x := .int .u8 0) (by kernel_rfl) n
 have e:((List.range n).map fun _=>AV.val (.int .u8 0))=bA n fun _=>0:=by
  unfold bA tab
  rw [List.map_map]
  rfl
 rw [e] at hz
 simp only [pJ,h1,h2,h3,h4,hz,bO,Option.bind_some,Nat.mul_one]
 rw [if_pos (by omega),List.take_of_length_le (by rw [fC];omega)]
theorem wE {P:Program} {t:TypeId} {b off n c:Nat} {f:Bool} (h:(cD P t).isSome=true):lenE P t (.sl b off n c f)=some (.val (.int .i64 (n:Nat))):=by
 obtain ⟨el,hel⟩:=Option.isSome_iff_exists.1 h
 simp [lenE,hel,rH,aD]
theorem ag6 {b off n c:Nat} {f:Bool}:lenE Tryz.prog 45 (.sl b off n c f)=some (.val (.int .i64 (n:Nat))):=wE (by kernel_rfl)
theorem amI {b off n c:Nat} {f:Bool}:lenE Tryz.prog 52 (.sl b off n c f)=some (.val (.int .i64 (n:Nat))):=wE (by kernel_rfl)
theorem amJ {b off n c k:Nat} {f:Bool}:lZ Tryz.prog 45 k (.sl b off n c f)=if k < n then some (.ptr b (off+k*1)) else none:=by
 rw [d6 (by kernel_rfl)]
 have h1:cD Tryz.prog 45=some 52:=by kernel_rfl
 have h2:cH Tryz.prog 52=some 1:=by kernel_rfl
 rw [h1,Option.bind_some,h2,Option.bind_some]
theorem amK {b off n c k:Nat} {f:Bool}:lZ Tryz.prog 52 k (.sl b off n c f)=if k < n then some (.ptr b (off+k*1)) else none:=by
 rw [d6 (by kernel_rfl)]
 have h1:cD Tryz.prog 52=some 5:=by kernel_rfl
 have h2:cH Tryz.prog 5=some 1:=by kernel_rfl
 rw [h1,Option.bind_some,h2,Option.bind_some]
theorem cG:(type_of% @ag6)∧(type_of% @amI)∧(type_of% @amJ)∧(type_of% @amK):=⟨@ag6,@amI,@amJ,@amK⟩
theorem atp {cs:List AV} {i:Nat} {x:AV} (h:i < cs.length):(cs.take i++[x]++cs.drop (i+1))[i]? = some x:=by
 have htl:(cs.take i).length=i:=by rw [List.length_take];omega
 rw [List.append_assoc,List.getElem?_append_right (by omega),htl,Nat.sub_self]
 rfl
def x6:Nat→Bool:=fun d=>d != 33
theorem amL (m0 : aF) (n w : Nat) (g : FuncId) (caps : List AV) (f : Mx) (hn : n ≤ 32) (hw : w ≤ 32) (hc : eB caps = true) (hg : ∀ i j, i < n → j < w → aX Tryz.prog g (aD (i : Nat) :: aD (j : Nat) :: caps) ⟨aU (f i j), []⟩) :
   fA Tryz.prog 296 [aD (n : Nat), aD (w : Nat), .clo g caps] m0 fun r m' => ∃ β, r = .sl m0.next 0 n n true ∧ dG m' m0.next n w n true β f ∧ (∀ i, i < n → m0.next < β i) ∧ (∀ j k, m0.at_ j = some k → j < m0.next → m'.at_ j = some k) ∧ m'.mm = m0.mm := by
 have hmk := ag5 m0 hn
 have hmb := fun m => sH m (n := w) (by omega)
 replace hg := aB.mk hg
 replace hn := aB.mk hn
 replace hw := aB.mk hw
 refine bZ follows Tryz.func296 (by unfold Tryz.f296; rfl) (by unfold Tryz.f296; simp) x6 (by unfold Tryz.f296; simp) (by kernel_rfl) ?_; unfold Tryz.f296
 simp only [↓pre, simprocAttr, aA, sx, zI, x6, bne, aC, aI, aJ, aG, aH, wE, d6, hmk, sr]
 generalize hb : m0.next = b at *
 rw [b9]
 refine cA (fun q e m => ∃ i β, q + i = n ∧ e 1 = aD (w : Nat) ∧ e 2 = .clo g caps ∧ e 7 = .sl b 0 n n true ∧ e 13 = aD (n : Nat) ∧ e 14 = aD (i : Nat) ∧ aB (dG m b n w i true β f ∧ (∀ i', i' < i → b < β i') ∧ (∀ j k, m0.at_ j = some k → j < b → m.at_ j = some k) ∧ m.mm = m0.mm)) n ⟨0, fun _ => 0, by omega, rfl, rfl, rfl, rfl, rfl, ⟨⟨⟨_, by rw [aH, if_pos hb.symm], by simp, fun i h => by omega⟩, by rw [aW]; omega, fun i h => by omega, fun i j h => by omega⟩, fun i h => by omega, fun j k h1 h2 => by rw [aH, if_neg (by omega)]; exact h1, rfl⟩⟩ ?_
 rintro q e m ⟨i, β, hq, e1, e2, e7, e13, e14, hJ⟩
 replace hq := aB.mk hq
 obtain ⟨hM, hβ, hkp, hmm⟩ := hJ.out
 obtain ⟨cells, hrow, hcl, hat⟩ := hM.row
 have hbl := hM.lt
 by_cases hlt : i < n
 · have hlt' : ((i : Nat) : Int) < ((n : Nat) : Int) := by omega
   have w1 := cI (n := i) (by have := hn.out; omega)
   have hbn : ¬ b = m.next := by omega
   have hi1 : i + 1 ≤ cells.length := by omega
   have hspl := atp (cs := cells) (i := i) (x := .sl m.next 0 w w true) (by omega)
   have hA := hM.add_row hlt hrow (fun _ => 0)
   unfold cN at hA
   simp only [List.length_cons, List.length_nil, Nat.zero_add] at hA
   have hkp' : ∀ j k, m0.at_ j = some k → j < b → ((m.push ⟨bA w fun _ => 0, 5, .flat, true⟩).put b (some ⟨cells.take i ++ [.sl m.next 0 w w true] ++ cells.drop (i + 1), 52, .var, true⟩)).at_ j = some k := fun j k h1 h2 => by
     rw [aG, if_neg (by omega), aH, if_neg (by omega)]
     exact hkp j k h1 h2
   replace hA := aB.mk hA
   replace hkp' := aB.mk hkp'
   replace hkp := aB.mk hkp
   replace hβ := aB.mk hβ
   replace hM := aB.mk hM
   replace hat := aB.mk hat
   simp only [↓pre, simprocAttr, aA, sx, zI, x6, bne, aC, aI, aJ, aG, aH, wE, d6, hmb, e1, e2, e7, e13, e14, hlt', hrow, hlt, hbn, hi1, hspl, sr]
   rw [b9]
   generalize hβ' : (fun i' => if i' = i then m.next else β i') = β' at *
   have hβi : β' i = m.next := by rw [← hβ']; simp
   have hmn : b < m.next := hbl
   have hβ2 : ∀ i', i' < i + 1 → b < β' i' := fun i' h => by
     rw [← hβ']
     by_cases e : i' = i
     · simp only [if_pos e]; exact hmn
     · simp only [if_neg e]; exact hβ.out i' (by omega)
   refine cA (fun q e m => ∃ j, q + j = w ∧ e 1 = aD (w : Nat) ∧ e 2 = .clo g caps ∧ e 7 = .sl b 0 n n true ∧ e 8 = aD (i : Nat) ∧ e 13 = aD (n : Nat) ∧ e 14 = aD (i : Nat) ∧ e 26 = aD (w : Nat) ∧ e 27 = aD (j : Nat) ∧ aB (dG m b n w (i + 1) true β' (fun i' j' => if i' < i then f i' j' else if j' < j then f i j' else 0) ∧ (∀ j k, m0.at_ j = some k → j < b → m.at_ j = some k) ∧ m.mm = m0.mm)) w ⟨0, by omega, e1, e2, e7, rfl, e13, e14, rfl, rfl, ⟨hA.out.congr fun i' hi' j' hj' => ?_, hkp'.out, hmm⟩⟩ ?_
   · by_cases e : i' = i
     · rw [if_pos e, if_neg (by omega), if_neg (by omega)]
     · rw [if_neg e, if_pos (by omega)]
   replace hA := aB.mk hA
   rintro q2 e m2 ⟨j, hq2, e1, e2, e7, e8, e13, e14, e26, e27, hJ2⟩
   replace hq2 := aB.mk hq2
   obtain ⟨hM2, hkp2, hmm2⟩ := hJ2.out
   obtain ⟨cells2, hrow2, hcl2, hat2⟩ := hM2.row
   have hci := hat2 i (by omega)
   obtain ⟨hbi, hblk⟩ := hM2.own i (by omega)
   have hlrow := fC w (fun j' => if i < i then f i j' else if j' < j then f i j' else 0)
   by_cases hlt2 : j < w
   · have hlt2' : ((j : Nat) : Int) < ((w : Nat) : Int) := by omega
     have w2 := cI (n := j) (by have := hw.out; omega)
     have hcall := hg.out i j hlt hlt2
     have hj1 : j ≤ w - 1 := by omega
     have hP := hM2.put_row (i := i) (by omega) (fun j' => if j' < j + 1 then f i j' else 0)
     have hput := x4 (w := w) (f := fun j' => if i < i then f i j' else if j' < j then f i j' else 0) (g := fun j' => if j' < j + 1 then f i j' else 0) hlt2 fun j' hj' => by
       simp only [Nat.lt_irrefl, if_false]
       by_cases e : j' = j
       · subst e; rw [if_pos rfl]
       · rw [if_neg e]
         by_cases e2 : j' < j
         · rw [if_pos e2, if_pos (by omega)]
         · rw [if_neg e2, if_neg (by omega)]
     simp only [show j < j + 1 by omega, if_true] at hput
     unfold cN at hput
     simp only [List.length_cons, List.length_nil, Nat.zero_add, Nat.lt_irrefl, if_false] at hput hblk hlrow
     have hjl : j + 1 ≤ (bA w fun j' => if j' < j then f i j' else 0).length := by omega
     simp only [aU] at hput hcall
     have hpc : eB (aD (i : Nat) :: aD (j : Nat) :: caps) = true := by simp only [eB, plain, aD, hc, Bool.and_self]
     have hne2 := hM2.ne (i := i) (by omega)
     replace hP := aB.mk hP
     replace hkp2 := aB.mk hkp2
     replace hM2 := aB.mk hM2
     replace hat2 := aB.mk hat2
     simp only [aD] at hpc hcall
     simp only [↓pre, simprocAttr, aA, sx, zI, x6, bne, aC, aI, aJ, aG, aH, wE, d6, e1, e2, e7, e8, e13, e14, e26, e27, hlt2', hrow2, hlt, hci, sr]
     refine cE hcall hpc (fun _ => rfl) ?_
     simp only [↓pre, simprocAttr, aA, sx, zI, x6, bne, aC, aI, aJ, aG, aH, wE, d6, e1, e2, e7, e8, e13, e14, e26, e27, hlt2, hblk, hjl, aU, hput, sr]
     refine dJ (by kernel_rfl) ?_
     simp only [↓pre, simprocAttr, aA, sx, zI, x6, bne, aC, aI, aJ, aG, aH, wE, d6, e1, e2, e7, e8, e13, e14, e26, e27, w2, sr]
     refine ⟨q2 - 1, by have := hq2.out; omega, j + 1, by have := hq2.out; omega, rfl, ⟨hP.out.congr fun i' hi' j' hj' => ?_, fun x k h1 h2 => ?_, hmm2⟩⟩
     · by_cases e : i' = i
       · subst e
         simp only [if_true, Nat.lt_irrefl, if_false]
       · simp only [if_neg e, if_pos (show i' < i by omega)]
     · rw [if_neg (by have := hβ2 i (by omega); omega)]
       exact hkp2.out x k h1 h2
   · have hlt2' : ¬ ((j : Nat) : Int) < ((w : Nat) : Int) := by omega
     simp only [↓pre, simprocAttr, aA, sx, zI, x6, bne, aC, aI, aJ, aG, aH, wE, d6, e1, e2, e7, e8, e13, e14, e26, e27, hlt2', w1, sr]
     refine ⟨q - 1, by have := hq.out; omega, i + 1, β', by have := hq.out; omega, rfl, ⟨hM2.congr fun i' hi' j' hj' => ?_, hβ2, hkp2, hmm2⟩⟩
     by_cases e : i' < i
     · rw [if_pos e]
     · rw [if_neg e, if_pos (by omega), show i' = i by omega]
 · have hlt' : ¬ ((i : Nat) : Int) < ((n : Nat) : Int) := by omega
   have hin : i = n := by have := hq.out; omega
   subst hin
   simp only [↓pre, simprocAttr, aA, sx, zI, x6, bne, aC, aI, aJ, aG, aH, wE, d6, e1, e2, e7, e13, e14, hlt', sr]
   exact ⟨β, hM, hβ, hkp, hmm⟩
theorem amM (m0:aF) (n:Nat) (hn:1≤n) (hn2:n≤32):fA Tryz.prog 243 [aD (n:Nat)] m0 fun r m'=>∃ β,r = .tup [.sl m0.next 0 n n true,aD 0]∧dG m' m0.next n n n true β jE∧(∀ i,i < n→m0.next < β i)∧(∀ j k,m0.at_ j=some k→j < m0.next→m'.at_ j=some k)∧m'.mm=m0.mm:=by
 have hm:=amL m0 n n 297 [] jE hn2 hn2 rfl fun i j _ _=>atm i j
 have k1:¬ ((n:Nat):Int) < 1:=by omega
 have k2:¬ (32:Int) < ((n:Nat):Int):=by omega
 refine bZ follows Tryz.func243 (by unfold Tryz.f243;rfl) (by unfold Tryz.f243;simp) aE (by unfold Tryz.f243;simp) (by kernel_rfl) ?_;unfold Tryz.f243
 simp only [↓pre,simprocAttr,aA,sx,alx,aE,aC,aI,List.size_toArray,k1,k2,sr]
 refine m9 hm ?_
 rintro r m' ⟨β,rfl,h1,h2,h3,h4⟩
 simp only [↓pre,simprocAttr,aA,sx,alx,aE,aC,aI,List.size_toArray,sr]
 exact ⟨β,h1,h2,h3,h4⟩
theorem atq (n:Nat) (hn:1≤n) (hn2:n≤32):aX Tryz.prog 243 [aD (n:Nat)] ⟨.tup [.tree n n (mG true n n jE) true,aD 0],[]⟩:=by
 refine eA (pX (amM aF.empty n hn hn2) ?_)
 rintro r m' ⟨β,rfl,h1,_⟩
 exact ⟨1,by rw [j6,dY,h1.fzT,Option.bind_some,dY];unfold aD;rw [fZ,i7];rfl⟩
theorem atr (k r:Nat) (hk:1≤k) (hk2:k≤12) (hr:1≤r) (hr2:r≤4):aX Tryz.prog 244 [aD (k:Nat),aD (r:Nat)] ⟨.tup [.tree r r (mG true r k (gV k)) true,aD 0],[]⟩:=by
 refine eA ?_
 have hm:=amL aF.empty r k 298 [.tptr 0 [aD (k:Nat)]] (gV k) (by omega) (by omega) rfl fun i j hi hj=>atn k i j (by omega) hj
 have k1:¬ ((k:Nat):Int) < 1:=by omega
 have k2:¬ (12:Int) < ((k:Nat):Int):=by omega
 have k3:¬ ((r:Nat):Int) < 1:=by omega
 have k4:¬ (4:Int) < ((r:Nat):Int):=by omega
 refine bZ follows Tryz.func244 (by unfold Tryz.f244;rfl) (by unfold Tryz.f244;simp) aE (by unfold Tryz.f244;simp) (by kernel_rfl) ?_;unfold Tryz.f244
 simp only [↓pre,simprocAttr,aA,sx,aly,aE,aC,aI,List.size_toArray,k1,k2,k3,k4,sr]
 refine m9 hm ?_
 rintro r' m' ⟨β,rfl,h1,_⟩
 simp only [↓pre,simprocAttr,aA,sx,aly,aE,aC,aI,List.size_toArray,sr]
 exact ⟨1,by rw [j6,dY,h1.fzT,Option.bind_some,dY,fZ,i7];rfl⟩
theorem ats (m0:aF) (v:AV) (n:Nat) (cells:List AV) (hv:bC v n cells) (hl:n≤cells.length) (h1:1≤n) (h2:n≤65536):fA Tryz.prog 345 [v] m0 fun r m'=>r = .sl m0.next 0 n n false∧m'=m0.push ⟨cells.take n,52,.var,true⟩:=by
 have hsrc:=fun m=>bC.src (P:=Tryz.prog) (el:=52) (sz:=1) (m:=m) hv (by omega)
 have happ:=fun m=>af9 (P:=Tryz.prog) (kd := .var) (y:=24) (zl:=[.slice none 0 0]) (by kernel_rfl) (by kernel_rfl) (by kernel_rfl) (by kernel_rfl) rfl (hsrc m) (by omega) (by omega) (by omega)
 simp only [Nat.mul_one] at happ
 have hbt:∀ m,eY Tryz.prog m 45 0 []=some ⟨.tree 0 0 [] true,m,none⟩:=fun m=>tI (el:=52) (sz:=1) (z:=[]) (by kernel_rfl) (by kernel_rfl) (by kernel_rfl) rfl rfl (by decide)
 obtain ⟨c,f,rfl,_⟩:∃ c f,v = .tree n c cells f∧n≤c:=by
  rcases hv.form with ⟨_,h⟩ | ⟨_,_,_,h⟩ | h
  ·omega
  ·omega
  ·exact h
 have heq:∀ x y,dV Tryz.prog .eql 45 x y (.tree n c cells f) (.val (.slice none 0 0))=some (.val (.bool false)):=fun x y=>by kernel_rfl
 refine bZ follows Tryz.func345 (by unfold Tryz.f345;rfl) (by unfold Tryz.f345;simp) aE (by unfold Tryz.f345;simp) (by kernel_rfl) ?_;unfold Tryz.f345
 simp only [↓pre,simprocAttr,aA,sx,arc,aE,aC,aL,hbt,happ,heq,cW]
theorem att (m0:aF) (v:AV) (n:Nat) (cells:List AV) (hv:bC v n cells) (hl:n≤cells.length) (h1:1≤n) (h2:n≤65536):fA Tryz.prog 346 [v] m0 fun r m'=>r = .sl m0.next 0 n n false∧m'=m0.push ⟨cells.take n,5,.flat,true⟩:=by
 have hsrc:=fun m=>bC.src (P:=Tryz.prog) (el:=5) (sz:=1) (m:=m) hv (by omega)
 have happ:=fun m=>af9 (P:=Tryz.prog) (kd := .flat) (y:=1) (zl:=[.int .u8 0]) (by kernel_rfl) (by kernel_rfl) (by kernel_rfl) (by kernel_rfl) rfl (hsrc m) (by omega) (by omega) (by omega)
 simp only [Nat.mul_one] at happ
 have hbt:∀ m,eY Tryz.prog m 52 0 []=some ⟨.tree 0 0 [] true,m,none⟩:=fun m=>tI (el:=5) (sz:=1) (z:=[]) (by kernel_rfl) (by kernel_rfl) (by kernel_rfl) rfl rfl (by decide)
 obtain ⟨c,f,rfl,_⟩:∃ c f,v = .tree n c cells f∧n≤c:=by
  rcases hv.form with ⟨_,h⟩ | ⟨_,_,_,h⟩ | h
  ·omega
  ·omega
  ·exact h
 have heq:∀ x y,dV Tryz.prog .eql 52 x y (.tree n c cells f) (.val (.slice none 0 0))=some (.val (.bool false)):=fun x y=>by kernel_rfl
 refine bZ follows Tryz.func346 (by unfold Tryz.f346;rfl) (by unfold Tryz.f346;simp) aE (by unfold Tryz.f346;simp) (by kernel_rfl) ?_;unfold Tryz.f346
 simp only [↓pre,simprocAttr,aA,sx,ard,aE,aC,aL,hbt,happ,heq,cW]
theorem atu (m0:aF) (v:AV) (n w:Nat) (M:Mx) (cells:List AV) (hv:sG v n w M cells) (h1:1≤n) (h2:n≤32) (h3:1≤w) (h4:w≤32) (hl:n≤cells.length):fA Tryz.prog 327 [v] m0 fun r m'=>∃ β,r = .sl m0.next 0 n n false∧dG m' m0.next n w n false β M∧(∀ i,i < n→m0.next < β i)∧(∀ j k,m0.at_ j=some k→j < m0.next→m'.at_ j=some k)∧m'.mm=m0.mm:=by
 have hc:=ats m0 v n cells hv.rd hl h1 (by omega)
 refine bZ follows Tryz.func327 (by unfold Tryz.f327;rfl) (by unfold Tryz.f327;simp) aE (by unfold Tryz.f327;simp) (by kernel_rfl) ?_;unfold Tryz.f327
 simp only [↓pre,simprocAttr,aA,sx,acB,aE,aC,aI,aJ,aG,aH,cG,sr]
 refine m9 hc ?_
 rintro r m' ⟨rfl,rfl⟩
 simp only [↓pre,simprocAttr,aA,sx,acB,aE,aC,aI,aJ,aG,aH,cG,sr]
 generalize hb:m0.next=b at *
 rw [b9]
 refine cA (fun q e m=>∃ i β,q+i=n∧e 0=v∧e 3 = .sl b 0 n n false∧e 8=aD (n:Nat)∧e 9=aD (i:Nat)∧aB (dG m b n w i false β M∧(∀ i',i' < i→b < β i')∧(∀ j k,m0.at_ j=some k→j < b→m.at_ j=some k)∧m.mm=m0.mm)) n ⟨0,fun _=>0,by omega,rfl,rfl,rfl,rfl,⟨⟨⟨_,by rw [aH,if_pos hb.symm],by rw [List.length_take];omega,fun i h=>by omega⟩,by rw [aW];omega,fun i h=>by omega,fun i j h=>by omega⟩,fun i h=>by omega,fun j k h1 h2=>by rw [aH,if_neg (by omega)];exact h1,rfl⟩⟩ ?_
 rintro q e m ⟨i,β,hq,e0,e3,e8,e9,hJ⟩
 replace hq:=aB.mk hq
 obtain ⟨hM,hβ,hkp,hmm⟩:=hJ.out
 obtain ⟨cells',hrow,hcl,hat⟩:=hM.row
 have hbl:=hM.lt
 by_cases hlt:i < n
 ·have hlt':((i:Nat):Int) < ((n:Nat):Int):=by omega
  have w1:=cI (n:=i) (by omega)
  have hbn:¬ b=m.next:=by omega
  have hi1:i+1≤cells'.length:=by omega
  obtain ⟨a,x,hca,hra⟩:=hv.at_ i hlt
  have hcb:=att m a w _ hra (by rw [List.length_append,fC];omega) h3 (by omega)
  rw [List.take_left' (fC w (M i))] at hcb
  have hA:=hM.add_row hlt hrow (M i)
  unfold cN at hA
  simp only [List.length_cons,List.length_nil,Nat.zero_add] at hA
  have hmn:b < m.next:=hbl
  replace hA:=aB.mk hA
  replace hkp:=aB.mk hkp
  replace hβ:=aB.mk hβ
  replace hM:=aB.mk hM
  replace hat:=aB.mk hat
  simp only [↓pre,simprocAttr,aA,sx,acB,aE,aC,aI,aJ,aG,aH,cG,e0,e3,e8,e9,hlt',hv.rd.addr',hlt,hca,sr]
  refine m9 hcb ?_
  rintro r m' ⟨rfl,rfl⟩
  simp only [↓pre,simprocAttr,aA,sx,acB,aE,aC,aI,aJ,aG,aH,cG,e0,e3,e8,e9,hlt,hrow,hbn,hi1,w1,sr]
  refine ⟨q - 1,by have:=hq.out;omega,i+1,(fun i'=>if i'=i then m.next else β i'),by have:=hq.out;omega,rfl,⟨hA.out.congr fun i' hi' j' hj' => ?_,fun i' h => ?_,fun j k h1 h2 => ?_,hmm⟩⟩
  ·by_cases e:i'=i
   ·simp only [e,if_true]
   ·simp only [if_neg e]
  ·by_cases e:i'=i
   ·simp only [e,if_true];exact hmn
   ·simp only [if_neg e];exact hβ.out i' (by omega)
  ·rw [if_neg (by omega),if_neg (by omega)]
   exact hkp.out j k h1 h2
 ·have hlt':¬ ((i:Nat):Int) < ((n:Nat):Int):=by omega
  have hin:i=n:=by have:=hq.out;omega
  subst hin
  simp only [↓pre,simprocAttr,aA,sx,acB,aE,aC,aI,aJ,aG,aH,cG,e0,e3,e8,e9,hlt',sr]
  exact ⟨β,hM,hβ,hkp,hmm⟩
def z6:Nat→Bool:=fun d=>d != 17 && d != 22
theorem x7 {m:aF} {b:Nat} {x y:Option eP}:(m.put b x).put b y=m.put b y:=by
 obtain ⟨n,a,mm⟩:=m
 unfold aF.put
 congr 1
 funext j
 simp only
 split <;> rfl
theorem amN (m0:aF) (b w:Nat) (f:Bool) (M:Nat→UInt8) (c:UInt8) (hw:w≤32) (hb:m0.at_ b=some ⟨bA w M,5,.flat,true⟩):fA Tryz.prog 343 [.sl b 0 w w f,aU c] m0 fun r m'=>r = .tup []∧m'=m0.put b (some ⟨bA w (fun j=>aR (M j) c),5,.flat,true⟩):=by
 have hm:=fun x=>ag3 x c
 simp only [aU] at hm
 refine bZ follows Tryz.func343 (by unfold Tryz.f343;rfl) (by unfold Tryz.f343;simp) aE (by unfold Tryz.f343;simp) (by kernel_rfl) ?_;unfold Tryz.f343
 simp only [↓pre,simprocAttr,aA,sx,aee,aE,aC,aI,aJ,aG,aH,cG,aU,sr]
 rw [b9]
 refine cA (fun q e m=>∃ j,q+j=w∧e 0 = .sl b 0 w w f∧e 1=aU c∧e 6=aD (w:Nat)∧e 7=aD (j:Nat)∧aB (m=m0.put b (some ⟨bA w (fun j'=>if j' < j then aR (M j') c else M j'),5,.flat,true⟩))) w ⟨0,by omega,rfl,rfl,rfl,rfl,⟨?_⟩⟩ ?_
 ·have:bA w (fun j'=>if j' < 0 then aR (M j') c else M j')=bA w M:=sF fun j _=>by rw [if_neg (by omega)]
  rw [this,abr hb]
 rintro q e m ⟨j,hq,e0,e1,e6,e7,hJ⟩
 replace hq:=aB.mk hq
 by_cases hlt:j < w
 ·have hlt':((j:Nat):Int) < ((w:Nat):Int):=by omega
  have w1:=cI (n:=j) (by omega)
  have hat:m.at_ b=some ⟨bA w (fun j'=>if j' < j then aR (M j') c else M j'),5,.flat,true⟩:=by rw [hJ.out,aG,if_pos rfl]
  have hcell:=iN (w:=w) (fun j'=>if j' < j then aR (M j') c else M j') hlt
  simp only [Nat.lt_irrefl,if_false,aU] at hcell
  have hput:=x4 (w:=w) (f:=fun j'=>if j' < j then aR (M j') c else M j') (g:=fun j'=>if j' < j+1 then aR (M j') c else M j') hlt fun j' hj'=>by
   by_cases e:j'=j
   ·subst e;rw [if_pos rfl]
   ·rw [if_neg e]
    by_cases e2:j' < j
    ·rw [if_pos e2,if_pos (by omega)]
    ·rw [if_neg e2,if_neg (by omega)]
  simp only [show j < j+1 by omega,if_true] at hput
  unfold cN at hput
  simp only [List.length_cons,List.length_nil,Nat.zero_add,aU] at hput
  have hl1:j+1≤(bA w fun j'=>if j' < j then aR (M j') c else M j').length:=by rw [fC];omega
  have hmj:=hm (M j)
  simp only [↓pre,simprocAttr,aA,sx,aee,aE,aC,aI,aJ,aG,aH,cG,aU,e0,e1,e6,e7,hlt',hlt,hat,hcell,sr]
  refine aM (hmj) (by rfl) ?_;simp only [↓pre,simprocAttr,aA,sx,aee,aE,aC,aI,aJ,aG,aH,cG,aU,e0,e1,e6,e7,hlt,hat,hl1,hput,w1,sr]
  refine ⟨q - 1,by have:=hq.out;omega,j+1,by have:=hq.out;omega,rfl,⟨?_⟩⟩
  rw [hJ.out,x7]
 ·have hlt':¬ ((j:Nat):Int) < ((w:Nat):Int):=by omega
  have hj:j=w:=by have:=hq.out;omega
  subst hj
  have hfin:=hJ.out
  have e0':bA j (fun j'=>if j' < j then aR (M j') c else M j')=bA j fun j'=>aR (M j') c:=sF fun x hx=>by rw [if_pos hx]
  rw [e0'] at hfin
  subst hfin
  simp only [↓pre,simprocAttr,aA,sx,aee,aE,aC,aI,aJ,aG,aH,cG,aU,e0,e1,e6,e7,hlt',sr]
theorem amO (m0:aF) (b b' w:Nat) (f f':Bool) (M M':Nat→UInt8) (c:UInt8) (hw:w≤32) (hne:b≠b') (hb:m0.at_ b=some ⟨bA w M,5,.flat,true⟩) (hb':m0.at_ b'=some ⟨bA w M',5,.flat,true⟩):fA Tryz.prog 344 [.sl b 0 w w f,aU c,.sl b' 0 w w f'] m0 fun r m'=>r = .tup []∧m'=m0.put b (some ⟨bA w (fun j=>M j ^^^ aR c (M' j)),5,.flat,true⟩):=by
 have hm:=ag3 c
 have ha:=agZ
 simp only [aU] at hm ha
 refine bZ follows Tryz.func344 (by unfold Tryz.f344;rfl) (by unfold Tryz.f344;simp) z6 (by unfold Tryz.f344;simp) (by kernel_rfl) ?_;unfold Tryz.f344
 simp only [↓pre,simprocAttr,aA,sx,abb,z6,bne,aC,aI,aJ,aG,aH,cG,aU,sr]
 rw [b9]
 refine cA (fun q e m=>∃ j,q+j=w∧e 0 = .sl b 0 w w f∧e 1=aU c∧e 2 = .sl b' 0 w w f'∧e 8=aD (w:Nat)∧e 9=aD (j:Nat)∧aB (m=m0.put b (some ⟨bA w (fun j'=>if j' < j then M j' ^^^ aR c (M' j') else M j'),5,.flat,true⟩))) w ⟨0,by omega,rfl,rfl,rfl,rfl,rfl,⟨?_⟩⟩ ?_
 ·have:bA w (fun j'=>if j' < 0 then M j' ^^^ aR c (M' j') else M j')=bA w M:=sF fun j _=>by rw [if_neg (by omega)]
  rw [this,abr hb]
 rintro q e m ⟨j,hq,e0,e1,e2,e8,e9,hJ⟩
 replace hq:=aB.mk hq
 by_cases hlt:j < w
 ·have hlt':((j:Nat):Int) < ((w:Nat):Int):=by omega
  have w1:=cI (n:=j) (by omega)
  have hat:m.at_ b=some ⟨bA w (fun j'=>if j' < j then M j' ^^^ aR c (M' j') else M j'),5,.flat,true⟩:=by rw [hJ.out,aG,if_pos rfl]
  have hat':m.at_ b'=some ⟨bA w M',5,.flat,true⟩:=by rw [hJ.out,aG,if_neg (fun e=>hne e.symm)];exact hb'
  have hcell:=iN (w:=w) (fun j'=>if j' < j then M j' ^^^ aR c (M' j') else M j') hlt
  have hcell':=iN (w:=w) M' hlt
  simp only [Nat.lt_irrefl,if_false,aU] at hcell hcell'
  have hput:=x4 (w:=w) (f:=fun j'=>if j' < j then M j' ^^^ aR c (M' j') else M j') (g:=fun j'=>if j' < j+1 then M j' ^^^ aR c (M' j') else M j') hlt fun j' hj'=>by
   by_cases e:j'=j
   ·subst e;rw [if_pos rfl]
   ·rw [if_neg e]
    by_cases e2:j' < j
    ·rw [if_pos e2,if_pos (by omega)]
    ·rw [if_neg e2,if_neg (by omega)]
  simp only [show j < j+1 by omega,if_true] at hput
  unfold cN at hput
  simp only [List.length_cons,List.length_nil,Nat.zero_add,aU] at hput
  have hl1:j+1≤(bA w fun j'=>if j' < j then M j' ^^^ aR c (M' j') else M j').length:=by rw [fC];omega
  have hmj:=hm (M' j)
  have haj:=ha (M j) (aR c (M' j))
  simp only [↓pre,simprocAttr,aA,sx,abb,z6,bne,aC,aI,aJ,aG,aH,cG,aU,e0,e1,e2,e8,e9,hlt',hlt,hat,hat',hcell,hcell',sr]
  (refine cE (hmj) (by rfl) (by intro k;rfl) ?_);simp only [↓pre,simprocAttr,aA,sx,abb,z6,bne,aC,aI,aJ,aG,aH,cG,aU,e0,e1,e2,e8,e9,hlt,hat,hat',hcell,hcell',hl1,hput,sr];(refine cE (haj) (by rfl) (by intro k;rfl) ?_);simp only [↓pre,simprocAttr,aA,sx,abb,z6,bne,aC,aI,aJ,aG,aH,cG,aU,e0,e1,e2,e8,e9,hlt,hat,hat',hcell,hcell',hl1,hput,sr]
  refine dJ (by kernel_rfl) ?_
  simp only [↓pre,simprocAttr,aA,sx,abb,z6,bne,aC,aI,aJ,aG,aH,cG,aU,e0,e1,e2,e8,e9,w1,sr]
  refine ⟨q - 1,by have:=hq.out;omega,j+1,by have:=hq.out;omega,rfl,⟨?_⟩⟩
  rw [hJ.out,x7]
 ·have hlt':¬ ((j:Nat):Int) < ((w:Nat):Int):=by omega
  have hj:j=w:=by have:=hq.out;omega
  subst hj
  have hfin:=hJ.out
  have e0':bA j (fun j'=>if j' < j then M j' ^^^ aR c (M' j') else M j')=bA j fun j'=>M j' ^^^ aR c (M' j'):=sF fun x hx=>by rw [if_pos hx]
  rw [e0'] at hfin
  subst hfin
  simp only [↓pre,simprocAttr,aA,sx,abb,z6,bne,aC,aI,aJ,aG,aH,cG,aU,e0,e1,e2,e8,e9,hlt',sr]
theorem dG.swap {m : aF} {b n w : Nat} {fl : Bool} {β : Nat → Nat} {M : Mx} (h : dG m b n w n fl β M) {a k : Nat} (ha : a < n) (hk : k < n) {cells : List AV} (hb : m.at_ b = some ⟨cells, 52, .var, true⟩) :
   dG (m.put b (some ⟨cN (cN cells a [.sl (β k) 0 w w fl]) k [.sl (β a) 0 w w fl], 52, .var, true⟩)) b n w n fl (fun i => if i = a then β k else if i = k then β a else β i) (eI M a k) := by
 obtain ⟨cells', hb', hl, hat⟩ := h.row
 rw [hb] at hb'
 obtain rfl : cells = cells' := by simpa using hb'
 have hlen : ∀ (cs : List AV) (i : Nat) (x : AV), i < cs.length → (cN cs i [x]).length = cs.length := fun cs i x hi => by
   unfold cN
   simp only [List.length_append, List.length_take, List.length_drop, List.length_cons, List.length_nil]
   omega
 have hget : ∀ (cs : List AV) (i j : Nat) (x : AV), i < cs.length → (cN cs i [x])[j]? = if j = i then some x else cs[j]? := fun cs i j x hi => by
   unfold cN
   have htl : (cs.take i).length = i := by rw [List.length_take]; omega
   by_cases e : j = i
   · subst e
     rw [if_pos rfl, List.append_assoc, List.getElem?_append_right (by omega), htl, Nat.sub_self]
     rfl
   · rw [if_neg e, List.append_assoc]
     by_cases h1 : j < i
     · rw [List.getElem?_append_left (by omega), List.getElem?_take_of_lt h1]
     · rw [List.getElem?_append_right (by omega), htl, List.getElem?_append_right (by simp; omega), List.getElem?_drop]
       congr 1
       simp only [List.length_cons, List.length_nil]
       omega
 have hl1 := hlen cells a (.sl (β k) 0 w w fl) (by omega)
 refine ⟨⟨_, by rw [aG, if_pos rfl], by rw [hlen _ _ _ (by omega)]; omega, fun i hi => ?_⟩, h.lt, fun i hi => ?_, fun i j hi hj e => ?_⟩
 · rw [hget _ _ _ _ (by omega), hget _ _ _ _ (by omega)]
   by_cases e1 : i = k
   · rw [if_pos e1]
     by_cases e2 : i = a
     · rw [if_pos e2, ← e1, e2]
     · rw [if_neg e2, if_pos e1]
   · rw [if_neg e1]
     by_cases e2 : i = a
     · rw [if_pos e2, if_pos e2]
     · rw [if_neg e2, if_neg e2, if_neg e1]
       exact hat i hi
 · unfold eI
   have hne := fun x (hx : x < n) => h.ne hx
   by_cases e1 : i = a
   · simp only [if_pos e1]
     exact ⟨(h.own k hk).1, by rw [aG, if_neg (hne k hk)]; exact (h.own k hk).2⟩
   · by_cases e2 : i = k
     · simp only [if_neg e1, if_pos e2]
       exact ⟨(h.own a ha).1, by rw [aG, if_neg (hne a ha)]; exact (h.own a ha).2⟩
     · simp only [if_neg e1, if_neg e2]
       exact ⟨(h.own i hi).1, by rw [aG, if_neg (hne i hi)]; exact (h.own i hi).2⟩
 · have hσ : ∀ i, (if i = a then β k else if i = k then β a else β i) = β (if i = a then k else if i = k then a else i) := fun i => by split; rfl; split <;> rfl
   simp only [hσ] at e
   have hl : ∀ i, i < n → (if i = a then k else if i = k then a else i) < n := fun i hi => by split; omega; split <;> omega
   have h9 := h.inj _ _ (hl i hi) (hl j hj) e
   revert h9
   split <;> split <;> (try split) <;> (try split) <;> omega
theorem dG.put_other {m:aF} {b n w t:Nat} {fl:Bool} {β:Nat→Nat} {M:Mx} (h:dG m b n w t fl β M) {x:Nat} {y:Option eP} (h1:b≠x) (h2:∀ i,i < t→β i≠x):dG (m.put x y) b n w t fl β M :=
 h.keep (Nat.le_refl _) fun j k hj _ hc=>by
  rw [aG,if_neg]
  ·exact hj
  ·rintro rfl
   rcases hc with rfl | ⟨i,hi,rfl⟩
   ·exact h1 rfl
   ·exact h2 i hi rfl
structure tU (m:aF) (b1 b2 N:Nat) (f1 f2:Bool) (β γ:Nat→Nat) (M B:Mx):Prop where
 one:dG m b1 N N N f1 β M
 two:dG m b2 N N N f2 γ B
 ne:b1≠b2
 rows:∀ i j,i < N→j < N→β i≠γ j
theorem tU.cross {m:aF} {b1 b2 N:Nat} {f1 f2:Bool} {β γ:Nat→Nat} {M B:Mx} (h:tU m b1 b2 N f1 f2 β γ M B) {i:Nat} (hi:i < N):β i≠b2∧γ i≠b1:=by
 obtain ⟨c1,r1,_⟩:=h.one.row
 obtain ⟨c2,r2,_⟩:=h.two.row
 constructor
 ·intro e
  have:=(h.one.own i hi).2
  rw [e,r2] at this
  simp at this
 ·intro e
  have:=(h.two.own i hi).2
  rw [e,r1] at this
  simp at this
def kS:Nat→Bool:=fun d=>d != 45 && d != 49 && d != 59 && d != 63 && d != 111 && d != 116 && d != 121 && d != 126 && d != 117 && d != 127
theorem atv (m0:aF) (b1 b2 N:Nat) (g1 g2 f1 f2:Bool) (β γ:Nat→Nat) (M B:Mx) (hN:1≤N) (hN2:N≤32) (h:tU m0 b1 b2 N f1 f2 β γ M B):fA Tryz.prog 326 [.sl b1 0 N N g1,.sl b2 0 N N g2] m0 fun r m'=>∃ β' γ',r=aD ((gsol N M B N).n:Nat)∧tU m' b1 b2 N f1 f2 β' γ' (gsol N M B N).m (gsol N M B N).b:=by
 have hI:=amG
 simp only [aU] at hI
 obtain ⟨cells0,hr0,hcl0,hat0⟩:=h.one.row
 have hc0:=hat0 0 (by omega)
 have hN0:0 < N:=by omega
 replace hN:=aB.mk hN
 replace hN2:=aB.mk hN2
 refine bZ follows Tryz.func326 (by unfold Tryz.f326;rfl) (by unfold Tryz.f326;simp) kS (by unfold Tryz.f326;simp) (by kernel_rfl) ?_;unfold Tryz.f326
 simp only [↓pre,simprocAttr,aA,sx,lF,kS,bne,aC,aI,aJ,aG,aH,cG,aU,hN0,hr0,hc0,sr]
 rw [b9]
 refine cA (fun q e m=>∃ j β γ,q+j=N∧e 0 = .sl b1 0 N N g1∧e 1 = .sl b2 0 N N g2∧e 5=aD ((gsol N M B j).n:Nat)∧e 15=aD (N:Nat)∧e 16=aD (j:Nat)∧aB (tU m b1 b2 N f1 f2 β γ (gsol N M B j).m (gsol N M B j).b)) N ⟨0,β,γ,by omega,rfl,rfl,rfl,rfl,rfl,⟨h⟩⟩ ?_
 rintro q e m ⟨j,β,γ,hq,e0,e1,e5,e15,e16,hJ⟩
 replace hq:=aB.mk hq
 have hgs:gsol N M B (j+1)=sC N j (gsol N M B j):=rfl
 have hsn:=agV (N:=N) M B j
 generalize hse:gsol N M B j=s at *
 replace hse:=aB.mk hse
 by_cases hlt:j < N
 ·have hlt':((j:Nat):Int) < ((N:Nat):Int):=by omega
  have w1:=cI (n:=j) (by have:=hN2.out;omega)
  replace hsn:=aB.mk hsn
  simp only [↓pre,simprocAttr,aA,sx,lF,kS,bne,aC,aI,aJ,aG,aH,cG,aU,e0,e1,e5,e15,e16,hlt',sr]
  rw [b9]
  refine xE (fun e m'=>e 0 = .sl b1 0 N N g1∧e 1 = .sl b2 0 N N g2∧e 5=aD (s.n:Nat)∧e 6=aD (j:Nat)∧e 7=aD (dZ s.m j (N - s.n) s.n:Nat)∧e 15=aD (N:Nat)∧e 16=aD (j:Nat)∧m'=m) (fun e m' hR => ?_) ?_
  ·obtain ⟨e0,e1,e5,e6,e7,e15,e16,rfl⟩:=hR
   have hpg:=x3 s.m j (N - s.n) s.n
   by_cases hp:dZ s.m j (N - s.n) s.n=N
   ·have hst:sC N j s=s:=by unfold sC;simp only [hp,Nat.le_refl,if_true]
    rw [hp] at e7
    simp only [↓pre,simprocAttr,aA,sx,lF,kS,bne,aC,aI,aJ,aG,aH,cG,aU,e0,e1,e5,e6,e7,e15,e16,w1,sr]
    refine ⟨q - 1,by have:=hq.out;omega,j+1,β,γ,by have:=hq.out;omega,by rw [hgs,hst],rfl, ?_⟩
    rw [hgs,hst];exact hJ
   ·have hpN:dZ s.m j (N - s.n) s.n < N:=by have:=hsn.out;omega
    have hne:=acO s.m j (N - s.n) s.n (by have:=hsn.out;omega)
    have hgs2:sC N j s=⟨s.n+1,fN (mE (eI s.m (dZ s.m j (N - s.n) s.n) s.n) s.n (cR (eI s.m (dZ s.m j (N - s.n) s.n) s.n s.n j))) s.n (fun i=>mE (eI s.m (dZ s.m j (N - s.n) s.n) s.n) s.n (cR (eI s.m (dZ s.m j (N - s.n) s.n) s.n s.n j)) i j),fN (mE (eI s.b (dZ s.m j (N - s.n) s.n) s.n) s.n (cR (eI s.m (dZ s.m j (N - s.n) s.n) s.n s.n j))) s.n (fun i=>mE (eI s.m (dZ s.m j (N - s.n) s.n) s.n) s.n (cR (eI s.m (dZ s.m j (N - s.n) s.n) s.n s.n j)) i j)⟩:=by unfold sC;simp only [if_neg (show ¬ N≤dZ s.m j (N - s.n) s.n by omega)]
    rw [hgs2] at hgs
    clear hgs2
    obtain ⟨n,M1,B1⟩:=s
    simp only at *
    generalize dZ M1 j (N - n) n=a at *
    have hnN:n < N:=by omega
    have hpa:¬ ((a:Nat):Int)=((N:Nat):Int):=by omega
    replace hgs:=aB.mk hgs
    replace hpg:=aB.mk hpg
    replace hne:=aB.mk hne
    obtain ⟨cells,hrow,hcl,hat⟩:=hJ.out.one.row
    obtain ⟨cells',hrow',hcl',hat'⟩:=hJ.out.two.row
    have hca:=hat a hpN
    have hcn:=hat n hnN
    have hca':=hat' a hpN
    have hcn':=hat' n hnN
    have hb12:=hJ.out.ne
    have hb21:¬ b2=b1:=fun h=>hb12 h.symm
    have hsw1:=hJ.out.one.swap hpN hnN hrow
    have hsw2:=hJ.out.two.swap hpN hnN hrow'
    replace hat:=aB.mk hat
    replace hat':=aB.mk hat'
    replace hsw1:=aB.mk hsw1
    replace hsw2:=aB.mk hsw2
    have hla1:a+1≤cells.length:=by omega
    have hla2:a+1≤cells'.length:=by omega
    have hln1:n+1≤(cells.take a++[AV.sl (β n) 0 N N f1]++cells.drop (a+1)).length:=by simp;omega
    have hln2:n+1≤(cells'.take a++[AV.sl (γ n) 0 N N f2]++cells'.drop (a+1)).length:=by simp;omega
    simp only [↓pre,simprocAttr,aA,sx,lF,kS,bne,aC,aI,aJ,aG,aH,cG,aU,e0,e1,e5,e6,e7,e15,e16,hpa,hpN,hnN,hrow,hca,hcn,hla1,hln1,sr]
    refine dJ (by kernel_rfl) ?_
    simp only [↓pre,simprocAttr,aA,sx,lF,kS,bne,aC,aI,aJ,aG,aH,cG,aU,e0,e1,e5,e6,e7,e15,e16,hpa,hpN,hnN,hrow,hca,hcn,hla1,hln1,sr]
    refine dJ (by kernel_rfl) ?_
    simp only [↓pre,simprocAttr,aA,sx,lF,kS,bne,aC,aI,aJ,aG,aH,cG,aU,e0,e1,e5,e6,e7,e15,e16,x7,hpN,hnN,hrow',hb21,hca',hcn',hla2,hln2,sr]
    refine dJ (by kernel_rfl) ?_
    simp only [↓pre,simprocAttr,aA,sx,lF,kS,bne,aC,aI,aJ,aG,aH,cG,aU,e0,e1,e5,e6,e7,e15,e16,x7,hpN,hnN,hrow',hb21,hca',hcn',hla2,hln2,sr]
    refine dJ (by kernel_rfl) ?_
    have hT:tU ((m'.put b1 (some ⟨cN (cN cells a [.sl (β n) 0 N N f1]) n [.sl (β a) 0 N N f1],52,.var,true⟩)).put b2 (some ⟨cN (cN cells' a [.sl (γ n) 0 N N f2]) n [.sl (γ a) 0 N N f2],52,.var,true⟩)) b1 b2 N f1 f2 (fun i=>if i=a then β n else if i=n then β a else β i) (fun i=>if i=a then γ n else if i=n then γ a else γ i) (eI M1 a n) (eI B1 a n):=by
     refine ⟨hsw1.out.put_other hb12 fun i hi => ?_, ?_,hb12,fun i j hi hj => ?_⟩
     ·split
      ·exact (hJ.out.cross hnN).1
      ·split
       ·exact (hJ.out.cross hpN).1
       ·exact (hJ.out.cross hi).1
     ·refine hsw2.out.keep (Nat.le_refl _) fun j k hj _ hc => ?_
      rw [aG] at hj ⊢
      by_cases e9:j=b2
      ·rw [if_pos e9] at hj ⊢;exact hj
      ·rw [if_neg e9] at hj ⊢
       rw [aG,if_neg]
       ·exact hj
       ·rintro rfl
        rcases hc with h9 | ⟨i,hi,h9⟩
        ·exact e9 h9
        ·split at h9
         ·exact (hJ.out.cross hnN).2 h9.symm
         ·split at h9
          ·exact (hJ.out.cross hpN).2 h9.symm
          ·exact (hJ.out.cross hi).2 h9.symm
     ·repeat' split
      all_goals exact hJ.out.rows _ _ (by assumption) (by assumption)
    unfold cN at hT
    simp only [List.length_cons,List.length_nil,Nat.zero_add] at hT
    generalize hβ1:(fun i=>if i=a then β n else if i=n then β a else β i)=β1 at hT
    generalize hγ1:(fun i=>if i=a then γ n else if i=n then γ a else γ i)=γ1 at hT
    generalize hmm1:aF.put (aF.put m' b1 _) b2 _=m1 at hT
    clear hmm1
    have hpiv:eI M1 a n n j≠0:=by
     have:=hne.out
     unfold eI
     by_cases e9:n=a
     ·rw [if_pos e9];rw [←e9] at this;exact this
     ·rw [if_neg e9,if_pos rfl];exact this
    generalize hM2:eI M1 a n=M2 at hT hgs hpiv
    generalize hB2:eI B1 a n=B2 at hT hgs
    have hIc:=hI (M2 n j)
    rw [if_neg hpiv,if_neg hpiv] at hIc
    generalize hc:cR (M2 n j)=c at hIc hgs
    replace hpiv:=aB.mk hpiv
    obtain ⟨cells1,hrow1,hcl1,hat1⟩:=hT.one.row
    obtain ⟨cells2,hrow2,hcl2,hat2⟩:=hT.two.row
    have hc1:=hat1 n hnN
    have hc2:=hat2 n hnN
    obtain ⟨hbl1,hblk1⟩:=hT.one.own n hnN
    obtain ⟨hbl2,hblk2⟩:=hT.two.own n hnN
    have hcell:=iN (w:=N) (M2 n) hlt
    simp only [aU] at hcell
    have hx1:=hT.cross hnN
    have hne1:=hT.one.ne hnN
    have hne2:=hT.two.ne hnN
    have hr12:=hT.rows n n hnN hnN
    have hb1n:¬ b1=β1 n:=fun h=>hne1 h.symm
    have hb2n:¬ b2=β1 n:=fun h=>hx1.1 h.symm
    have hγn:¬ γ1 n=β1 n:=fun h=>hr12 h.symm
    have ht1:=amN m1 (β1 n) N f1 (M2 n) c (by have:=hN2.out;omega) hblk1
    have ht2:=amN (m1.put (β1 n) (some ⟨bA N (fun j=>aR (M2 n j) c),5,.flat,true⟩)) (γ1 n) N f2 (B2 n) c (by have:=hN2.out;omega) (by rw [aG,if_neg hγn];exact hblk2)
    have hT2:tU ((m1.put (β1 n) (some ⟨bA N (fun j=>aR (M2 n j) c),5,.flat,true⟩)).put (γ1 n) (some ⟨bA N (fun j=>aR (B2 n j) c),5,.flat,true⟩)) b1 b2 N f1 f2 β1 γ1 (mE M2 n c) (mE B2 n c):=by
     refine ⟨((hT.one.put_row hnN _).put_other (fun h=>hx1.2 h.symm) fun i hi=>hT.rows i n hi hnN).congr fun i hi j hj=>by simp only [mE];split <;> rfl, ?_,hT.ne,hT.rows⟩
     refine dG.congr (dG.put_row (hT.two.put_other (fun h=>hx1.1 h.symm) fun i hi=>fun h=>hT.rows n i hnN hi h.symm) hnN _) fun i hi j hj=>by simp only [mE];split <;> rfl
    replace hat1:=aB.mk hat1
    replace hat2:=aB.mk hat2
    simp only [aU] at ht1 ht2
    simp only [↓pre,simprocAttr,aA,sx,lF,kS,bne,aC,aI,aJ,aG,aH,cG,aU,e0,e1,e5,e6,e7,e15,e16,hrow1,hnN,hc1,hblk1,hlt,hcell,sr]
    refine aM (hIc) (by rfl) ?_;simp only [↓pre,simprocAttr,aA,sx,lF,kS,bne,aC,aI,aJ,aG,aH,cG,aU,e0,e1,e5,e6,e7,e15,e16,hrow1,hnN,hc1,hblk1,hlt,hcell,sr]
    refine pY ht1 ?_
    simp only [↓pre,simprocAttr,aA,sx,lF,kS,bne,aC,aI,aJ,aG,aH,cG,aU,e0,e1,e5,e6,e7,e15,e16,hrow2,hnN,hc2,hb2n,sr]
    refine pY ht2 ?_
    generalize hmm2:aF.put (aF.put m1 (β1 n) _) (γ1 n) _=m2 at hT2
    clear hmm2
    simp only [↓pre,simprocAttr,aA,sx,lF,kS,bne,aC,aI,aJ,aG,aH,cG,aU,e0,e1,e5,e6,e7,e15,e16,sr]
    rw [b9]
    generalize hM3:mE M2 n c=M3 at hT2 hgs
    generalize hB3:mE B2 n c=B3 at hT2 hgs
    refine cA (fun q' e m'=>∃ i,q'+i=N∧e 0 = .sl b1 0 N N g1∧e 1 = .sl b2 0 N N g2∧e 5=aD (n:Nat)∧e 6=aD (j:Nat)∧e 15=aD (N:Nat)∧e 16=aD (j:Nat)∧e 90=aD (N:Nat)∧e 91=aD (i:Nat)∧aB (tU m' b1 b2 N f1 f2 β1 γ1 (fun i' q=>if i' < i then fN M3 n (fun i=>M3 i j) i' q else M3 i' q) (fun i' q=>if i' < i then fN B3 n (fun i=>M3 i j) i' q else B3 i' q))) N ⟨0,by omega,e0,e1,e5,e6,e15,e16,rfl,rfl,⟨?_⟩⟩ ?_
    ·refine ⟨hT2.one.congr fun i hi j hj => ?_,hT2.two.congr fun i hi j hj => ?_,hT2.ne,hT2.rows⟩
     ·rw [if_neg (by omega)]
     ·rw [if_neg (by omega)]
    rintro q' e m' ⟨i,hq',e0,e1,e5,e6,e15,e16,e90,e91,hJ3⟩
    replace hq':=aB.mk hq'
    by_cases hli:i < N
    ·have hli':((i:Nat):Int) < ((N:Nat):Int):=by omega
     have wi:=cI (n:=i) (by have:=hN2.out;omega)
     obtain ⟨cells3,hrow3,hcl3,hat3⟩:=hJ3.out.one.row
     obtain ⟨cells4,hrow4,hcl4,hat4⟩:=hJ3.out.two.row
     have hr3i:=hat3 i hli
     have hr3n:=hat3 n hnN
     have hr4i:=hat4 i hli
     have hr4n:=hat4 n hnN
     obtain ⟨hbi1,hbk1⟩:=hJ3.out.one.own i hli
     obtain ⟨hbi2,hbk2⟩:=hJ3.out.two.own i hli
     obtain ⟨hbn1,hbkn1⟩:=hJ3.out.one.own n hnN
     obtain ⟨hbn2,hbkn2⟩:=hJ3.out.two.own n hnN
     have hcell3:=iN (w:=N) (fun q=>if i < i then fN M3 n (fun i=>M3 i j) i q else M3 i q) hlt
     simp only [Nat.lt_irrefl,if_false,aU] at hcell3 hbk1 hbk2
     have hx:=hJ3.out.cross hli
     have hxn:=hJ3.out.cross hnN
     have hwn:∀ (X:Mx) (k:Nat→UInt8),(fun q=>if n < i then fN X n k n q else X n q)=X n:=fun X k=>by
      funext q
      split
      ·unfold fN;rw [if_pos rfl]
      ·rfl
     rw [hwn] at hbkn1 hbkn2
     replace hat3:=aB.mk hat3
     replace hat4:=aB.mk hat4
     have hskip:(i=n∨M3 i j=0)→tU m' b1 b2 N f1 f2 β1 γ1 (fun i' q=>if i' < i+1 then fN M3 n (fun i=>M3 i j) i' q else M3 i' q) (fun i' q=>if i' < i+1 then fN B3 n (fun i=>M3 i j) i' q else B3 i' q):=by
      intro hor
      have hk:∀ (X:Mx) (i' q:Nat),(if i' < i then fN X n (fun i=>M3 i j) i' q else X i' q)=(if i' < i+1 then fN X n (fun i=>M3 i j) i' q else X i' q):=fun X i' q=>by
       by_cases e9:i' < i
       ·rw [if_pos e9,if_pos (by omega)]
       ·rw [if_neg e9]
        by_cases e8:i'=i
        ·subst e8
         rw [if_pos (by omega)]
         unfold fN
         rcases hor with h9 | h9
         ·rw [if_pos h9]
         ·split
          ·rfl
          ·simp only [h9];rw [tS,r7]
        ·rw [if_neg (by omega)]
      exact ⟨hJ3.out.one.congr fun i' hi' q hq=>hk M3 i' q,hJ3.out.two.congr fun i' hi' q hq=>hk B3 i' q,hJ3.out.ne,hJ3.out.rows⟩
     replace hskip:=aB.mk hskip
     by_cases hin:i=n
     ·subst hin
      simp only [↓pre,simprocAttr,aA,sx,lF,kS,bne,aC,aI,aJ,aG,aH,cG,aU,e0,e1,e5,e6,e15,e16,e90,e91,hli',hrow3,hli,hr3i,hbk1,hlt,hcell3,wi,sr]
      exact ⟨q' - 1,by have:=hq'.out;omega,i+1,by have:=hq'.out;omega,rfl,⟨hskip.out (.inl rfl)⟩⟩
     ·have hin':¬ ((i:Nat):Int)=((n:Nat):Int):=by omega
      by_cases hz:M3 i j=0
      ·have hz':(((M3 i j).toNat:Nat):Int)=0:=by rw [hz];rfl
       simp only [↓pre,simprocAttr,aA,sx,lF,kS,bne,aC,aI,aJ,aG,aH,cG,aU,e0,e1,e5,e6,e15,e16,e90,e91,hli',hrow3,hli,hr3i,hbk1,hlt,hcell3,hin',hz',wi,sr]
       exact ⟨q' - 1,by have:=hq'.out;omega,i+1,by have:=hq'.out;omega,rfl,⟨hskip.out (.inr hz)⟩⟩
      ·have hz':¬ (((M3 i j).toNat:Nat):Int)=0:=by
        intro hh
        exact hz (UInt8.toNat_inj.1 (by simp;omega))
       have hβin:¬ β1 i=β1 n:=fun h=>hin (hJ3.out.one.inj i n hli hnN h)
       have hγin:¬ γ1 i=γ1 n:=fun h=>hin (hJ3.out.two.inj i n hli hnN h)
       have hp1:=amO m' (β1 i) (β1 n) N f1 f1 (M3 i) (M3 n) (M3 i j) (by have:=hN2.out;omega) hβin hbk1 hbkn1
       have hq1:¬ γ1 i=β1 i:=fun h=>hJ3.out.rows i i hli hli h.symm
       have hq2:¬ γ1 n=β1 i:=fun h=>hJ3.out.rows i n hli hnN h.symm
       have hq3:¬ b2=β1 i:=fun h=>hx.1 h.symm
       have hp2:=amO (m'.put (β1 i) (some ⟨bA N (fun q=>M3 i q ^^^ aR (M3 i j) (M3 n q)),5,.flat,true⟩)) (γ1 i) (γ1 n) N f2 f2 (B3 i) (B3 n) (M3 i j) (by have:=hN2.out;omega) hγin (by rw [aG,if_neg hq1];exact hbk2) (by rw [aG,if_neg hq2];exact hbkn2)
       have hT4:tU ((m'.put (β1 i) (some ⟨bA N (fun q=>M3 i q ^^^ aR (M3 i j) (M3 n q)),5,.flat,true⟩)).put (γ1 i) (some ⟨bA N (fun q=>B3 i q ^^^ aR (M3 i j) (B3 n q)),5,.flat,true⟩)) b1 b2 N f1 f2 β1 γ1 (fun i' q=>if i' < i+1 then fN M3 n (fun i=>M3 i j) i' q else M3 i' q) (fun i' q=>if i' < i+1 then fN B3 n (fun i=>M3 i j) i' q else B3 i' q):=by
        have hk:∀ (X:Mx) (i' q:Nat),(if i'=i then (fun q=>X i q ^^^ aR (M3 i j) (X n q)) else fun q=>if i' < i then fN X n (fun i=>M3 i j) i' q else X i' q) q=(if i' < i+1 then fN X n (fun i=>M3 i j) i' q else X i' q):=fun X i' q=>by
         by_cases e8:i'=i
         ·subst e8
          rw [if_pos rfl,if_pos (by omega)]
          unfold fN
          rw [if_neg hin]
         ·rw [if_neg e8]
          by_cases e9:i' < i
          ·simp only [if_pos e9,if_pos (show i' < i+1 by omega)]
          ·simp only [if_neg e9,if_neg (show ¬ i' < i+1 by omega)]
        refine ⟨((hJ3.out.one.put_row hli _).put_other (fun h=>hx.2 h.symm) fun i' hi'=>hJ3.out.rows i' i hi' hli).congr fun i' hi' q hq=>hk M3 i' q, ?_,hJ3.out.ne,hJ3.out.rows⟩
        exact (dG.put_row (hJ3.out.two.put_other (fun h=>hx.1 h.symm) fun i' hi'=>fun h=>hJ3.out.rows i i' hli hi' h.symm) hli _).congr fun i' hi' q hq=>hk B3 i' q
       replace hskip:=aB.mk hskip
       simp only [aU] at hp1 hp2
       simp only [↓pre,simprocAttr,aA,sx,lF,kS,bne,aC,aI,aJ,aG,aH,cG,aU,e0,e1,e5,e6,e15,e16,e90,e91,hli',hrow3,hli,hr3i,hr3n,hnN,hbk1,hlt,hcell3,hin',hz',wi,sr]
       refine pY hp1 ?_
       refine dJ (by kernel_rfl) ?_
       simp only [↓pre,simprocAttr,aA,sx,lF,kS,bne,aC,aI,aJ,aG,aH,cG,aU,e0,e1,e5,e6,e15,e16,e90,e91,hli',hrow4,hq3,hli,hr4i,hr4n,hnN,hlt,hin',hz',wi,sr]
       refine pY hp2 ?_
       refine dJ (by kernel_rfl) ?_
       generalize hmm5:aF.put (aF.put m' (β1 i) _) (γ1 i) _=m5 at hT4
       clear hmm5
       simp only [↓pre,simprocAttr,aA,sx,lF,kS,bne,aC,aI,aJ,aG,aH,cG,aU,e0,e1,e5,e6,e15,e16,e90,e91,hli',wi,sr]
       exact ⟨q' - 1,by have:=hq'.out;omega,i+1,by have:=hq'.out;omega,rfl,⟨hT4⟩⟩
    ·have hli':¬ ((i:Nat):Int) < ((N:Nat):Int):=by omega
     have hiN:i=N:=by have:=hq'.out;omega
     subst hiN
     have wn:=cI (n:=n) (by have:=hN2.out;omega)
     simp only [↓pre,simprocAttr,aA,sx,lF,kS,bne,aC,aI,aJ,aG,aH,cG,aU,e0,e1,e5,e6,e15,e16,e90,e91,hli',wn,w1,sr]
     refine ⟨q - 1,by have:=hq.out;omega,j+1,β1,γ1,by have:=hq.out;omega,by rw [hgs.out],rfl,⟨?_⟩⟩
     rw [hgs.out]
     refine ⟨hJ3.out.one.congr fun i' hi j' hj => ?_,hJ3.out.two.congr fun i' hi j' hj => ?_,hJ3.out.ne,hJ3.out.rows⟩
     ·simp only [if_pos hi]
     ·simp only [if_pos hi]
  ·refine cA (fun q' e m'=>∃ a,q'+a=N∧s.n≤a∧e 0 = .sl b1 0 N N g1∧e 1 = .sl b2 0 N N g2∧e 5=aD (s.n:Nat)∧e 6=aD (j:Nat)∧e 7=aD (a:Nat)∧e 15=aD (N:Nat)∧e 16=aD (j:Nat)∧aB (dZ s.m j (N - s.n) s.n=dZ s.m j (N - a) a)∧m'=m) (N - s.n) ⟨s.n,by have:=hsn.out;omega,Nat.le_refl _,e0,e1,e5,rfl,rfl,e15,e16,⟨rfl⟩,rfl⟩ ?_
   rintro q' e m' ⟨a,hq',han,e0,e1,e5,e6,e7,e15,e16,hpv,rfl⟩
   replace hq':=aB.mk hq'
   replace han:=aB.mk han
   by_cases hla:a < N
   ·have hla':((a:Nat):Int) < ((N:Nat):Int):=by omega
    obtain ⟨cells,hrow,hcl,hat⟩:=hJ.out.one.row
    have hca:=hat a hla
    obtain ⟨hbl,hblk⟩:=hJ.out.one.own a hla
    have hcell:=iN (w:=N) (s.m a) hlt
    simp only [aU] at hcell
    have wa:=cI (n:=a) (by have:=hN2.out;omega)
    have hNa:N - a=(N - (a+1))+1:=by omega
    have hpu:dZ s.m j (N - a) a=if s.m a j≠0 then a else dZ s.m j (N - (a+1)) (a+1):=by rw [hNa];rfl
    replace hat:=aB.mk hat
    replace hNa:=aB.mk hNa
    by_cases hz:s.m a j=0
    ·have hz':(((s.m a j).toNat:Nat):Int)=0:=by rw [hz];rfl
     rw [if_neg (by simp [hz])] at hpu
     replace hpu:=aB.mk hpu
     simp only [↓pre,simprocAttr,aA,sx,lF,kS,bne,aC,aI,aJ,aG,aH,cG,aU,e0,e1,e5,e6,e7,e15,e16,hla',hla,hrow,hca,hlt,hblk,hcell,hz',wa,sr]
     exact ⟨q' - 1,by have:=hq'.out;omega,a+1,by have:=hq'.out;omega,by have:=han.out;omega,rfl,⟨by rw [hpv.out,hpu.out]⟩⟩
    ·have hz':¬ (((s.m a j).toNat:Nat):Int)=0:=by
      intro hh
      exact hz (UInt8.toNat_inj.1 (by simp;omega))
     rw [if_pos hz] at hpu
     replace hpu:=aB.mk hpu
     simp only [↓pre,simprocAttr,aA,sx,lF,kS,bne,aC,aI,aJ,aG,aH,cG,aU,e0,e1,e5,e6,e7,e15,e16,hla',hla,hrow,hca,hlt,hblk,hcell,hz',wa,sr]
     rw [hpv.out,hpu.out]
   ·have hla':¬ ((a:Nat):Int) < ((N:Nat):Int):=by omega
    have haN:a=N:=by have:=hq'.out;omega
    subst haN
    have hpu:dZ s.m j (a - a) a=a:=by rw [Nat.sub_self];rfl
    simp only [↓pre,simprocAttr,aA,sx,lF,kS,bne,aC,aI,aJ,aG,aH,cG,aU,e0,e1,e5,e6,e7,e15,e16,hla',sr]
    rw [hpv.out,hpu]
 ·have hlt':¬ ((j:Nat):Int) < ((N:Nat):Int):=by omega
  have hjN:j=N:=by have:=hq.out;omega
  subst hjN
  simp only [↓pre,simprocAttr,aA,sx,lF,kS,bne,aC,aI,aJ,aG,aH,cG,aU,e0,e1,e5,e15,e16,hlt',sr]
  have:=hse.out
  subst this
  exact ⟨β,γ,rfl,hJ.out⟩
theorem atw (v:AV) (n:Nat) (M:Mx) (cells:List AV) (hv:sG v n n M cells) (hn:1≤n) (hn2:n≤32) (hM:aey n M):aX Tryz.prog 291 [v] ⟨.tup [.tree n n (mG true n n (lV n M)) true,aD 0],[]⟩:=by
 refine eA ?_
 have hp:=hv.rd.plain
 have hcl:n≤cells.length:=by
  obtain ⟨a,x,h,_⟩:=hv.at_ (n - 1) (by omega)
  have:=(List.getElem?_eq_some_iff.1 h).1
  omega
 have hck:=atl v n n M cells hv hn hn2 hn hn2
 have hone:=fun m=>amM m n hn hn2
 have htw:=fun m=>atu m v n n M cells hv hn hn2 hn hn2 hcl
 have hso:=fun m b1 b2 g1 g2 f1 f2 β γ h=>atv m b1 b2 n g1 g2 f1 f2 β γ M jE hn hn2 h
 have hok:=(as6 hM).1
 rw [hok] at hso
 obtain ⟨a0,x0,hc0,hr0⟩:=hv.at_ 0 (by omega)
 have hn0:0 < n:=by omega
 have hnn:¬ ((n:Nat):Int) < ((n:Nat):Int):=by omega
 have hme:aF.empty.next=0:=rfl
 refine bZ follows Tryz.func291 (by unfold Tryz.f291;rfl) (by unfold Tryz.f291;simp) aE (by unfold Tryz.f291;simp) (by kernel_rfl) ?_;unfold Tryz.f291
 simp only [↓pre,simprocAttr,aA,sx,acx,aE,aC,aI,sr]
 refine aM (hck) (by simp only [aA,aV, *]) ?_;simp only [↓pre,simprocAttr,aA,sx,acx,aE,aC,aI,hv.rd.len',hv.rd.addr',hn0,hc0,hr0.len',sr]
 refine m9 (hone _) ?_
 rintro r m1 ⟨β,rfl,h1,h2,h3,h4⟩
 simp only [↓pre,simprocAttr,aA,sx,acx,aE,aC,aI,hv.rd.len',sr]
 refine m9 (htw m1) ?_
 rintro r m2 ⟨γ,rfl,g1,g2,g3,g4⟩
 have hlt1:=h1.lt
 have hT:tU m2 m1.next aF.empty.next n false true γ β M jE:=by
  refine ⟨g1,h1.keep (Nat.le_of_lt (Nat.lt_of_lt_of_le (Nat.lt_succ_self _) (by have:=g1.lt;omega))) fun j k hj hlt _=>g3 j k hj hlt,by omega,fun i j hi hj => ?_⟩
  have e1:=g2 i hi
  have e2:=(h1.own j hj).1
  omega
 simp only [↓pre,simprocAttr,aA,sx,acx,aE,aC,aI,hv.rd.len',sr]
 refine m9 (hso m2 _ _ _ _ _ _ _ _ hT) ?_
 rintro r m3 ⟨β',γ',rfl,q1⟩
 simp only [↓pre,simprocAttr,aA,sx,acx,aE,aC,aI,hv.rd.len',hnn,sr]
 exact ⟨1,by rw [j6,dY,q1.two.fzT,Option.bind_some,dY,fZ,i7];rfl⟩
theorem atx (v:AV) (L:List (List UInt8)) (cells:List AV) (n:Nat) (hv:gI v L cells) (hl:∀ b∈L,b.length=n) (hn:n≤65536) (hL:L.length≤65536):aX Tryz.prog 301 [v] ⟨bB true,[]⟩:=by
 have hp:=hv.rd.plain
 have k2:¬ (65536:Int) < ((n:Nat):Int):=by omega
 replace hl:=aB.mk hl
 refine bE follows Tryz.func301 (by unfold Tryz.f301;rfl) (by unfold Tryz.f301;simp) aE (by unfold Tryz.f301;simp) (by kernel_rfl) ?_;unfold Tryz.f301
 simp only [↓pre,simprocAttr,aA,sx,agr,aE,aC,aI,hv.rd.len',sr]
 rw [b9]
 refine cA (fun q e m=>∃ i,q+i=L.length∧e 0=v∧e 5=v∧e 6=aD (L.length:Nat)∧e 7=aD (i:Nat)) L.length ⟨0,by omega,rfl,rfl,rfl,rfl⟩ ?_
 rintro q e m ⟨i,hq,e0,e5,e6,e7⟩
 replace hq:=aB.mk hq
 by_cases hlt:i < L.length
 ·have hlt':((i:Nat):Int) < ((L.length:Nat):Int):=by omega
  have w1:=cI (n:=i) (by omega)
  obtain ⟨b,hb⟩:∃ b,L[i]? = some b:=⟨_,List.getElem?_eq_getElem hlt⟩
  obtain ⟨b0,hb0⟩:∃ b,L[0]? = some b:=⟨_,List.getElem?_eq_getElem (by omega)⟩
  have h0:0 < L.length:=by omega
  obtain ⟨a,x,hc,hr⟩:=hv.at_ i b hb
  obtain ⟨a0,x0,hc0,hr0⟩:=hv.at_ 0 b0 hb0
  have e1:=hl.out b (List.mem_of_getElem? hb)
  have e2:=hl.out b0 (List.mem_of_getElem? hb0)
  rw [e1] at hr
  rw [e2] at hr0
  replace hb:=aB.mk hb
  replace hb0:=aB.mk hb0
  simp only [↓pre,simprocAttr,aA,sx,agr,aE,aC,aI,e0,e5,e6,e7,hv.rd.addr',hlt,hlt',hc,hr.len',h0,hc0,hr0.len',k2,w1,sr]
  exact ⟨q - 1,by have:=hq.out;omega,i+1,by have:=hq.out;omega,rfl⟩
 ·have hlt':¬ ((i:Nat):Int) < ((L.length:Nat):Int):=by omega
  simp only [↓pre,simprocAttr,aA,sx,agr,aE,aC,aI,e0,e5,e6,e7,hlt',sr]
theorem ag7 {m:aF} {x:eP} {y:Option eP} {b:eP} (h:y=some b):(m.push x).put m.next y=m.push b:=by
 subst h
 obtain ⟨n,a,mm⟩:=m
 unfold aF.put aF.push
 congr 1
 funext j
 simp only
 split <;> rfl
def wF:Nat→Bool:=fun d=>d != 6 && d != 29 && d != 35
theorem aty:eX Tryz.prog 338=some ((List.range 256).map fun _ => .int .u8 0):=by kernel_rfl
theorem atz (m0:aF) (b n:Nat) (f:Bool) (A B:Nat→UInt8) (c:UInt8) (vb:AV) (x:List AV) (hr:bC vb n (bA n B++x)) (hn:n≤65536) (hb:m0.at_ b=some ⟨bA n A,5,.flat,true⟩) (hbn:b < m0.next):fA Tryz.prog 302 [.sl b 0 n n f,aU c,vb] m0 fun r m'=>r = .tup []∧m'=(m0.push ⟨bA 256 (fun i=>aR c (UInt8.ofNat i)),338,.var,true⟩).put b (some ⟨bA n (fun j=>A j ^^^ aR c (B j)),5,.flat,true⟩):=by
 have hm:=ag3 c
 have ha:=agZ
 have hz:=aty
 have hp:=hr.plain
 simp only [aU] at hm ha
 refine bZ follows Tryz.func302 (by unfold Tryz.f302;rfl) (by unfold Tryz.f302;simp) wF (by unfold Tryz.f302;simp) (by kernel_rfl) ?_;unfold Tryz.f302
 simp only [↓pre,simprocAttr,aA,sx,xU,wF,bne,aC,aI,aL,aJ,aK,aG,aH,cG,aU,hz,sr]
 have hz2:List.map AV.val ((List.range 256).map fun _=>Value.int .u8 0)=bA 256 fun _=>0:=by
  unfold bA tab
  rw [List.map_map,List.map_map]
  rfl
 rw [hz2]
 rw [b9]
 refine cA (fun q e m=>∃ i,q+i=256∧e 0 = .sl b 0 n n f∧e 1=aU c∧e 2=vb∧e 6 = .ptr m0.next 0∧e 9=aD (i:Nat)∧m=m0.push ⟨bA 256 (fun j=>if j < i then aR c (UInt8.ofNat j) else 0),338,.var,true⟩) 256 ⟨0,by omega,rfl,rfl,rfl,rfl,rfl,rfl⟩ ?_
 rintro q e m ⟨i,hq,e0,e1,e2,e6,e9,rfl⟩
 replace hq:=aB.mk hq
 by_cases hlt:i < 256
 ·have hlt':((i:Nat):Int) < 256:=by omega
  have w1:=cI (n:=i) (by omega)
  have w2:=x5 hlt
  have hmi:=hm (UInt8.ofNat i)
  have hput:=x4 (w:=256) (f:=fun j=>if j < i then aR c (UInt8.ofNat j) else 0) (g:=fun j=>if j < i+1 then aR c (UInt8.ofNat j) else 0) hlt fun j hj=>by
   by_cases e:j=i
   ·subst e;rw [if_pos rfl]
   ·rw [if_neg e]
    by_cases e2:j < i
    ·rw [if_pos e2,if_pos (by omega)]
    ·rw [if_neg e2,if_neg (by omega)]
  simp only [show i < i+1 by omega,if_true] at hput
  unfold cN at hput
  simp only [List.length_cons,List.length_nil,Nat.zero_add,aU] at hput
  have hl1:i+1≤(bA 256 fun j=>if j < i then aR c (UInt8.ofNat j) else 0).length:=by rw [fC];omega
  simp only [↓pre,simprocAttr,aA,sx,xU,wF,bne,aC,aI,aL,aJ,aK,aG,aH,cG,aU,e0,e1,e2,e6,e9,hlt',w2,sr]
  refine aM (hmi) (by rfl) ?_;simp only [↓pre,simprocAttr,aA,sx,xU,wF,bne,aC,aI,aL,aJ,aK,aG,aH,cG,aU,e0,e1,e2,e6,e9,hlt,hl1,hput,ag7 rfl,w1,sr]
  exact ⟨q - 1,by have:=hq.out;omega,i+1,by have:=hq.out;omega,rfl,rfl⟩
 ·have hlt':¬ ((i:Nat):Int) < 256:=by omega
  have hi:i=256:=by have:=hq.out;omega
  subst hi
  have hT:bA 256 (fun j=>if j < 256 then aR c (UInt8.ofNat j) else 0)=bA 256 fun i=>aR c (UInt8.ofNat i):=sF fun j hj=>by rw [if_pos hj]
  rw [hT]
  generalize hTT:(bA 256 fun i=>aR c (UInt8.ofNat i))=T
  have hTat:∀ z:UInt8,T[z.toNat]? = some (.val (.int .u8 (aR c z).toNat)):=fun z=>by
   rw [←hTT,iN (w:=256) (fun i=>aR c (UInt8.ofNat i)) z.toNat_lt,UInt8.ofNat_toNat]
   rfl
  have hTl:∀ z:UInt8,z.toNat < 256:=fun z=>z.toNat_lt
  simp only [↓pre,simprocAttr,aA,sx,xU,wF,bne,aC,aI,aL,aJ,aK,aG,aH,cG,aU,e0,e1,e2,e6,e9,hlt',sr]
  rw [b9]
  refine cA (fun q e m=>∃ j,q+j=n∧e 0 = .sl b 0 n n f∧e 1=aU c∧e 2=vb∧e 6 = .ptr m0.next 0∧e 20=aD (n:Nat)∧e 21=aD (j:Nat)∧aB (m=(m0.push ⟨T,338,.var,true⟩).put b (some ⟨bA n (fun j'=>if j' < j then A j' ^^^ aR c (B j') else A j'),5,.flat,true⟩))) n ⟨0,by omega,e0,e1,e2,e6,rfl,rfl,⟨?_⟩⟩ ?_
  ·have:bA n (fun j'=>if j' < 0 then A j' ^^^ aR c (B j') else A j')=bA n A:=sF fun j _=>by rw [if_neg (by omega)]
   rw [this,abr]
   rw [aH,if_neg (by omega)]
   exact hb
  rintro q e m ⟨j,hq,e0,e1,e2,e6,e20,e21,hJ⟩
  replace hq:=aB.mk hq
  by_cases hlt:j < n
  ·have hlt':((j:Nat):Int) < ((n:Nat):Int):=by omega
   have w1:=cI (n:=j) (by omega)
   have hat:m.at_ b=some ⟨bA n (fun j'=>if j' < j then A j' ^^^ aR c (B j') else A j'),5,.flat,true⟩:=by rw [hJ.out,aG,if_pos rfl]
   have hat':m.at_ m0.next=some ⟨T,338,.var,true⟩:=by rw [hJ.out,aG,if_neg (by omega),aH,if_pos rfl]
   have hcell:=iN (w:=n) (fun j'=>if j' < j then A j' ^^^ aR c (B j') else A j') hlt
   have hcellB:(bA n B++x)[j]? = some (aU (B j)):=by rw [List.getElem?_append_left (by rw [fC];omega)];exact iN B hlt
   simp only [Nat.lt_irrefl,if_false,aU] at hcell hcellB
   have hput:=x4 (w:=n) (f:=fun j'=>if j' < j then A j' ^^^ aR c (B j') else A j') (g:=fun j'=>if j' < j+1 then A j' ^^^ aR c (B j') else A j') hlt fun j' hj'=>by
    by_cases e:j'=j
    ·subst e;rw [if_pos rfl]
    ·rw [if_neg e]
     by_cases e2:j' < j
     ·rw [if_pos e2,if_pos (by omega)]
     ·rw [if_neg e2,if_neg (by omega)]
   simp only [show j < j+1 by omega,if_true] at hput
   unfold cN at hput
   simp only [List.length_cons,List.length_nil,Nat.zero_add,aU] at hput
   have hl1:j+1≤(bA n fun j'=>if j' < j then A j' ^^^ aR c (B j') else A j').length:=by rw [fC];omega
   have haj:=ha (A j) (aR c (B j))
   have hTj:=hTat (B j)
   have hTl':=hTl (B j)
   simp only [↓pre,simprocAttr,aA,sx,xU,wF,bne,aC,aI,aL,aJ,aK,aG,aH,cG,aU,e0,e1,e2,e6,e20,e21,hlt',hlt,hat,hat',hcell,hcellB,hr.addr',hTj,hTl',sr]
   (refine cE (haj) (by rfl) (by intro k;rfl) ?_);simp only [↓pre,simprocAttr,aA,sx,xU,wF,bne,aC,aI,aL,aJ,aK,aG,aH,cG,aU,e0,e1,e2,e6,e20,e21,hlt,hat,hat',hcell,hl1,hput,sr]
   refine dJ (by kernel_rfl) ?_
   simp only [↓pre,simprocAttr,aA,sx,xU,wF,bne,aC,aI,aL,aJ,aK,aG,aH,cG,aU,e0,e1,e2,e6,e20,e21,w1,sr]
   refine ⟨q - 1,by have:=hq.out;omega,j+1,by have:=hq.out;omega,rfl,⟨?_⟩⟩
   rw [hJ.out,x7]
  ·have hlt':¬ ((j:Nat):Int) < ((n:Nat):Int):=by omega
   have hj:j=n:=by have:=hq.out;omega
   subst hj
   have hfin:=hJ.out
   have e0':bA j (fun j'=>if j' < j then A j' ^^^ aR c (B j') else A j')=bA j fun j'=>A j' ^^^ aR c (B j'):=sF fun x hx=>by rw [if_pos hx]
   rw [e0'] at hfin
   subst hfin
   simp only [↓pre,simprocAttr,aA,sx,xU,wF,bne,aC,aI,aL,aJ,aK,aG,aH,cG,aU,e0,e1,e2,e6,e20,e21,hlt',sr]
def o5 (N:Nat) (c:Nat→UInt8) (M:Mx):Nat→UInt8:=fun p=>gD N fun q=>aR (c q) (M q p)
def abt:Nat→Bool:=fun d=>d != 45
theorem atA (vc vl:AV) (N n:Nat) (c:Nat→UInt8) (M:Mx) (x:List AV) (cells:List AV) (hc:bC vc N (bA N c++x)) (hv:sG vl N n M cells) (hN:1≤N) (hN2:N≤16) (hn:n≤65536):fA Tryz.prog 245 [vc,vl] aF.empty fun r m=>r = .tup [.sl 0 0 n n true,aD 0]∧m.at_ 0=some ⟨bA n (o5 N c M),5,.flat,true⟩:=by
 have hp:=hv.rd.plain
 have hpc:=hc.plain
 have hlen:((List.range N).map fun i=>tab n (M i)).length=N:=by simp
 have hal:=atx vl _ cells n hv.rows (fun b hb=>by
  obtain ⟨i,_,rfl⟩:=List.mem_map.1 hb
  exact aeC _ _) hn (by rw [hlen];omega)
 have k1:¬ (16:Int) < ((N:Nat):Int):=by omega
 have k2:¬ ((N:Nat):Int)=0:=by omega
 have hN0:0 < N:=by omega
 obtain ⟨a0,x0,hc0,hr0⟩:=hv.at_ 0 hN0
 have hmk:=fun m=>sH m (n:=n) hn
 have hme:aF.empty.next=0:=rfl
 refine bZ follows Tryz.func245 (by unfold Tryz.f245;rfl) (by unfold Tryz.f245;simp) abt (by unfold Tryz.f245;simp) (by kernel_rfl) ?_;unfold Tryz.f245
 simp only [↓pre,simprocAttr,aA,sx,acs,abt,bne,aC,aI,aU,hv.rd.len',hc.len',k1,sr]
 refine aM (hal) (by simp only [aA,aV, *]) ?_;simp only [↓pre,simprocAttr,aA,sx,acs,abt,bne,aC,aI,aU,hv.rd.len',hv.rd.addr',hN0,hc0,hr0.len',k2,hmk,hme,sr]
 rw [b9]
 refine cA (fun q e m=>∃ i,q+i=N∧e 0=vc∧e 1=vl∧e 6 = .sl 0 0 n n true∧e 32=aD (N:Nat)∧e 33=aD (i:Nat)∧aB (m.at_ 0=some ⟨bA n (o5 i c M),5,.flat,true⟩∧0 < m.next)) N ⟨0,by omega,rfl,rfl,rfl,rfl,rfl,⟨rfl,by simp [aW]⟩⟩ ?_
 rintro q e m ⟨i,hq,e0,e1,e6,e32,e33,hJ⟩
 replace hq:=aB.mk hq
 by_cases hlt:i < N
 ·have hlt':((i:Nat):Int) < ((N:Nat):Int):=by omega
  have w1:=cI (n:=i) (by omega)
  obtain ⟨a,y,hca,hra⟩:=hv.at_ i hlt
  have hcc:(bA N c++x)[i]? = some (aU (c i)):=by rw [List.getElem?_append_left (by rw [fC];omega)];exact iN c hlt
  have hadd:=atz m 0 n true (o5 i c M) (M i) (c i) a y hra hn hJ.out.1 hJ.out.2
  simp only [aU] at hadd hcc
  simp only [↓pre,simprocAttr,aA,sx,acs,abt,bne,aC,aI,aU,e0,e1,e6,e32,e33,hlt',hc.addr',hv.rd.addr',hlt,hca,hcc,sr]
  refine pY hadd ?_
  refine dJ (by kernel_rfl) ?_
  simp only [↓pre,simprocAttr,aA,sx,acs,abt,bne,aC,aI,aU,e0,e1,e6,e32,e33,w1,sr]
  exact ⟨q - 1,by have:=hq.out;omega,i+1,by have:=hq.out;omega,rfl,⟨rfl,Nat.succ_pos _⟩⟩
 ·have hlt':¬ ((i:Nat):Int) < ((N:Nat):Int):=by omega
  have hi:i=N:=by have:=hq.out;omega
  subst hi
  simp only [↓pre,simprocAttr,aA,sx,acs,abt,bne,aC,aI,aU,e0,e1,e6,e32,e33,hlt',sr]
  exact hJ.out.1
theorem amP (vc vl:AV) (N n:Nat) (c:Nat→UInt8) (M:Mx) (x:List AV) (cells:List AV) (hc:bC vc N (bA N c++x)) (hv:sG vl N n M cells) (hN:1≤N) (hN2:N≤16) (hn:n≤65536):aX Tryz.prog 245 [vc,vl] ⟨.tup [.sl 0 0 n n true,aD 0],[(5,bA n (o5 N c M))]⟩:=by
 refine akS (pX (atA vc vl N n c M x cells hc hv hN hN2 hn) ?_)
 rintro r m ⟨rfl,h⟩
 have k5:bW Tryz.prog 5 = .flat:=by kernel_rfl
 simp [iT,canon,f9,aD,h,k5]
def tV (k r i:Int):Value := .agg #[.int .i64 k,.int .i64 r,.int .i64 i]
theorem atB (k r i i':Int):cT Tryz.prog (Op.equal 265 (tV k r i) (tV k r i'))=some (decide (i=i')):=by
 refine akR (by kernel_rfl) (by kernel_rfl) ?_
 have h:tJ Tryz.prog #[.int .i64 k,.int .i64 r,.int .i64 i] #[.int .i64 k,.int .i64 r,.int .i64 i'] (xF Tryz.prog 265)=if k=k then (if r=r then (if i=i' then some true else some false) else some false) else some false:=by kernel_rfl
 rw [h,if_pos rfl,if_pos rfl]
 by_cases hi:i=i' <;> simp [hi]
theorem amQ (k r i:Int):ab4 Tryz.prog 265 (tV k r i)=true:=by kernel_rfl
theorem aeF:w9 Tryz.prog 206=some (265,aO):=by kernel_rfl
def tW (k r n:Nat):List (Value×AV):=(List.range n).map fun i=>(tV (k:Nat) (r:Nat) (i:Nat),.tree k k (bA k (fJ k i)) true)
theorem atC (k r n:Nat):tW k r (n+1)=tW k r n++[(tV (k:Nat) (r:Nat) (n:Nat),.tree k k (bA k (fJ k n)) true)]:=by
 unfold tW
 rw [List.range_succ,List.map_append]
 rfl
theorem amR (k r:Nat) (i:Int) (j0:Nat):∀ (n:Nat),tB Tryz.prog 265 (tV (k:Nat) (r:Nat) i) ((List.range' j0 n).map fun (i:Nat)=>(tV (k:Nat) (r:Nat) (i:Nat),(.tree k k (bA k (fJ k i)) true:AV)))=some (if (j0:Int)≤i∧i < (j0+n:Nat) then some (i.toNat - j0) else none)
 | 0=>by rw [if_neg (by omega)];rfl
 | n+1=>by
  rw [List.range'_succ,List.map_cons,tB,atB]
  by_cases h:i=(j0:Nat)
  ·rw [decide_eq_true h,if_pos (by omega)]
   have:i.toNat - j0=0:=by omega
   rw [this]
  ·rw [decide_eq_false h,amR k r i (j0+1) n]
   by_cases h2:(j0:Int)≤i∧i < (j0+(n+1):Nat)
   ·rw [if_pos h2,if_pos (by omega)]
    simp only [Option.map_some]
    congr 2;omega
   ·rw [if_neg h2,if_neg (by omega)]
    rfl
 termination_by n=>n
theorem amS (k r:Nat) (i:Int) (n:Nat):tB Tryz.prog 265 (tV (k:Nat) (r:Nat) i) (tW k r n)=some (if 0≤i∧i < (n:Nat) then some i.toNat else none):=by
 have:=amR k r i 0 n
 unfold tW
 rw [List.range_eq_range']
 simpa using this
def o6 (m:aF) (g k r n:Nat):Prop:=m.mm.maps g=some (tW k r n)
theorem amT {m:aF} {g k r n i:Nat} (h:o6 m g k r n) (hi:i < n):vE Tryz.prog m 206 (.val (.map (some g))) (.agg [aD (k:Nat),aD (r:Nat),aD (i:Nat)])=some (.tree k k (bA k (fJ k i)) true):=by
 unfold o6 at h
 rw [apU (by rw [aeF];rfl)]
 have hk:iZ (.agg [aD (k:Nat),aD (r:Nat),aD (i:Nat)])=some (tV (k:Nat) (r:Nat) (i:Nat)):=rfl
 have hf:=amS k r (i:Nat) n
 rw [if_pos (by omega)] at hf
 have he:(tW k r n)[i]? = some (tV (k:Nat) (r:Nat) (i:Nat),.tree k k (bA k (fJ k i)) true):=by
  unfold tW
  rw [List.getElem?_map,List.getElem?_range hi]
  rfl
 simp only [ab5,aeF,qQ,h,hk,Option.bind_some,Option.map_some,amQ,if_true,hf,Int.toNat_natCast,he]
theorem amU {m:aF} {g k r n:Nat} (h:o6 m g k r n):tC Tryz.prog m 206 (.val (.map (some g))) (.agg [aD (k:Nat),aD (r:Nat),aD (n:Nat)]) (.tree k k (bA k (fJ k n)) true)=some ⟨eE,m.setM (m.mm.set g (tW k r (n+1))),none⟩:=by
 unfold o6 at h
 rw [apV (by rw [aeF];rfl)]
 have hk:iZ (.agg [aD (k:Nat),aD (r:Nat),aD (n:Nat)])=some (tV (k:Nat) (r:Nat) (n:Nat)):=rfl
 have hf:=amS k r (n:Nat) n
 rw [if_neg (by omega)] at hf
 simp only [aaC,aeF,qQ,h,hk,Option.bind_some,Option.map_some,amQ,if_true,hf,atC]
 rfl
theorem amV {m:aF} {g k r n:Nat}:o6 (m.setM (m.mm.set g (tW k r n))) g k r n:=by
 unfold o6
 simp [aF.setM,Maps.set]
theorem atD (m0:aF) (k r:Nat) (hk:1≤k) (hk2:k≤12) (hr:r≤4):fA Tryz.prog 177 [aD (k:Nat),aD (r:Nat)] m0 fun res m'=>∃ g mm,res = .val (.map (some g))∧m'=m0.setM mm∧o6 m' g k r (k+r):=by
 have k1:¬ ((k:Nat):Int) < 1:=by omega
 have k2:¬ (12:Int) < ((k:Nat):Int):=by omega
 have k3:¬ ((r:Nat):Int) < 0:=by omega
 have k4:¬ (4:Int) < ((r:Nat):Int):=by omega
 have hone:=atq k hk (by omega)
 have hV:=(aeD true true k k jE).rd
 refine bZ follows Tryz.func177 (by unfold Tryz.f177;rfl) (by unfold Tryz.f177;simp) aE (by unfold Tryz.f177;simp) (by kernel_rfl) ?_;unfold Tryz.f177
 simp only [↓pre,simprocAttr,aA,sx,vU,aE,aC,aI,k1,k2,k3,k4,sr]
 intro g hg
 simp only [↓pre,simprocAttr,aA,sx,vU,aE,aC,aI,sr]
 refine aM (hone) (by rfl) ?_;simp only [↓pre,simprocAttr,aA,sx,vU,aE,aC,aI,hV.len',sr]
 rw [b9]
 refine cA (fun q e m=>∃ i mm,q+i=k∧e 0=aD (k:Nat)∧e 1=aD (r:Nat)∧e 5 = .val (.map (some g))∧e 34 = .tree k k (mG true k k jE) true∧e 35=aD (k:Nat)∧e 36=aD (i:Nat)∧m=m0.setM mm∧o6 m g k r i) k ⟨0,_,by omega,rfl,rfl,rfl,rfl,rfl,rfl,rfl,by simp [o6,aF.setM,Maps.add,tW]⟩ ?_
 rintro q e m ⟨i,mm,hq,e0,e1,e5,e34,e35,e36,rfl,hC⟩
 replace hq:=aB.mk hq
 by_cases hlt:i < k
 ·have hlt':((i:Nat):Int) < ((k:Nat):Int):=by omega
  have w1:=cI (n:=i) (by omega)
  have hca:=zZ true (w:=k) jE hlt
  have hT:bA k (jE i)=bA k (fJ k i):=sF fun j hj=>by unfold jE fJ;rw [if_pos hlt]
  rw [hT] at hca
  have hu:=amU hC
  simp only [aD] at hu
  simp only [↓pre,simprocAttr,aA,sx,vU,aE,aC,aI,e0,e1,e5,e34,e35,e36,hlt',hV.addr',hlt,hca,hu,w1,sr]
  exact ⟨q - 1,by have:=hq.out;omega,i+1,_,by have:=hq.out;omega,rfl,rfl,amV⟩
 ·have hlt':¬ ((i:Nat):Int) < ((k:Nat):Int):=by omega
  have hi:i=k:=by have:=hq.out;omega
  subst hi
  by_cases hr0:r=0
  ·have hr0':¬ (0:Int) < ((r:Nat):Int):=by omega
   simp only [↓pre,simprocAttr,aA,sx,vU,aE,aC,aI,e0,e1,e5,e34,e35,e36,hlt',hr0',sr]
   subst hr0
   exact ⟨g,mm,rfl,rfl,hC⟩
  ·have hr0':(0:Int) < ((r:Nat):Int):=by omega
   have hcau:=atr i r hk hk2 (by omega) hr
   have hVc:=(aeD true true r i (gV i)).rd
   simp only [↓pre,simprocAttr,aA,sx,vU,aE,aC,aI,e0,e1,e5,e34,e35,e36,hlt',hr0',sr]
   refine aM (hcau) (by rfl) ?_;simp only [↓pre,simprocAttr,aA,sx,vU,aE,aC,aI,e0,e1,e5,hVc.len',sr]
   rw [b9]
   refine cA (fun q e m=>∃ j mm,q+j=r∧e 0=aD (i:Nat)∧e 1=aD (r:Nat)∧e 5 = .val (.map (some g))∧e 56 = .tree r r (mG true r i (gV i)) true∧e 57=aD (r:Nat)∧e 58=aD (j:Nat)∧m=m0.setM mm∧o6 m g i r (i+j)) r ⟨0,mm,by omega,e0,e1,e5,rfl,rfl,rfl,rfl,hC⟩ ?_
   rintro q2 e m ⟨j,mm,hq2,e0,e1,e5,e56,e57,e58,rfl,hC⟩
   replace hq2:=aB.mk hq2
   by_cases hlt2:j < r
   ·have hlt2':((j:Nat):Int) < ((r:Nat):Int):=by omega
    have w1:=cI (n:=j) (by omega)
    have w2:IntKind.i64.wrap (((i:Nat):Int)+((j:Nat):Int))=((i+j:Nat):Int):=by rw [←Int.natCast_add];exact dT (by omega)
    have hca:=zZ true (w:=i) (gV i) hlt2
    have hT:bA i (gV i j)=bA i (fJ i (i+j)):=rfl
    rw [hT] at hca
    have hu:=amU hC
    simp only [aD] at hu
    simp only [↓pre,simprocAttr,aA,sx,vU,aE,aC,aI,e0,e1,e5,e56,e57,e58,hlt2',hVc.addr',hlt2,hca,w2,hu,w1,sr]
    exact ⟨q2 - 1,by have:=hq2.out;omega,j+1,_,by have:=hq2.out;omega,rfl,rfl,amV⟩
   ·have hlt2':¬ ((j:Nat):Int) < ((r:Nat):Int):=by omega
    have hj:j=r:=by have:=hq2.out;omega
    subst hj
    simp only [↓pre,simprocAttr,aA,sx,vU,aE,aC,aI,e0,e1,e5,e56,e57,e58,hlt2',sr]
    exact ⟨g,mm,rfl,rfl,hC⟩
theorem tY {m:aF} {el:TypeId} {sz n:Nat} {v:AV} {cells:List AV} (h:cY m el sz v n cells) (k:Nat):fzT k m v=some (bJ n cells):=by
 rcases h.form with ⟨rfl,rfl,rfl⟩ | ⟨b,rfl,hb,hlt,hn⟩
 ·unfold aO bJ;rw [fZ];rfl
 ·rw [rU hb,List.drop_zero]
  unfold bJ
  rw [if_neg (by omega)]
def fE (c:AV):Prop:=∀ (k:Nat) (m:aF),fzT k m c=some c
theorem atE (n c:Nat) (cs:List AV) (f:Bool):fE (.tree n c cs f):=fun k m=>vO
theorem b8 (v:Value):fE (.val v):=fun k m=>fZ
theorem kD {v:AV} {n:Nat} {cs:List AV} (h:bC v n cs):fE v:=fun k m=>ach h
theorem abu {k:Nat} {m:aF}:∀ (cs:List AV),(∀ c∈cs,fE c)→nU k m cs=some cs
 | [],_=>i7
 | c::cs,h=>by
  rw [dY,h c (by simp) k m,Option.bind_some,abu cs fun x hx=>h x (by simp [hx])]
  rfl
theorem aeG {m:aF} {el:TypeId} {sz n:Nat} {v:AV} {cells:List AV} (h:cO .var m el sz v n cells) (hc:∀ c∈cells,fE c) (k:Nat):fzT (k+1) m v=some (bJ n cells):=by
 rcases h.form with ⟨rfl,rfl,rfl⟩ | ⟨b,rfl,hb,hlt,hn⟩
 ·unfold aO bJ;rw [fZ];rfl
 ·rw [adL hb (abu _ (by rw [List.drop_zero];exact hc)),List.drop_zero]
  unfold bJ
  rw [if_neg (by omega)]
def cB (C:List (List UInt8)) (n:Nat):List Nat:=(List.range n).filter fun i=>decide ((C.getD i []).length≠0)
theorem wG (C:List (List UInt8)) (n:Nat):cB C (n+1)=cB C n++(if (C.getD n []).length≠0 then [n] else []):=by
 unfold cB
 rw [List.range_succ,List.filter_append]
 congr 1
 by_cases h:(C.getD n []).length≠0 <;> simp [List.filter_cons,h]
theorem aeH (C:List (List UInt8)) (n:Nat):(cB C n).length≤n:=by
 unfold cB
 have:=List.length_filter_le (fun i=>decide ((C.getD i []).length≠0)) (List.range n)
 rw [List.length_range] at this
 exact this
theorem ag8 {C:List (List UInt8)} {n i:Nat} (h:i∈cB C n):i < n∧(C.getD i []).length≠0:=by
 unfold cB at h
 rw [List.mem_filter,List.mem_range] at h
 exact ⟨h.1,by simpa using h.2⟩
theorem amW (C:List (List UInt8)) (n:Nat):(cB C n).Nodup:=List.nodup_range.filter _
def o7 (l:List Nat):List AV:=l.map fun (i:Nat)=>aD i
theorem amX (a b:List Nat):o7 (a++b)=o7 a++o7 b:=by simp [o7]
theorem amY {l:List Nat} {i n:Nat} (h:l[i]? = some n):(o7 l)[i]? = some (.val (.int .i64 n)):=by
 unfold o7
 rw [List.getElem?_map,h]
 rfl
theorem sJ {C:List (List UInt8)} {i:Nat} {b:List UInt8} (h:C[i]? = some b):C.getD i []=b:=by rw [List.getD_eq_getElem?_getD,h];rfl
def abv (C:List (List UInt8)) (L:Nat):Prop:=∀ b∈C,b.length=0∨b.length=L
theorem atF (v:AV) (C:List (List UInt8)) (cells:List AV) (L:Nat) (hv:gI v C cells) (hC:abv C L) (hL:L≤65536) (hn:C.length≤1000):aX Tryz.prog 178 [v,aD (C.length:Nat)] ⟨.tup [(i6 3 (cB C C.length).length (o7 (cB C C.length))).v,bB true],(i6 3 (cB C C.length).length (o7 (cB C C.length))).rows⟩:=by
 have hp:=hv.rd.plain
 replace hC:=aB.mk hC
 refine bE follows Tryz.func178 (by unfold Tryz.f178;rfl) (by unfold Tryz.f178;simp) aE (by unfold Tryz.f178;simp) (by kernel_rfl) ?_;unfold Tryz.f178
 simp only [↓pre,simprocAttr,aA,sx,acl,aE,aC,aI,aL,hv.rd.len',sr]
 rw [b9]
 refine cA (fun q e m=>∃ i lv,q+i=C.length∧e 0=v∧e 6=lv∧e 13=v∧e 14=aD (C.length:Nat)∧e 15=aD (i:Nat)∧aB (cY m 3 1 lv (cB C i).length (o7 (cB C i)))) C.length ⟨0,aO,by omega,rfl,rfl,rfl,rfl,rfl,⟨fB⟩⟩ ?_
 rintro q e m ⟨i,lv,hq,e0,e6,e13,e14,e15,hJ⟩
 replace hq:=aB.mk hq
 by_cases hlt:i < C.length
 ·have hlt':((i:Nat):Int) < ((C.length:Nat):Int):=by omega
  have w1:=cI (n:=i) (by omega)
  obtain ⟨b,hb⟩:∃ b,C[i]? = some b:=⟨_,List.getElem?_eq_getElem hlt⟩
  obtain ⟨a,x,hc,hr⟩:=hv.at_ i b hb
  have hbL:=hC.out b (List.mem_of_getElem? hb)
  have hts:=wG C i
  rw [sJ hb] at hts
  have htl:=aeH C i
  replace hb:=aB.mk hb
  by_cases h0:b.length=0
  ·have h0':((b.length:Nat):Int)=0:=by omega
   rw [if_neg (by omega),List.append_nil] at hts
   replace hts:=aB.mk hts
   simp only [↓pre,simprocAttr,aA,sx,acl,aE,aC,aI,aL,e0,e6,e13,e14,e15,hlt',hv.rd.addr',hlt,hc,hr.len',h0',w1,sr]
   exact ⟨q - 1,by have:=hq.out;omega,i+1,lv,by have:=hq.out;omega,rfl,rfl,by rw [hts.out];exact hJ⟩
  ·have h0':¬ ((b.length:Nat):Int)=0:=by omega
   have hbl:b.length=L:=by omega
   have k2:¬ (65536:Int) < ((b.length:Nat):Int):=by omega
   rw [if_pos h0] at hts
   replace hts:=aB.mk hts
   simp only [↓pre,simprocAttr,aA,sx,acl,aE,aC,aI,aL,e0,e6,e13,e14,e15,hlt',hv.rd.addr',hlt,hc,hr.len',h0',sr]
   refine vN (sz:=1) (y:=8) (zl:=[.int .i64 0]) (by kernel_rfl) hJ.out (by kernel_rfl) (by kernel_rfl) (by kernel_rfl) rfl l8 rfl (by omega) (by omega) ?_
   intro lv' m' ho' hnx' hkeep hbl'
   obtain ⟨b',rfl,hb',hlt2⟩:=ho'.sl (by omega)
   have hpos:0 < (cB C i).length+1:=by omega
   obtain ⟨f0,hf0⟩:∃ f0,(cB C (i+1))[0]? = some f0:=⟨_,List.getElem?_eq_getElem (by rw [hts.out,List.length_append];simp)⟩
   have hfm:=ag8 (List.mem_of_getElem? hf0)
   have hfat:=amY hf0
   rw [hts.out,amX] at hfat
   have hfl:f0 < C.length:=by omega
   obtain ⟨b0,hb0⟩:∃ b,C[f0]? = some b:=⟨_,List.getElem?_eq_getElem hfl⟩
   obtain ⟨a0,x0,hc0,hr0⟩:=hv.at_ f0 b0 hb0
   have hb0L:=hC.out b0 (List.mem_of_getElem? hb0)
   rw [sJ hb0] at hfm
   have hb0l:b0.length=L:=by omega
   replace hb0:=aB.mk hb0
   replace hf0:=aB.mk hf0
   replace hfm:=aB.mk hfm
   have hl1:(o7 [i])=[.val (.int .i64 (i:Nat))]:=rfl
   rw [hl1] at hfat
   rw [hbl] at k2 hr
   rw [hb0l] at hr0
   simp only [↓pre,simprocAttr,aA,sx,acl,aE,aC,aI,aL,e0,e6,e13,e14,e15,hr.len',k2,hv.rd.addr',hfl,d6,hpos,hb',hfat,hc0,hr0.len',w1,sr]
   refine ⟨q - 1,by have:=hq.out;omega,i+1,_,by have:=hq.out;omega,rfl,rfl,⟨?_⟩⟩
   rw [hts.out,amX,List.length_append]
   exact ho'
 ·have hlt':¬ ((i:Nat):Int) < ((C.length:Nat):Int):=by omega
  have hi:i=C.length:=by have:=hq.out;omega
  subst hi
  simp only [↓pre,simprocAttr,aA,sx,acl,aE,aC,aI,aL,e0,e6,e13,e14,e15,hlt',sr]
  rw [aks (by kernel_rfl) hJ.out]
  rfl
theorem atG (v:AV) (C:List (List UInt8)) (cells:List AV) (L:Nat) (hv:gI v C cells) (hC:abv C L) (hL:L≤65536) (hn:C.length≤1000):aX Tryz.prog 178 [v,aD (C.length:Nat)] ⟨.tup [bJ (cB C C.length).length (o7 (cB C C.length)),bB true],[]⟩:=by
 have h:=atF v C cells L hv hC hL hn
 have h1:=aqA (P:=Tryz.prog) 3 (cB C C.length).length (o7 (cB C C.length))
 have h2:=aqB (P:=Tryz.prog) (el:=3) (by kernel_rfl) (cB C C.length).length (o7 (cB C C.length))
 have h3:=yY 0 h (by simp [iU,j5,bB,h2])
 simp only [fM,iF,bB,h1] at h3
 exact h3
def eN (L:Nat) (F:Mx) (a n:Nat):List AV:=(List.range' a n).map fun i => .tree L L (bA L (F i)) true
theorem atH (L:Nat) (F:Mx) (a n:Nat):(eN L F a n).length=n:=by simp [eN]
theorem aeI (L:Nat) (F:Mx) (a n:Nat):eN L F a (n+1)=eN L F a n++[.tree L L (bA L (F (a+n))) true]:=by
 unfold eN
 rw [List.range'_1_concat,List.map_append]
 rfl
theorem aeJ {L:Nat} {F:Mx} {a n i:Nat} (h:i < n):(eN L F a n)[i]? = some (.tree L L (bA L (F (a+i))) true):=by
 unfold eN
 rw [List.getElem?_map,List.getElem?_range' h]
 simp
theorem amZ (L:Nat) (F:Mx) (a n:Nat):∀ c∈eN L F a n,fE c:=by
 intro c hc
 unfold eN at hc
 obtain ⟨i,_,rfl⟩:=List.mem_map.1 hc
 exact atE _ _ _ _
theorem atJ (L:Nat) (F:Mx) (a b:Nat):eN L F 0 a++eN L F a b=eN L F 0 (a+b):=by
 unfold eN
 rw [←List.map_append]
 congr 1
 have:=List.range'_append (s:=0) (m:=a) (n:=b) (step:=1)
 simpa using this
theorem atK {L:Nat} {F G:Mx} {a n:Nat} (h:∀ i,a≤i→i < a+n→∀ p,p < L→F i p=G i p):eN L F a n=eN L G a n:=by
 unfold eN
 apply List.map_congr_left
 intro i hi
 rw [List.mem_range'_1] at hi
 rw [sF (h i hi.1 (by omega))]
theorem z7 {m:aF} {n c:Nat} {cs:List AV} {f:Bool}:eY Tryz.prog m 45 1 [(0,.tree n c cs f)]=some ⟨.tree 1 1 [.tree n c cs f] true,m,none⟩:=by
 have h1:cD Tryz.prog 45=some 52:=by kernel_rfl
 have h2:cH Tryz.prog 52=some 1:=by kernel_rfl
 have h5:eX Tryz.prog 52=some [.slice none 0 0]:=by kernel_rfl
 simp [eY,h1,h2,h5,i4,List.range_succ,fX,fK,dF,cN,AV.cells,jG,iS,bO]
theorem am0 {m:aF} {b n:Nat} {f:Bool} {cells:List AV} {el:TypeId} (hb:m.at_ b=some ⟨cells,el,.flat,true⟩):tE Tryz.prog false true m 45 1 [(0,.sl b 0 n n f)]=some ⟨.tree 1 1 [.tree n n cells f] true,m.put b (some ⟨cells,el,.flat,false⟩),none⟩:=by
 have h1:cD Tryz.prog 45=some 52:=by kernel_rfl
 have h2:cH Tryz.prog 52=some 1:=by kernel_rfl
 have h5:eX Tryz.prog 52=some [.slice none 0 0]:=by kernel_rfl
 have hn:eY Tryz.prog m 45 1 [(0,.sl b 0 n n f)]=none:=by
  simp [eY,h1,h2,h5,i4,List.range_succ,fX,fK,dF,cN,AV.cells,jG,iS]
 rw [aj9 hn]
 simp [xA,h1,h2,h5,i4,List.range_succ,fX,fK,dF,cN,AV.cells,fzs,fz,hb,bO]
theorem ag9:∀ l:List UInt8,kW (l.map aU)=true
 | []=>rfl
 | a::l=>by simp [kW,jH,aU,ag9 l]
theorem am1 (w:Nat) (f:Nat→UInt8):kW (bA w f)=true:=ag9 _
def acQ (k L:Nat) (D:Mx) (cd:List AV):Prop:=∀ i,i < k→∃ a x,cd[i]? = some a∧bC a L (bA L (D i)++x)
theorem atL (m0:aF) (g k r a n L:Nat) (vd:AV) (D:Mx) (cd:List AV) (hC:o6 m0 g k r (k+r)) (hv:mN m0 vd k cd) (hold:uG m0 vd) (hat:acQ k L D cd) (hk:1≤k) (hk2:k≤12) (hr:r≤4) (ha:a+n≤k+r) (hL:L≤65536):fA Tryz.prog 179 [.val (.map (some g)),aD (k:Nat),aD (r:Nat),aD (a:Nat),aD (a+n:Nat),vd] m0 fun res m'=>∃ lv,res = .tup [lv,aD 0]∧cO .var m' 52 1 lv n (eN L (oG k D) a n)∧lC m0 m'∧l9 m0 lv:=by
 refine bZ follows Tryz.func179 (by unfold Tryz.f179;rfl) (by unfold Tryz.f179;simp) aE (by unfold Tryz.f179;simp) (by kernel_rfl) ?_;unfold Tryz.f179
 simp only [↓pre,simprocAttr,aA,sx,acm,aE,aC,aI,aL,sr]
 rw [b9]
 refine cA (fun q e m=>∃ i lv,q+i=n∧e 0 = .val (.map (some g))∧e 1=aD (k:Nat)∧e 2=aD (r:Nat)∧e 4=aD (a+n:Nat)∧e 5=vd∧e 14=lv∧e 15=aD (a+i:Nat)∧aB (cO .var m 52 1 lv i (eN L (oG k D) a i)∧lC m0 m∧l9 m0 lv)) n ⟨0,aO,by omega,rfl,rfl,rfl,rfl,rfl,rfl,rfl,⟨fB,lC.refl _,y5 _⟩⟩ ?_
 rintro q e m ⟨i,lv,hq,e0,e1,e2,e4,e5,e14,e15,hJ⟩
 replace hq:=aB.mk hq
 by_cases hlt:i < n
 ·have hlt':((a+i:Nat):Int) < ((a+n:Nat):Int):=by omega
  have w1:=cI (n:=a+i) (by omega)
  obtain ⟨ho,hkp,hnw⟩:=hJ.out
  have hlk:=amT (m:=m) (g:=g) (k:=k) (r:=r) (n:=k+r) (i:=a+i) (by unfold o6;rw [hkp.mm];exact hC) (by omega)
  obtain ⟨av,hlend,hav⟩:=(hv.keep hkp.w hold).lend2 (a := .tree k k (bA k (fJ k (a+i))) true) rfl
  have hdot:=amP (.tree k k (bA k (fJ k (a+i))) true) av k L (fJ k (a+i)) D [] cd ⟨.inr (.inr ⟨k,true,by rw [List.append_nil],Nat.le_refl _⟩)⟩ ⟨hav,hat⟩ hk (by omega) hL
  rw [show o5 k (fJ k (a+i)) D=oG k D (a+i) from rfl] at hdot
  simp only [aD] at hlk hdot
  have hkeep2:lC m0 ((m.push ⟨bA L (oG k D (a+i)),5,.flat,true⟩).put m.next (some ⟨bA L (oG k D (a+i)),5,.flat,false⟩)):=⟨hkp.mm,by rw [aZ,aW];have:=hkp.next;omega,fun j x hj hl=>by have:=hkp.next;rw [aG,if_neg (by omega),aH,if_neg (by omega)];exact hkp.at_ j x hj hl⟩
  have hbx:=am0 (m:=m.push ⟨bA L (oG k D (a+i)),5,.flat,true⟩) (b:=m.next) (n:=L) (f:=true) (by rw [aH,if_pos rfl])
  replace hJ:=aB.mk hJ
  replace hkp:=aB.mk hkp
  replace ho:=aB.mk ho
  replace hnw:=aB.mk hnw
  replace hav:=aB.mk hav
  replace hkeep2:=aB.mk hkeep2
  simp only [↓pre,simprocAttr,aA,sx,acm,aE,aC,aI,aL,e0,e1,e2,e4,e5,e14,e15,hlt',hlk,sr]
  refine adF hdot hlend (by simp [gJ.apart,jH,kW,am1]) ?_
  simp only [↓pre,simprocAttr,aA,sx,acm,aE,aC,aI,aL,e0,e1,e2,e4,e5,e14,e15,hbx,sr]
  refine akT (kd := .var) (sz:=1) (y:=24) (zl:=[.slice none 0 0]) (by kernel_rfl) (ho.out.pp _ _) (by kernel_rfl) (by kernel_rfl) (by kernel_rfl) rfl l8 rfl (by omega) (by omega) hkeep2.out hnw.out ?_
  intro lv' m' ho' hkp hnw
  simp only [↓pre,simprocAttr,aA,sx,acm,aE,aC,aI,aL,e0,e1,e2,e4,e5,e14,e15,w1,sr]
  refine ⟨q - 1,by have:=hq.out;omega,i+1,_,by have:=hq.out;omega,rfl,rfl,⟨?_,hkp,hnw⟩⟩
  rw [aeI]
  exact ho'
 ·have hi:i=n:=by have:=hq.out;omega
  subst hi
  have hlt':¬ ((a+i:Nat):Int) < ((a+i:Nat):Int):=by omega
  simp only [↓pre,simprocAttr,aA,sx,acm,aE,aC,aI,aL,e0,e1,e2,e4,e5,e14,e15,hlt',sr]
  exact ⟨lv,rfl,hJ.out⟩
theorem atM {g:Nat} {x y:Operand}:dV Tryz.prog .eql 206 x y (.val (.map (some g))) (.val (.map none))=some (.val (.bool false)):=by kernel_rfl
end Go.Proofs.YtaekhhlgnbhnpaaGreat