import Derived.KernelRfl
import Derived.Test.YtgcicholalgbiaaGreatLrcG15
import Derived.Test.YtgcicholalgbiaaGreatLrcG10
import Derived.Test.YtgcicholalgbiaaGreatLrcG11
import Derived.Test.YtgcicholalgbiaaGreatLrcG12
set_option linter.unusedVariables false
set_option linter.unusedSimpArgs false
namespace Go.Gf
def xt (a:Nat):Nat:=if a < 128 then 2*a else (2*a) ^^^ 0x11d
def gm:Nat→Nat→Nat→Nat
 | 0,_,_=>0
 | n+1,a,b=>(if b % 2=1 then a else 0) ^^^ gm n (xt a) (b / 2)
def gmul (a b:Nat):Nat:=gm 8 a b
theorem xor_odd (b c:Nat):((b ^^^ c) % 2=1)↔¬ ((b % 2=1)↔(c % 2=1)):=by
 have h:=Nat.testBit_xor b c 0
 simp only [Nat.testBit_zero] at h
 by_cases hb:b % 2=1 <;> by_cases hc:c % 2=1 <;> simp [hb,hc] at h ⊢ <;> omega
theorem gm_xor:∀ (n a b c:Nat),gm n a (b ^^^ c)=gm n a b ^^^ gm n a c
 | 0,_,_,_=>by unfold gm;rfl
 | n+1,a,b,c=>by
  have ih:=gm_xor n (xt a) (b / 2) (c / 2)
  have ho:=xor_odd b c
  unfold gm
  rw [Nat.xor_div_two,ih]
  generalize gm n (xt a) (b / 2)=x
  generalize gm n (xt a) (c / 2)=y
  by_cases hb:b % 2=1 <;> by_cases hc:c % 2=1
  ·rw [if_neg (by rw [ho];simp [hb,hc]),if_pos hb,if_pos hc,Nat.zero_xor]
   rw [show (a ^^^ x) ^^^ (a ^^^ y)=(a ^^^ a) ^^^ (x ^^^ y) by ac_rfl,Nat.xor_self,Nat.zero_xor]
  ·rw [if_pos (by rw [ho];simp [hb,hc]),if_pos hb,if_neg hc,Nat.zero_xor]
   ac_rfl
  ·rw [if_pos (by rw [ho];simp [hb,hc]),if_neg hb,if_pos hc,Nat.zero_xor]
   ac_rfl
  ·rw [if_neg (by rw [ho];simp [hb,hc]),if_neg hb,if_neg hc,Nat.zero_xor,Nat.zero_xor,Nat.zero_xor]
def eT:Nat:=70160881166704368827218703435136616750530459438269794890424969378298545675077208731798828898087927652446353395360628748027273188182808436399538186061104243134188885576122562338679313492324190829158544377810568631194580132524405266702234305646236648896994794467054525044798919765581988418950285252905306116225263236585714808161311289784028762024137133735135393922581566890382566480334369299400480864790538739986285574563168380416343369614948461817839620668187777978661530364712890858126432457562886306102556561631759900551331094983229723298224611133722330829711659991602983068895685602467964643306841827719562658305
def lT:Nat:=22135253156888987530748098150270024343632497605293634117281264061560962248099620766229961468867162294233796152347975563017024165690400661622462404646302566225833645086064538892198543335321514950294300187779610338557442029018619797274438901674641748676613670242915365385819254959901651105240253464034662486586186382979728982817772067067513442677601938078891989292316012868233806586592927239821351197800766822366321181463280924672822998103315976779850880337712374790938628529953751181886374687897611504386983350015558142994211516619836411558782076806704747441947939324473761869443721989389604670425385080942269787340800
def gE (n:Nat):Nat:=(eT >>> (8*n)) % 256
def gL (a:Nat):Nat:=(lT >>> (8*a)) % 256
def chkM:Bool:=(List.range 256).all fun a=>(List.range 256).all fun b=>gmul a b == (if a=0 then 0 else if b=0 then 0 else gE ((gL a+gL b) % 255))
theorem chkM_t:chkM=true:=by kernel_rfl
def chkE:Bool:=(List.range 255).all fun n=>gL (gE n) == n && gE n != 0 && decide (gE n < 256)
theorem chkE_t:chkE=true:=by kernel_rfl
def chkL:Bool:=(List.range 256).all fun a=>a == 0 || (gE (gL a) == a && decide (gL a < 255))
theorem chkL_t:chkL=true:=by kernel_rfl
theorem gmul_log {a b:Nat} (ha:a < 256) (hb:b < 256):gmul a b=(if a=0 then 0 else if b=0 then 0 else gE ((gL a+gL b) % 255)):=by
 have h:=chkM_t
 unfold chkM at h
 rw [List.all_eq_true] at h
 have h1:=h a (List.mem_range.2 ha)
 rw [List.all_eq_true] at h1
 exact eq_of_beq (h1 b (List.mem_range.2 hb))
theorem gE_ok {n:Nat} (h:n < 255):gL (gE n)=n∧gE n≠0∧gE n < 256:=by
 have h1:=chkE_t
 unfold chkE at h1
 rw [List.all_eq_true] at h1
 have h2:=h1 n (List.mem_range.2 h)
 simp only [Bool.and_eq_true,beq_iff_eq,bne_iff_ne,decide_eq_true_eq] at h2
 exact ⟨h2.1.1,h2.1.2,h2.2⟩
theorem gL_ok {a:Nat} (h:a < 256) (h0:a≠0):gE (gL a)=a∧gL a < 255:=by
 have h1:=chkL_t
 unfold chkL at h1
 rw [List.all_eq_true] at h1
 have h2:=h1 a (List.mem_range.2 h)
 simp only [Bool.or_eq_true,Bool.and_eq_true,beq_iff_eq,decide_eq_true_eq] at h2
 rcases h2 with h2 | h2
 ·exact absurd h2 h0
 ·exact h2
theorem gmul_lt {a b:Nat} (ha:a < 256) (hb:b < 256):gmul a b < 256:=by
 rw [gmul_log ha hb]
 split
 ·omega
 ·split
  ·omega
  ·exact (gE_ok (Nat.mod_lt _ (by decide))).2.2
theorem gmul_comm {a b:Nat} (ha:a < 256) (hb:b < 256):gmul a b=gmul b a:=by
 rw [gmul_log ha hb,gmul_log hb ha,Nat.add_comm (gL a)]
 by_cases h1:a=0 <;> by_cases h2:b=0 <;> simp [h1,h2]
theorem gmul_ne {a b:Nat} (ha:a < 256) (hb:b < 256) (h1:a≠0) (h2:b≠0):gmul a b≠0:=by
 rw [gmul_log ha hb,if_neg h1,if_neg h2]
 exact (gE_ok (Nat.mod_lt _ (by decide))).2.1
theorem gmul_assoc {a b c:Nat} (ha:a < 256) (hb:b < 256) (hc:c < 256):gmul (gmul a b) c=gmul a (gmul b c):=by
 have hab:=gmul_lt ha hb
 have hbc:=gmul_lt hb hc
 by_cases h1:a=0
 ·rw [gmul_log hab hc,gmul_log ha hbc,gmul_log ha hb,if_pos h1,if_pos rfl]
  simp [h1]
 ·by_cases h2:b=0
  ·rw [gmul_log hab hc,gmul_log ha hbc,gmul_log ha hb,gmul_log hb hc,if_pos h2,if_pos h2]
   simp [h1]
  ·by_cases h3:c=0
   ·rw [gmul_log hab hc,gmul_log ha hbc,gmul_log hb hc,if_pos h3,if_pos h3]
    simp [h1]
   ·have e1:=gmul_ne ha hb h1 h2
    have e2:=gmul_ne hb hc h2 h3
    rw [gmul_log hab hc,gmul_log ha hbc,if_neg e1,if_neg h3,if_neg h1,if_neg e2]
    rw [gmul_log ha hb,if_neg h1,if_neg h2,gmul_log hb hc,if_neg h2,if_neg h3]
    rw [(gE_ok (Nat.mod_lt _ (by decide))).1,(gE_ok (Nat.mod_lt _ (by decide))).1]
    congr 1
    omega
theorem gmul_one {a:Nat} (ha:a < 256):gmul a 1=a:=by
 rw [gmul_log ha (by decide)]
 split
 ·rename_i h;rw [h]
 ·rename_i h
  rw [if_neg (by decide)]
  have:=gL_ok ha h
  have e:gL 1=0:=by kernel_rfl
  rw [e,Nat.add_zero,Nat.mod_eq_of_lt this.2]
  exact this.1
def ginv (a:Nat):Nat:=gE ((255 - gL a) % 255)
theorem ginv_lt (a:Nat):ginv a < 256:=(gE_ok (Nat.mod_lt _ (by decide))).2.2
theorem gmul_inv {a:Nat} (ha:a < 256) (h0:a≠0):gmul a (ginv a)=1:=by
 have h:=gL_ok ha h0
 have hi:=gE_ok (n:=(255 - gL a) % 255) (Nat.mod_lt _ (by decide))
 rw [gmul_log ha (ginv_lt a),if_neg h0,if_neg (show ginv a≠0 from hi.2.1)]
 unfold ginv
 rw [hi.1]
 have e:(gL a+(255 - gL a) % 255) % 255=0:=by omega
 have e0:gE 0=1:=by kernel_rfl
 rw [e,e0]
def mulU (a b:UInt8):UInt8:=UInt8.ofNat (gmul a.toNat b.toNat)
def invU (a:UInt8):UInt8:=UInt8.ofNat (ginv a.toNat)
theorem ofN {n:Nat} (h:n < 256):(UInt8.ofNat n).toNat=n:=by rw [UInt8.toNat_ofNat'];exact Nat.mod_eq_of_lt h
theorem ltN (a:UInt8):a.toNat < 256:=a.toNat_lt
theorem mulU_toNat (a b:UInt8):(mulU a b).toNat=gmul a.toNat b.toNat:=ofN (gmul_lt (ltN a) (ltN b))
theorem mulU_comm (a b:UInt8):mulU a b=mulU b a:=by unfold mulU;rw [gmul_comm (ltN a) (ltN b)]
theorem mulU_assoc (a b c:UInt8):mulU (mulU a b) c=mulU a (mulU b c):=by
 apply UInt8.toNat_inj.1
 rw [mulU_toNat,mulU_toNat,mulU_toNat,mulU_toNat]
 exact gmul_assoc (ltN a) (ltN b) (ltN c)
theorem mulU_one (a:UInt8):mulU a 1=a:=by
 apply UInt8.toNat_inj.1
 rw [mulU_toNat]
 exact gmul_one (ltN a)
theorem one_mulU (a:UInt8):mulU 1 a=a:=by rw [mulU_comm,mulU_one]
theorem mulU_zero (a:UInt8):mulU a 0=0:=by
 apply UInt8.toNat_inj.1
 rw [mulU_toNat,gmul_log (ltN a) (ltN 0)]
 split
 ·rfl
 ·rfl
theorem zero_mulU (a:UInt8):mulU 0 a=0:=by rw [mulU_comm,mulU_zero]
theorem mulU_inv {a:UInt8} (h:a≠0):mulU a (invU a)=1:=by
 apply UInt8.toNat_inj.1
 rw [mulU_toNat]
 unfold invU
 rw [ofN (ginv_lt _)]
 exact gmul_inv (ltN a) fun e=>h (UInt8.toNat_inj.1 e)
theorem mulU_xor (a b c:UInt8):mulU a (b ^^^ c)=mulU a b ^^^ mulU a c:=by
 apply UInt8.toNat_inj.1
 rw [UInt8.toNat_xor,mulU_toNat,mulU_toNat,mulU_toNat,UInt8.toNat_xor]
 exact gm_xor 8 _ _ _
theorem xor_mulU (a b c:UInt8):mulU (a ^^^ b) c=mulU a c ^^^ mulU b c:=by
 rw [mulU_comm,mulU_xor,mulU_comm c a,mulU_comm c b]
theorem mulU_ne {a b:UInt8} (ha:a≠0) (hb:b≠0):mulU a b≠0:=by
 intro h
 have h2:=congrArg UInt8.toNat h
 rw [mulU_toNat] at h2
 exact gmul_ne (ltN a) (ltN b) (fun e=>ha (UInt8.toNat_inj.1 e)) (fun e=>hb (UInt8.toNat_inj.1 e)) h2
theorem invU_ne {a:UInt8} (h:a≠0):invU a≠0:=by
 intro e
 have:=mulU_inv h
 rw [e,mulU_zero] at this
 exact absurd this (by decide)
instance:Std.Associative mulU:=⟨mulU_assoc⟩
instance:Std.Commutative mulU:=⟨mulU_comm⟩
theorem xor_self2 (a:UInt8):a ^^^ a=0:=UInt8.xor_self
theorem xor_zero2 (a:UInt8):a ^^^ 0=a:=UInt8.xor_zero
theorem zero_xor2 (a:UInt8):0 ^^^ a=a:=UInt8.zero_xor
instance:Std.Associative (α:=UInt8) (· ^^^ ·):=⟨UInt8.xor_assoc⟩
instance:Std.Commutative (α:=UInt8) (· ^^^ ·):=⟨UInt8.xor_comm⟩
theorem xor_eq {a b:UInt8} (h:a ^^^ b=0):a=b:=by
 have:a ^^^ b ^^^ b=0 ^^^ b:=by rw [h]
 rw [UInt8.xor_assoc,xor_self2,xor_zero2,zero_xor2] at this
 exact this
theorem xor_ne {a b:UInt8} (h:a≠b):a ^^^ b≠0:=fun e=>h (xor_eq e)
def sumU:Nat→(Nat→UInt8)→UInt8
 | 0,_=>0
 | n+1,f=>sumU n f ^^^ f n
theorem sumU_congr {f g:Nat→UInt8}:∀ n,(∀ i,i < n→f i=g i)→sumU n f=sumU n g
 | 0,_=>rfl
 | n+1,h=>by unfold sumU;rw [sumU_congr n fun i hi=>h i (by omega),h n (by omega)]
theorem sumU_zero {f:Nat→UInt8}:∀ n,(∀ i,i < n→f i=0)→sumU n f=0
 | 0,_=>rfl
 | n+1,h=>by unfold sumU;rw [sumU_zero n fun i hi=>h i (by omega),h n (by omega)];rfl
theorem sumU_mul (c:UInt8) (f:Nat→UInt8):∀ n,mulU c (sumU n f)=sumU n fun i=>mulU c (f i)
 | 0=>mulU_zero c
 | n+1=>by unfold sumU;rw [mulU_xor,sumU_mul c f n]
theorem mul_sumU (c:UInt8) (f:Nat→UInt8) (n:Nat):mulU (sumU n f) c=sumU n fun i=>mulU (f i) c:=by
 rw [mulU_comm,sumU_mul]
 exact sumU_congr n fun i _=>mulU_comm _ _
theorem sumU_xor (f g:Nat→UInt8):∀ n,sumU n (fun i=>f i ^^^ g i)=sumU n f ^^^ sumU n g
 | 0=>(xor_zero2 0).symm
 | n+1=>by
  show sumU n (fun i=>f i ^^^ g i) ^^^ (f n ^^^ g n)=(sumU n f ^^^ f n) ^^^ (sumU n g ^^^ g n)
  rw [sumU_xor f g n];ac_rfl
theorem sumU_one {f:Nat→UInt8} {k:Nat}:∀ n,k < n→(∀ i,i < n→i≠k→f i=0)→sumU n f=f k
 | 0,h,_=>by omega
 | n+1,h,h0=>by
  unfold sumU
  by_cases hk:k=n
  ·subst hk
   rw [sumU_zero k fun i hi=>h0 i (by omega) (by omega),zero_xor2]
  ·rw [sumU_one n (by omega) fun i hi hne=>h0 i (by omega) hne,h0 n (by omega) (fun e=>hk e.symm),xor_zero2]
theorem mul_left {a b c:UInt8} (ha:a≠0) (h:mulU a b=mulU a c):b=c:=by
 have:=congrArg (mulU (invU a)) h
 rw [←mulU_assoc,←mulU_assoc,mulU_comm (invU a) a,mulU_inv ha,one_mulU,one_mulU] at this
 exact this
theorem mul_zero {a b:UInt8} (ha:a≠0) (h:mulU a b=0):b=0:=mul_left ha (h.trans (mulU_zero a).symm)
theorem cauchy_step {zi zn wj wn:UInt8} (h1:zi≠wj) (h2:zn≠wj):mulU (zi ^^^ wn) (invU (zi ^^^ wj)) ^^^ mulU (zn ^^^ wn) (invU (zn ^^^ wj))=mulU (zi ^^^ zn) (mulU (mulU (wn ^^^ wj) (invU (zn ^^^ wj))) (invU (zi ^^^ wj))):=by
 have d1:=xor_ne h1
 have d2:=xor_ne h2
 refine mul_left d1 (mul_left d2 ?_)
 have e1:=mulU_inv d1
 have e2:=mulU_inv d2
 generalize invU (zi ^^^ wj)=p at *
 generalize invU (zn ^^^ wj)=q at *
 have l1:mulU (zn ^^^ wj) (mulU (zi ^^^ wj) (mulU (zi ^^^ wn) p ^^^ mulU (zn ^^^ wn) q))=mulU (zn ^^^ wj) (zi ^^^ wn) ^^^ mulU (zi ^^^ wj) (zn ^^^ wn):=by
  rw [mulU_xor,mulU_xor]
  congr 1
  ·rw [show mulU (zi ^^^ wj) (mulU (zi ^^^ wn) p)=mulU (mulU (zi ^^^ wj) p) (zi ^^^ wn) by ac_rfl,e1,one_mulU]
  ·rw [show mulU (zn ^^^ wj) (mulU (zi ^^^ wj) (mulU (zn ^^^ wn) q))=mulU (mulU (zn ^^^ wj) q) (mulU (zi ^^^ wj) (zn ^^^ wn)) by ac_rfl,e2,one_mulU]
 have l2:mulU (zn ^^^ wj) (mulU (zi ^^^ wj) (mulU (zi ^^^ zn) (mulU (mulU (wn ^^^ wj) q) p)))=mulU (zi ^^^ zn) (wn ^^^ wj):=by
  rw [show mulU (zn ^^^ wj) (mulU (zi ^^^ wj) (mulU (zi ^^^ zn) (mulU (mulU (wn ^^^ wj) q) p)))=mulU (mulU (zn ^^^ wj) q) (mulU (mulU (zi ^^^ wj) p) (mulU (zi ^^^ zn) (wn ^^^ wj))) by ac_rfl,e1,e2,one_mulU,one_mulU]
 rw [l1,l2]
 simp only [mulU_xor,xor_mulU]
 rw [mulU_comm zn zi,mulU_comm wj zi,mulU_comm wj zn]
 have key:∀ a b c d f g:UInt8,((a ^^^ d) ^^^ (f ^^^ c)) ^^^ ((a ^^^ g) ^^^ (b ^^^ c))=(b ^^^ f) ^^^ (d ^^^ g):=by
  intro a b c d f g
  rw [show ((a ^^^ d) ^^^ (f ^^^ c)) ^^^ ((a ^^^ g) ^^^ (b ^^^ c))=((a ^^^ a) ^^^ (c ^^^ c)) ^^^ ((b ^^^ f) ^^^ (d ^^^ g)) by ac_rfl,xor_self2,xor_self2,xor_zero2,zero_xor2]
 exact key _ _ _ _ _ _
def sumL {α:Type} (l:List α) (f:α→UInt8):UInt8:=l.foldr (fun a s=>f a ^^^ s) 0
theorem sumL_cons {α:Type} (a:α) (l:List α) (f:α→UInt8):sumL (a::l) f=f a ^^^ sumL l f:=rfl
theorem sumL_congr {α:Type} {f g:α→UInt8}:∀ (l:List α),(∀ a∈l,f a=g a)→sumL l f=sumL l g
 | [],_=>rfl
 | a::l,h=>by rw [sumL_cons,sumL_cons,h a (by simp),sumL_congr l fun b hb=>h b (by simp [hb])]
theorem sumL_zero {α:Type} {f:α→UInt8}:∀ (l:List α),(∀ a∈l,f a=0)→sumL l f=0
 | [],_=>rfl
 | a::l,h=>by rw [sumL_cons,h a (by simp),sumL_zero l fun b hb=>h b (by simp [hb])];rfl
theorem sumL_mul {α:Type} (c:UInt8) (f:α→UInt8):∀ l:List α,mulU c (sumL l f)=sumL l fun a=>mulU c (f a)
 | []=>mulU_zero c
 | a::l=>by rw [sumL_cons,sumL_cons,mulU_xor,sumL_mul c f l]
theorem sumL_xor {α:Type} (f g:α→UInt8):∀ l:List α,sumL l (fun a=>f a ^^^ g a)=sumL l f ^^^ sumL l g
 | []=>(xor_zero2 0).symm
 | a::l=>by rw [sumL_cons,sumL_cons,sumL_cons,sumL_xor f g l];ac_rfl
theorem cauchy:∀ (W Z:List UInt8) (x:UInt8→UInt8),W.length=Z.length→W.Nodup→Z.Nodup→(∀ z∈Z,∀ w∈W,z≠w)→(∀ z∈Z,sumL W (fun w=>mulU (x w) (invU (z ^^^ w)))=0)→∀ w∈W,x w=0
 | [],_,_,_,_,_,_,_=>fun w hw=>by cases hw
 | w0::W,[],_,hl,_,_,_,_=>by simp at hl
 | w0::W,z0::Z,x,hl,hw,hz,hd,h=>by
  rw [List.nodup_cons] at hw hz
  have h0:=h z0 (by simp)
  rw [sumL_cons] at h0
  have d00:z0≠w0:=hd z0 (by simp) w0 (by simp)
  have ih:=cauchy W Z (fun w=>mulU (x w) (mulU (w0 ^^^ w) (invU (z0 ^^^ w)))) (by simpa using hl) hw.2 hz.2 (fun z hz w hw=>hd z (by simp [hz]) w (by simp [hw])) (fun z hzm=>by
   have h1:=h z (by simp [hzm])
   rw [sumL_cons] at h1
   have dz0:z≠w0:=hd z (by simp [hzm]) w0 (by simp)
   have dzz:z ^^^ z0≠0:=xor_ne fun e=>hz.1 (e ▸ hzm)
   refine mul_zero dzz ?_
   rw [sumL_mul]
   have e:sumL W (fun w=>mulU (z ^^^ z0) (mulU (mulU (x w) (mulU (w0 ^^^ w) (invU (z0 ^^^ w)))) (invU (z ^^^ w))))=mulU (z ^^^ w0) (sumL W fun w=>mulU (x w) (invU (z ^^^ w))) ^^^ mulU (z0 ^^^ w0) (sumL W fun w=>mulU (x w) (invU (z0 ^^^ w))):=by
    rw [sumL_mul,sumL_mul,←sumL_xor]
    refine sumL_congr W fun w hw => ?_
    have st:=cauchy_step (zi:=z) (zn:=z0) (wj:=w) (wn:=w0) (hd z (by simp [hzm]) w (by simp [hw])) (hd z0 (by simp) w (by simp [hw]))
    have:=congrArg (mulU (x w)) st
    rw [mulU_xor] at this
    rw [show mulU (z ^^^ w0) (mulU (x w) (invU (z ^^^ w)))=mulU (x w) (mulU (z ^^^ w0) (invU (z ^^^ w))) by ac_rfl,show mulU (z0 ^^^ w0) (mulU (x w) (invU (z0 ^^^ w)))=mulU (x w) (mulU (z0 ^^^ w0) (invU (z0 ^^^ w))) by ac_rfl,this]
    ac_rfl
   have g1:=congrArg (mulU (z ^^^ w0)) h1
   have g0:=congrArg (mulU (z0 ^^^ w0)) h0
   rw [mulU_xor,mulU_zero,show mulU (z ^^^ w0) (mulU (x w0) (invU (z ^^^ w0)))=mulU (x w0) (mulU (z ^^^ w0) (invU (z ^^^ w0))) by ac_rfl,mulU_inv (xor_ne dz0),mulU_one] at g1
   rw [mulU_xor,mulU_zero,show mulU (z0 ^^^ w0) (mulU (x w0) (invU (z0 ^^^ w0)))=mulU (x w0) (mulU (z0 ^^^ w0) (invU (z0 ^^^ w0))) by ac_rfl,mulU_inv (xor_ne d00),mulU_one] at g0
   rw [e,←xor_eq g1,←xor_eq g0]
   exact xor_self2 _)
  have hW:∀ w∈W,x w=0:=fun w hwm=>by
   have h2:=ih w hwm
   have n1:mulU (w0 ^^^ w) (invU (z0 ^^^ w))≠0:=mulU_ne (xor_ne fun e=>hw.1 (e ▸ hwm)) (invU_ne (xor_ne (hd z0 (by simp) w (by simp [hwm]))))
   rw [mulU_comm] at h2
   exact mul_zero n1 h2
  intro w hwm
  rcases List.mem_cons.1 hwm with rfl | hwm
  ·rw [sumL_zero W fun w' hw'=>by rw [hW w' hw',zero_mulU],xor_zero2,mulU_comm] at h0
   exact mul_zero (invU_ne (xor_ne d00)) h0
  ·exact hW w hwm
abbrev Mx:=Nat→Nat→UInt8
def swapM (m:Mx) (a n:Nat):Mx:=fun i=>if i=a then m n else if i=n then m a else m i
def scaleM (m:Mx) (n:Nat) (c:UInt8):Mx:=fun i q=>if i=n then mulU (m n q) c else m i q
def elimM (m:Mx) (n:Nat) (k:Nat→UInt8):Mx:=fun i q=>if i=n then m i q else m i q ^^^ mulU (k i) (m n q)
def pivot (m:Mx) (j:Nat):Nat→Nat→Nat
 | 0,at_=>at_
 | f+1,at_=>if m at_ j≠0 then at_ else pivot m j f (at_+1)
theorem pivot_ge (m:Mx) (j:Nat):∀ f a,a≤pivot m j f a∧pivot m j f a≤a+f
 | 0,a=>⟨Nat.le_refl _,Nat.le_refl _⟩
 | f+1,a=>by
  unfold pivot
  split
  ·omega
  ·have:=pivot_ge m j f (a+1);omega
theorem pivot_at (m:Mx) (j:Nat):∀ f a,pivot m j f a < a+f→m (pivot m j f a) j≠0
 | 0,a,h=>by unfold pivot at h;omega
 | f+1,a,h=>by
  unfold pivot at h ⊢
  split at h
  ·rename_i h1;rw [if_pos h1];exact h1
  ·rename_i h1;rw [if_neg h1];exact pivot_at m j f (a+1) (by omega)
theorem pivot_before (m:Mx) (j:Nat):∀ f a i,a≤i→i < pivot m j f a→m i j=0
 | 0,a,i,h1,h2=>by unfold pivot at h2;omega
 | f+1,a,i,h1,h2=>by
  unfold pivot at h2
  split at h2
  ·omega
  ·rename_i h3
   by_cases e:i=a
   ·subst e;simpa using h3
   ·exact pivot_before m j f (a+1) i (by omega) h2
structure GSt where
 n:Nat
 m:Mx
 b:Mx
def gstep (N j:Nat) (s:GSt):GSt :=
 let a:=pivot s.m j (N - s.n) s.n
 if N≤a then s else
  let m1:=swapM s.m a s.n
  let b1:=swapM s.b a s.n
  let c:=invU (m1 s.n j)
  let m2:=scaleM m1 s.n c
  let b2:=scaleM b1 s.n c
  ⟨s.n+1,elimM m2 s.n (fun i=>m2 i j),elimM b2 s.n (fun i=>m2 i j)⟩
def gsol (N:Nat) (m b:Mx):Nat→GSt
 | 0=>⟨0,m,b⟩
 | j+1=>gstep N j (gsol N m b j)
def idM:Mx:=fun i j=>if i=j then 1 else 0
def kern (N:Nat) (m:Mx) (x:Nat→UInt8):Prop:=∀ i,i < N→sumU N (fun q=>mulU (m i q) (x q))=0
def unitC (N j:Nat) (m:Mx):Prop:=∀ i q,i < N→q < j→m i q=if i=q then 1 else 0
def prodM (N:Nat) (M0 m b:Mx):Prop:=∀ i q,i < N→m i q=sumU N fun t=>mulU (b i t) (M0 t q)
structure GInv (N j:Nat) (M0:Mx) (s:GSt):Prop where
 n:s.n=j
 unit:unitC N j s.m
 prod:prodM N M0 s.m s.b
 ker:∀ x,kern N s.m x→kern N M0 x
theorem kern_swap {N a n:Nat} {m:Mx} {x:Nat→UInt8} (ha:a < N) (hn:n < N) (h:kern N (swapM m a n) x):kern N m x:=by
 intro i hi
 by_cases e1:i=a
 ·have:=h n hn
  unfold swapM at this
  by_cases e2:n=a
  ·rw [if_pos e2] at this;rw [e1,←e2];exact this
  ·rw [if_neg e2,if_pos rfl] at this;rw [e1];exact this
 ·by_cases e2:i=n
  ·have:=h a ha
   unfold swapM at this
   rw [if_pos rfl] at this
   rw [e2];exact this
  ·have:=h i hi
   unfold swapM at this
   rw [if_neg e1,if_neg e2] at this
   exact this
theorem kern_scale {N n:Nat} {m:Mx} {c:UInt8} {x:Nat→UInt8} (hc:c≠0) (h:kern N (scaleM m n c) x):kern N m x:=by
 intro i hi
 have:=h i hi
 unfold scaleM at this
 by_cases e:i=n
 ·subst e
  simp only [if_true] at this
  refine mul_zero hc ?_
  rw [sumU_mul]
  rw [←this]
  exact sumU_congr N fun q _=>by ac_rfl
 ·simp only [if_neg e] at this
  exact this
theorem kern_elim {N n:Nat} {m:Mx} {k:Nat→UInt8} {x:Nat→UInt8} (hn:n < N) (h:kern N (elimM m n k) x):kern N m x:=by
 have h0:=h n hn
 unfold elimM at h0
 simp only [if_true] at h0
 intro i hi
 have:=h i hi
 unfold elimM at this
 by_cases e:i=n
 ·subst e;exact h0
 ·simp only [if_neg e] at this
  have e2:sumU N (fun q=>mulU (m i q ^^^ mulU (k i) (m n q)) (x q))=sumU N (fun q=>mulU (m i q) (x q)) ^^^ mulU (k i) (sumU N fun q=>mulU (m n q) (x q)):=by
   rw [sumU_mul,←sumU_xor]
   exact sumU_congr N fun q _=>by rw [xor_mulU,mulU_assoc]
  rw [e2,h0,mulU_zero,xor_zero2] at this
  exact this
theorem prod_swap {N a n:Nat} {M0 m b:Mx} (ha:a < N) (hn:n < N) (h:prodM N M0 m b):prodM N M0 (swapM m a n) (swapM b a n):=by
 intro i q hi
 unfold swapM
 by_cases e1:i=a
 ·simp only [if_pos e1];exact h n q hn
 ·by_cases e2:i=n
  ·simp only [if_neg e1,if_pos e2];exact h a q ha
  ·simp only [if_neg e1,if_neg e2];exact h i q hi
theorem prod_scale {N n:Nat} {M0 m b:Mx} {c:UInt8} (hn:n < N) (h:prodM N M0 m b):prodM N M0 (scaleM m n c) (scaleM b n c):=by
 intro i q hi
 unfold scaleM
 by_cases e:i=n
 ·simp only [if_pos e]
  rw [h n q hn,mul_sumU]
  exact sumU_congr N fun t _=>by ac_rfl
 ·simp only [if_neg e];exact h i q hi
theorem prod_elim {N n:Nat} {M0 m b:Mx} {k:Nat→UInt8} (hn:n < N) (h:prodM N M0 m b):prodM N M0 (elimM m n k) (elimM b n k):=by
 intro i q hi
 unfold elimM
 by_cases e:i=n
 ·simp only [if_pos e];exact h i q hi
 ·simp only [if_neg e]
  rw [h i q hi,h n q hn,sumU_mul,←sumU_xor]
  exact sumU_congr N fun t _=>by rw [xor_mulU,mulU_assoc]
theorem ginv_step {N j:Nat} {M0:Mx} {s:GSt} (hj:j < N) (h:GInv N j M0 s) (hM:∀ x,kern N M0 x→∀ q,q < N→x q=0):GInv N (j+1) M0 (gstep N j s):=by
 have hn:=h.n
 have hp:=pivot_ge s.m j (N - s.n) s.n
 have hlt:pivot s.m j (N - s.n) s.n < N:=by
  by_cases hlt:pivot s.m j (N - s.n) s.n < N
  ·exact hlt
  ·exfalso
   have hz:∀ i,s.n≤i→i < N→s.m i j=0:=fun i h1 h2=>pivot_before s.m j (N - s.n) s.n i h1 (by omega)
   have hx:kern N s.m (fun q=>if q < j then s.m q j else if q=j then 1 else 0):=by
    intro i hi
    by_cases hij:i < j
    ·have e:sumU N (fun q=>mulU (s.m i q) (if q < j then s.m q j else if q=j then 1 else 0))=sumU N (fun q=>(if q=i then s.m i j else 0) ^^^ (if q=j then s.m i j else 0)):=sumU_congr N fun q hq=>by
      by_cases h1:q < j
      ·rw [if_pos h1,h.unit i q hi h1]
       have h2:¬ q=j:=by omega
       by_cases h3:q=i
       ·subst h3;rw [if_pos rfl,if_pos rfl,if_neg h2,one_mulU,xor_zero2]
       ·rw [if_neg (fun e=>h3 e.symm),if_neg h3,if_neg h2,zero_mulU];rfl
      ·rw [if_neg h1]
       by_cases h2:q=j
       ·subst h2
        rw [if_pos rfl,if_pos rfl,if_neg (by omega),mulU_one,zero_xor2]
       ·rw [if_neg h2,if_neg h2,if_neg (by omega),mulU_zero];rfl
     rw [e,sumU_xor,sumU_one (k:=i) N hi fun q _ hne=>if_neg hne,sumU_one (k:=j) N hj fun q _ hne=>if_neg hne,if_pos rfl,if_pos rfl]
     exact xor_self2 _
    ·refine sumU_zero N fun q hq => ?_
     show mulU (s.m i q) (if q < j then s.m q j else if q=j then 1 else 0)=0
     by_cases h1:q < j
     ·rw [h.unit i q hi h1,if_neg (by omega),zero_mulU]
     ·rw [if_neg h1]
      by_cases h2:q=j
      ·subst h2;rw [hz i (by omega) hi,zero_mulU]
      ·rw [if_neg h2,mulU_zero]
   have:=hM _ (h.ker _ hx) j hj
   rw [if_neg (Nat.lt_irrefl j),if_pos rfl] at this
   exact absurd this (by decide)
 have hpv:=pivot_at s.m j (N - s.n) s.n (by omega)
 unfold gstep
 simp only
 generalize pivot s.m j (N - s.n) s.n=a at *
 rw [if_neg (by omega)]
 have hnN:s.n < N:=by omega
 have hc:swapM s.m a s.n s.n j≠0:=by
  unfold swapM
  by_cases e:s.n=a
  ·rw [if_pos e,e];exact hpv
  ·rw [if_neg e,if_pos rfl];exact hpv
 have hci:=invU_ne hc
 refine ⟨by show s.n+1=j+1;omega, ?_,prod_elim hnN (prod_scale hnN (prod_swap hlt hnN h.prod)),fun x hx=>h.ker x (kern_swap hlt hnN (kern_scale hci (kern_elim hnN hx)))⟩
 have hsw:∀ i q,i < N→q < j→swapM s.m a s.n i q=if i=q then 1 else 0:=by
  intro i q hi hq
  have hq1:=h.unit a q hlt hq
  have hq2:=h.unit s.n q hnN hq
  rw [if_neg (by omega)] at hq1 hq2
  unfold swapM
  by_cases e1:i=a
  ·rw [if_pos e1,hq2,if_neg (by omega)]
  ·by_cases e2:i=s.n
   ·rw [if_neg e1,if_pos e2,hq1,if_neg (by omega)]
   ·rw [if_neg e1,if_neg e2];exact h.unit i q hi hq
 intro i q hi hq
 dsimp only
 generalize swapM s.m a s.n=m1 at *
 have hone:mulU (m1 s.n j) (invU (m1 s.n j))=1:=mulU_inv hc
 unfold elimM scaleM
 by_cases hqj:q=j
 ·subst hqj
  by_cases e:i=s.n
  ·simp only [if_pos e,hone]
   rw [if_pos (by omega)]
  ·simp only [if_neg e,if_true,hone,mulU_one]
   rw [if_neg (by omega)]
   exact xor_self2 _
 ·have h1:=hsw i q hi (by omega)
  have h2:=hsw s.n q hnN (by omega)
  rw [if_neg (by omega)] at h2
  by_cases e:i=s.n
  ·simp only [if_pos e,h2,zero_mulU]
   rw [if_neg (by omega)]
  ·simp only [if_neg e,if_true,h2,zero_mulU,mulU_zero,xor_zero2]
   exact h1
theorem gsol_inv {N:Nat} {M0:Mx} (hM:∀ x,kern N M0 x→∀ q,q < N→x q=0):∀ j,j≤N→GInv N j M0 (gsol N M0 idM j)
 | 0,_=>⟨rfl,fun i q _ h=>by omega,fun i q hi=>by
  show M0 i q=_
  have e0:sumU N (fun t=>mulU (idM i t) (M0 t q))=M0 i q:=by
   rw [sumU_one (k:=i) N hi fun t _ hne=>by unfold idM;rw [if_neg (fun e=>hne e.symm),zero_mulU]]
   unfold idM
   rw [if_pos rfl,one_mulU]
  exact e0.symm,fun x hx=>hx⟩
 | j+1,h=>ginv_step (by omega) (gsol_inv hM j (by omega)) hM
theorem gsol_ok {N:Nat} {M0:Mx} (hM:∀ x,kern N M0 x→∀ q,q < N→x q=0):(gsol N M0 idM N).n=N∧∀ i q,i < N→q < N→(sumU N fun t=>mulU ((gsol N M0 idM N).b i t) (M0 t q))=if i=q then 1 else 0:=by
 have h:=gsol_inv hM N (Nat.le_refl _)
 exact ⟨h.n,fun i q hi hq=>by rw [←h.prod i q hi];exact h.unit i q hi hq⟩
structure RSim (N:Nat) (s:GSt) (r:Nat×Mx):Prop where
 n:r.1=s.n
 rows:∃ f:Nat→UInt8,(∀ i,i < N→f i≠0)∧∀ i,i < N→∀ q,q < N→r.2 i q=mulU (f i) (s.m i q)∧r.2 i (N+q)=mulU (f i) (s.b i q)
theorem gsol_le {N:Nat} (m b:Mx):∀ j,(gsol N m b j).n≤N
 | 0=>Nat.zero_le _
 | j+1=>by
  have ih:=gsol_le (N:=N) m b j
  show (gstep N j (gsol N m b j)).n≤N
  have hp:=pivot_ge (gsol N m b j).m j (N - (gsol N m b j).n) (gsol N m b j).n
  unfold gstep
  simp only
  split
  ·exact ih
  ·show (gsol N m b j).n+1≤N
   omega
def codeR (k cell q:Nat):UInt8:=if cell < k then (if cell=q then 1 else 0) else invU (UInt8.ofNat cell ^^^ UInt8.ofNat q)
theorem sumL_append {α:Type} (f:α→UInt8):∀ (a b:List α),sumL (a++b) f=sumL a f ^^^ sumL b f
 | [],b=>(zero_xor2 _).symm
 | x::a,b=>by rw [List.cons_append,sumL_cons,sumL_cons,sumL_append f a b];ac_rfl
theorem sumU_L (f:Nat→UInt8):∀ n,sumU n f=sumL (List.range n) f
 | 0=>rfl
 | n+1=>by
  rw [List.range_succ,sumL_append,←sumU_L f n]
  show sumU n f ^^^ f n=sumU n f ^^^ (f n ^^^ 0)
  rw [xor_zero2]
theorem sumL_part {α:Type} (p:α→Bool) (f:α→UInt8):∀ (l:List α),(∀ a∈l,p a=false→f a=0)→sumL l f=sumL (l.filter p) f
 | [],_=>rfl
 | a::l,h=>by
  have ih:=sumL_part p f l fun b hb=>h b (by simp [hb])
  rw [List.filter_cons,sumL_cons]
  split
  ·rw [sumL_cons,ih]
  ·rename_i hp
   rw [h a (by simp) (by simpa using hp),zero_xor2,ih]
theorem sumL_map {α β:Type} (g:α→β) (f:β→UInt8):∀ l:List α,sumL (l.map g) f=sumL l fun a=>f (g a)
 | []=>rfl
 | a::l=>by rw [List.map_cons,sumL_cons,sumL_cons,sumL_map g f l]
theorem nodup_map_u8:∀ (l:List Nat),l.Nodup→(∀ a∈l,a < 256)→(l.map UInt8.ofNat).Nodup
 | [],_,_ => .nil
 | a::l,h,hb=>by
  rw [List.nodup_cons] at h
  rw [List.map_cons,List.nodup_cons]
  refine ⟨fun hm => ?_,nodup_map_u8 l h.2 fun b hb2=>hb b (by simp [hb2])⟩
  obtain ⟨b,hb1,he⟩:=List.mem_map.1 hm
  have:=congrArg UInt8.toNat he
  rw [ofN (hb b (by simp [hb1])),ofN (hb a (by simp))] at this
  exact h.1 (this ▸ hb1)
theorem filter_split {α:Type} (p:α→Bool):∀ l:List α,(l.filter p).length+(l.filter fun a => !p a).length=l.length
 | []=>rfl
 | a::l=>by
  have:=filter_split p l
  rw [List.filter_cons,List.filter_cons]
  cases h:p a <;> simp <;> omega
theorem mds {k:Nat} {at_:List Nat} (hk:at_.length=k) (hn:at_.Nodup) (hb:∀ a∈at_,a < 256) {x:Nat→UInt8} (h:kern k (fun t q=>codeR k (at_.getD t 0) q) x):∀ q,q < k→x q=0:=by
 have heq:∀ a∈at_,sumU k (fun q=>mulU (codeR k a q) (x q))=0:=by
  intro a ha
  obtain ⟨t,ht⟩:=List.getElem?_of_mem ha
  have htl:=(List.getElem?_eq_some_iff.1 ht).1
  have:=h t (by omega)
  simp only [List.getD_eq_getElem?_getD,ht,Option.getD_some] at this
  exact this
 have h1:∀ q,q < k→q∈at_→x q=0:=by
  intro q hq hm
  have:=heq q hm
  rw [sumU_one (k:=q) k hq fun i _ hne=>by unfold codeR;rw [if_pos hq,if_neg (fun e=>hne e.symm),zero_mulU]] at this
  unfold codeR at this
  rw [if_pos hq,if_pos rfl,one_mulU] at this
  exact this
 have hlen:((List.range k).filter fun q => !decide (q∈at_)).length=(at_.filter fun a => !decide (a < k)).length:=by
  have s1:=filter_split (fun q=>decide (q∈at_)) (List.range k)
  have s2:=filter_split (fun a=>decide (a < k)) at_
  rw [List.length_range] at s1
  have:((List.range k).filter fun q=>decide (q∈at_)).length=(at_.filter fun a=>decide (a < k)).length:=by
   apply List.Perm.length_eq
   rw [List.perm_ext_iff_of_nodup (List.nodup_range.filter _) (hn.filter _)]
   intro a
   simp only [List.mem_filter,List.mem_range,decide_eq_true_eq]
   exact And.comm
  omega
 have hbk:∀ q,q < k→q < 256:=by
  intro q hq
  have:k≤256:=by
   have hsub:at_.length≤(List.range 256).length:=hn.length_le_of_subset fun a ha=>List.mem_range.2 (hb a ha)
   rw [List.length_range] at hsub
   omega
  omega
 have hc:=cauchy (((List.range k).filter fun q => !decide (q∈at_)).map UInt8.ofNat) ((at_.filter fun a => !decide (a < k)).map UInt8.ofNat) (fun w=>x w.toNat) (by rw [List.length_map,List.length_map];exact hlen)
  (nodup_map_u8 _ (List.nodup_range.filter _) fun a ha=>hbk a (List.mem_range.1 (List.mem_filter.1 ha).1))
  (nodup_map_u8 _ (hn.filter _) fun a ha=>hb a (List.mem_filter.1 ha).1)
  (fun z hz w hw e=>by
   obtain ⟨a,ha,rfl⟩:=List.mem_map.1 hz
   obtain ⟨b,hb2,rfl⟩:=List.mem_map.1 hw
   rw [List.mem_filter] at ha hb2
   have hbl:=List.mem_range.1 hb2.1
   have:=congrArg UInt8.toNat e
   rw [ofN (hb a ha.1),ofN (hbk b hbl)] at this
   have h2:=ha.2
   simp at h2
   omega)
  (fun z hz=>by
   obtain ⟨a,ha,rfl⟩:=List.mem_map.1 hz
   rw [List.mem_filter] at ha
   have hak:¬ a < k:=by simpa using ha.2
   rw [sumL_map]
   have h2:=heq a ha.1
   rw [sumU_L,sumL_part (fun q => !decide (q∈at_)) _ _ fun q hq hp=>by rw [h1 q (List.mem_range.1 hq) (by simpa using hp),mulU_zero]] at h2
   rw [←h2]
   refine sumL_congr _ fun q hq => ?_
   have hql:=List.mem_range.1 (List.mem_filter.1 hq).1
   unfold codeR
   rw [if_neg hak,ofN (hbk q hql)]
   exact mulU_comm _ _)
 intro q hq
 by_cases hm:q∈at_
 ·exact h1 q hq hm
 ·have:=hc (UInt8.ofNat q) (List.mem_map.2 ⟨q,List.mem_filter.2 ⟨List.mem_range.2 hq,by simp [hm]⟩,rfl⟩)
  rw [ofN (hbk q hq)] at this
  exact this
def invM (N:Nat) (M0:Mx):Mx:=(gsol N M0 idM N).b
def nokern (N:Nat) (M0:Mx):Prop:=∀ x,kern N M0 x→∀ q,q < N→x q=0
theorem sum_delta {N i:Nat} (hi:i < N) (x:Nat→UInt8):(sumU N fun q=>mulU (if i=q then 1 else 0) (x q))=x i:=by
 rw [sumU_one (k:=i) N hi fun q _ hne=>by rw [if_neg (fun e=>hne e.symm),zero_mulU],if_pos rfl,one_mulU]
def rowsM (k:Nat) (at_:List Nat):Mx:=fun t q=>codeR k (at_.getD t 0) q
theorem rows_nokern {k:Nat} {at_:List Nat} (hk:at_.length=k) (hn:at_.Nodup) (hb:∀ a∈at_,a < 256):nokern k (rowsM k at_):=fun x h=>mds hk hn hb h
def datU (k:Nat) (at_:List Nat) (C:Mx):Mx:=fun i p=>sumU k fun t=>mulU (invM k (rowsM k at_) i t) (C (at_.getD t 0) p)
def celU (k:Nat) (D:Mx):Mx:=fun i p=>sumU k fun q=>mulU (codeR k i q) (D q p)
def decU (k:Nat) (at_:List Nat) (C:Mx):Mx:=celU k (datU k at_ C)
theorem celU_data {k:Nat} (D:Mx) {i:Nat} (hi:i < k) (p:Nat):celU k D i p=D i p:=by
 unfold celU
 rw [sumU_congr k fun q hq=>by unfold codeR;rw [if_pos hi],sum_delta hi]
end Go.Gf
set_option maxRecDepth 10000
namespace Go.Proofs.YtgcicholalgbiaaGreat
open Go Go.Tw Go.Proofs Go.Gf
theorem un_neg {P:Program} {k:IntKind} {a:Int}:unE P .neg (.val (.int k a))=some (.val (.int k (k.wrap (-a)))):=by
 simp [unE,Op.unary,Op.intArith,pureR,Bind.bind,Sem.bind,Pure.pure]
theorem bxorU (a b:UInt8):bxorI .u8 (a.toNat:Int) (b.toNat:Int)=((a ^^^ b).toNat:Int):=by
 rw [bxorI_u8 (ltN a) (ltN b),UInt8.toNat_xor]
theorem gf_Add (a b:UInt8):FSpec Tryz.prog 199 [byteV a,byteV b] ⟨byteV (a ^^^ b),[]⟩:=by
 refine fspec_of_body follows Tryz.func199 (by unfold Tryz.f199;rfl) (by unfold Tryz.f199;simp) onceA (by unfold Tryz.f199;simp) (by kernel_rfl) ?_;unfold Tryz.f199
 simp only [↓pre,simprocAttr,parV,sx,tys199,onceA,postX,byteV,bxorU]
def twI (a:Int):Int:=bxorI .u8 (IntKind.u8.wrap (a*2 ^ min 1 8)) (bandI .u8 29 (IntKind.u8.wrap (-(a / 2 ^ min 7 8))))
def chkTw:Bool:=(List.range 256).all fun a=>decide (twI (a:Int)=(xt a:Int)) && decide (xt a < 256)
theorem chkTw_t:chkTw=true:=by kernel_rfl
theorem twI_ok (a:UInt8):twI (a.toNat:Int)=(xt a.toNat:Int)∧xt a.toNat < 256:=by
 have h:=chkTw_t
 unfold chkTw at h
 rw [List.all_eq_true] at h
 have h2:=h a.toNat (List.mem_range.2 (ltN a))
 simpa using h2
def xtU (a:UInt8):UInt8:=UInt8.ofNat (xt a.toNat)
theorem xtU_nat (a:UInt8):(xtU a).toNat=xt a.toNat:=ofN (twI_ok a).2
theorem gf_twice (a:UInt8):FSpec Tryz.prog 207 [byteV a] ⟨byteV (xtU a),[]⟩:=by
 have h:=(twI_ok a).1
 unfold twI at h
 have h2:((xtU a).toNat:Int)=(xt a.toNat:Int):=by rw [xtU_nat]
 refine fspec_of_body follows Tryz.func207 (by unfold Tryz.f207;rfl) (by unfold Tryz.f207;simp) onceA (by unfold Tryz.f207;simp) (by kernel_rfl) ?_;unfold Tryz.f207
 simp only [↓pre,simprocAttr,parV,sx,tys207,onceA,postX,postV,byteV,un_neg,IntKind.bits,h,h2]
def stI (c a b:Int):Int:=bxorI .u8 c (bandI .u8 a (IntKind.u8.wrap (-(bandI .u8 b 1))))
theorem bandU (a b:UInt8):bandI .u8 (a.toNat:Int) (b.toNat:Int)=((a &&& b).toNat:Int):=by
 have h:(a &&& b).toNat < 256:=ltN _
 rw [UInt8.toNat_and] at h
 unfold bandI
 rw [bv_nat,bv_nat,BitVec.toNat_and,BitVec.toNat_ofNat,BitVec.toNat_ofNat,UInt8.toNat_and]
 simp only [IntKind.bits]
 have h1:=ltN a
 have h2:=ltN b
 rw [Nat.mod_eq_of_lt (by omega),Nat.mod_eq_of_lt (by omega)]
 simp [IntKind.wrap,IntKind.bits,IntKind.signed]
 omega
theorem stI_ok (c a b:UInt8):stI (c.toNat:Int) (a.toNat:Int) (b.toNat:Int)=((if b.toNat % 2=1 then c ^^^ a else c).toNat:Int):=by
 unfold stI
 have e1:bandI .u8 (b.toNat:Int) 1=((b.toNat % 2:Nat):Int):=by
  have:=bandU b 1
  rw [show ((1:UInt8).toNat:Int)=1 from rfl] at this
  rw [this,UInt8.toNat_and]
  show ((b.toNat &&& 1:Nat):Int)=_
  rw [Nat.and_one_is_mod]
 rw [e1]
 by_cases h:b.toNat % 2=1
 ·rw [if_pos h,h]
  have e2:IntKind.u8.wrap (-((1:Nat):Int))=((255:UInt8).toNat:Int):=by decide
  rw [e2,bandU,bxorU]
  have:a &&& 255=a:=by
   apply UInt8.toNat_inj.1
   rw [UInt8.toNat_and]
   have:=ltN a
   show a.toNat &&& 255=a.toNat
   have h8:=Nat.and_two_pow_sub_one_eq_mod a.toNat 8
   rw [show (2 ^ 8 - 1:Nat)=255 from rfl] at h8
   rw [h8]
   omega
  rw [this]
 ·rw [if_neg h,show b.toNat % 2=0 by omega]
  have e2:IntKind.u8.wrap (-((0:Nat):Int))=((0:UInt8).toNat:Int):=by decide
  rw [e2,bandU,bxorU]
  have:a &&& 0=0:=by
   apply UInt8.toNat_inj.1
   rw [UInt8.toNat_and]
   show a.toNat &&& 0=0
   exact Nat.and_zero _
  rw [this,xor_zero2]
def hfU (b:UInt8):UInt8:=UInt8.ofNat (b.toNat / 2)
theorem hfU_nat (b:UInt8):(hfU b).toNat=b.toNat / 2:=ofN (by have:=ltN b;omega)
theorem gm_zero:∀ (n a:Nat),gm n a 0=0
 | 0,_=>by unfold gm;rfl
 | n+1,a=>by unfold gm;rw [if_neg (by decide),Nat.zero_div,gm_zero n,Nat.xor_self]
theorem gf_Mul (a b:UInt8):FSpec Tryz.prog 204 [byteV a,byteV b] ⟨byteV (mulU a b),[]⟩:=by
 have ht:=gf_twice
 have hst:=stI_ok
 unfold stI at hst
 refine fspec_of_body follows Tryz.func204 (by unfold Tryz.f204;rfl) (by unfold Tryz.f204;simp) onceA (by unfold Tryz.f204;simp) (by kernel_rfl) ?_;unfold Tryz.f204
 simp only [↓pre,simprocAttr,parV,sx,tys204,onceA]
 rw [codeW_loop]
 refine loop_intro (fun q e m=>∃ x y z:UInt8,y.toNat < 2 ^ q∧e 0=byteV x∧e 1=byteV y∧e 5=byteV z∧Hid (z.toNat ^^^ gm q x.toNat y.toNat=(mulU a b).toNat)) 8 ⟨a,b,0,ltN b,rfl,rfl,rfl,⟨?_⟩⟩ ?_
 ·rw [mulU_toNat];exact Nat.zero_xor _
 rintro q e m ⟨x,y,z,hy,e0,e1,e5,hJ⟩
 by_cases h0:y=0
 ·subst h0
  have hz:z=mulU a b:=by
   apply UInt8.toNat_inj.1
   have:=hJ.out
   rw [show (0:UInt8).toNat=0 from rfl,gm_zero,Nat.xor_zero] at this
   exact this
  rw [←hz]
  simp only [↓pre,simprocAttr,parV,sx,tys204,onceA,e0,e1,e5,byteV,show (0:UInt8).toNat=0 from rfl,Int.natCast_zero,eq_self]
 ·have hy0:¬ ((y.toNat:Nat):Int)=0:=fun h=>h0 (UInt8.toNat_inj.1 (by show y.toNat=0;omega))
  have hq:q≠0:=fun e=>by subst e;exact hy0 (by simp at hy;omega)
  obtain ⟨p,rfl⟩:∃ p,q=p+1:=⟨q - 1,by omega⟩
  have hs:=hst z x y
  have hh:((y.toNat:Nat):Int) / 2 ^ min 1 8=((hfU y).toNat:Int):=by rw [hfU_nat];simp
  replace hy:=Hid.mk hy
  simp only [↓pre,simprocAttr,parV,sx,tys204,onceA,e0,e1,e5,byteV,hy0,postX,postV,un_neg,hs]
  (first | refine call_plain (ht x) (by first | rfl | simp only [parV,plQ, *]) ?_ | refine call_pure (ht x) (by first | rfl | simp only [parV,plQ, *]) (by intro k;first | rfl | simp only [sq,sr, *]) ?_);simp only [↓pre,simprocAttr,parV,sx,tys204,onceA,e0,e1,e5,byteV,hy0,postX,postV,IntKind.bits,hh]
  refine ⟨p,by omega,xtU x,hfU y,(if y.toNat % 2=1 then z ^^^ x else z), ?_,rfl,rfl,rfl,⟨?_⟩⟩
  ·have:=hy.out
   rw [hfU_nat]
   rw [Nat.pow_succ] at this
   omega
  ·have:=hJ.out
   unfold gm at this
   rw [hfU_nat,xtU_nat,←this]
   by_cases h:y.toNat % 2=1
   ·rw [if_pos h,if_pos h,UInt8.toNat_xor,Nat.xor_assoc]
   ·rw [if_neg h,if_neg h,Nat.zero_xor]
def tabC (f:Nat→Nat):List AV:=(List.range 256).map fun j => .val (.int .u8 (f j:Int))
theorem tabC_len (f:Nat→Nat):(tabC f).length=256:=by simp [tabC]
theorem tabC_at (f:Nat→Nat) {j:Nat} (h:j < 256):(tabC f)[j]? = some (.val (.int .u8 (f j:Int))):=by
 unfold tabC
 rw [List.getElem?_map,List.getElem?_range h]
 rfl
theorem tabC_put {f g:Nat→Nat} {i:Nat} (hi:i < 256) (hg:∀ j,j < 256→g j=if j=i then g i else f j):splice (tabC f) i [.val (.int .u8 (g i:Int))]=tabC g:=by
 have hl:=tabC_len f
 unfold splice
 apply List.ext_getElem?
 intro j
 by_cases hj:j < 256
 ·rw [tabC_at g hj,List.append_assoc]
  have htl:((tabC f).take i).length=i:=by rw [List.length_take,hl];omega
  by_cases h1:j < i
  ·rw [List.getElem?_append_left (by omega),List.getElem?_take_of_lt h1,tabC_at f hj,hg j hj,if_neg (by omega)]
  ·rw [List.getElem?_append_right (by omega),htl]
   by_cases h2:j=i
   ·subst h2;rw [Nat.sub_self];rfl
   ·rw [List.getElem?_append_right (by simp;omega),List.getElem?_drop]
    simp only [List.length_cons,List.length_nil]
    rw [show i+(0+1)+(j - i - (0+1))=j by omega,tabC_at f hj,hg j hj,if_neg h2]
 ·rw [List.getElem?_eq_none (by simp [hl];omega),List.getElem?_eq_none (by rw [tabC_len];omega)]
def pwF (n j:Nat):Nat:=if j < n then gE j else 0
def whF (n v:Nat):Nat:=if v≠0∧gL v < n then gL v else 0
theorem pwF_put {n:Nat} (hn:n < 256):splice (tabC (pwF n)) n [.val (.int .u8 (gE n:Int))]=tabC (pwF (n+1)):=by
 have h:=tabC_put (f:=pwF n) (g:=pwF (n+1)) hn fun j hj=>by
  unfold pwF
  by_cases h:j=n
  ·rw [if_pos h,h]
  ·rw [if_neg h]
   by_cases h2:j < n
   ·rw [if_pos h2,if_pos (by omega)]
   ·rw [if_neg h2,if_neg (by omega)]
 rw [show pwF (n+1) n=gE n by unfold pwF;rw [if_pos (by omega)]] at h
 exact h
theorem whF_put {n:Nat} (hn:n < 255):splice (tabC (whF n)) (gE n) [.val (.int .u8 (n:Int))]=tabC (whF (n+1)):=by
 obtain ⟨h1,h2,h3⟩:=gE_ok hn
 have h:=tabC_put (f:=whF n) (g:=whF (n+1)) h3 fun v hv=>by
  unfold whF
  by_cases h:v=gE n
  ·rw [if_pos h,h]
  ·rw [if_neg h]
   by_cases h0:v=0
   ·rw [if_neg (by simp [h0]),if_neg (by simp [h0])]
   ·have:=gL_ok hv h0
    have hne:gL v≠n:=fun e=>h (by rw [←this.1,e])
    by_cases h4:gL v < n
    ·rw [if_pos ⟨h0,by omega⟩,if_pos ⟨h0,h4⟩]
    ·rw [if_neg (fun h=>by omega),if_neg (fun h=>h4 h.2)]
 rw [show whF (n+1) (gE n)=n by unfold whF;rw [h1,if_pos ⟨h2,by omega⟩]] at h
 exact h
def chkX:Bool:=(List.range 255).all fun n=>xt (gE n) == gE ((n+1) % 255)
theorem chkX_t:chkX=true:=by kernel_rfl
def eU (n:Nat):UInt8:=UInt8.ofNat (gE (n % 255))
theorem eU_nat (n:Nat):(eU n).toNat=gE (n % 255):=ofN (gE_ok (Nat.mod_lt _ (by decide))).2.2
theorem eU_next {n:Nat} (h:n < 255):xtU (eU n)=eU (n+1):=by
 apply UInt8.toNat_inj.1
 rw [xtU_nat,eU_nat,eU_nat,Nat.mod_eq_of_lt h]
 have h1:=chkX_t
 unfold chkX at h1
 rw [List.all_eq_true] at h1
 exact eq_of_beq (h1 n (List.mem_range.2 h))
theorem put_same {m:Mem} {b:Nat} {k:Blk} (h:m.at_ b=some k):m.put b (some k)=m:=by
 obtain ⟨n,a,mm⟩:=m
 unfold Mem.put
 congr 1
 funext j
 simp only
 split
 ·rename_i e;rw [e];exact h.symm
 ·rfl
def onceTb:Nat→Bool:=fun d=>d != 0 && d != 1 && d != 17 && d != 18
theorem tab_alloc (m:Mem):allocE Tryz.prog false m 262=some ⟨.ptr m.next 0,m.push ⟨tabC (fun _=>0),262,.var,true⟩,none⟩:=by kernel_rfl
theorem gf_table:FSpec Tryz.prog 208 [] ⟨.tup [.agg (tabC (pwF 255)),.agg (tabC (whF 255))],[]⟩:=by
 have ht:=gf_twice
 have f0:(fun _=>0)=pwF 0:=by funext j;simp [pwF]
 have f1:(fun _=>0)=whF 0:=by funext j;simp [whF]
 refine fspec_of_body follows Tryz.func208 (by unfold Tryz.f208;rfl) (by unfold Tryz.f208;simp) onceTb (by unfold Tryz.f208;simp) (by kernel_rfl) ?_;unfold Tryz.f208
 simp only [↓pre,simprocAttr,parV,sx,tys208,onceTb,bne,postU,postA,postV,storeE,put_at,push_at,tab_alloc,sr]
 rw [codeW_loop]
 refine loop_intro (fun q e m=>∃ n,q+n=255∧e 0 = .ptr 0 0∧e 1 = .ptr 1 0∧e 2=byteV (eU n)∧e 4=intV (n:Nat)∧m.at_ 0=some ⟨tabC (pwF n),262,.var,true⟩∧m.at_ 1=some ⟨tabC (whF n),262,.var,true⟩) 255 ⟨0,rfl,rfl,rfl,rfl,rfl,by rw [←f0];rfl,by rw [←f1];rfl⟩ ?_
 rintro q e m ⟨n,hq,e0,e1,e2,e4,hm0,hm1⟩
 replace hq:=Hid.mk hq
 have hl0:=tabC_len (pwF n)
 have hl1:=tabC_len (whF n)
 by_cases hlt:n < 255
 ·have hlt':((n:Nat):Int) < 255:=by omega
  have w1:=wrap_succ (n:=n) (by omega)
  have hen:((eU n).toNat:Int)=(gE n:Int):=by rw [eU_nat,Nat.mod_eq_of_lt hlt]
  have hgl:=(gE_ok hlt).2.2
  have p0:=pwF_put (n:=n) (by omega)
  have p1:=whF_put hlt
  unfold splice at p0 p1
  simp only [List.length_cons,List.length_nil,Nat.zero_add] at p0 p1
  have hn1:n≤255:=by omega
  have hg1:gE n≤255:=by omega
  have hn256:n < 256:=by omega
  have hw:IntKind.u8.wrap ((n:Nat):Int)=((n:Nat):Int):=by simp [IntKind.wrap,IntKind.bits,IntKind.signed];omega
  have hnx:=eU_next hlt
  have hts:=ht (eU n)
  rw [hnx] at hts
  simp only [byteV,hen] at hts e2
  replace hnx:=Hid.mk hnx
  replace hen:=Hid.mk hen
  simp only [↓pre,simprocAttr,parV,sx,tys208,onceTb,bne,postU,postA,postV,storeE,put_at,push_at,tab_alloc,e0,e1,e2,e4,hm0,hm1,hl0,hl1,hlt',hn256,hgl,hn1,hg1,p0,p1,hw,sr]
  (first | refine call_plain (hts) (by first | rfl | simp only [parV,plQ, *]) ?_ | refine call_pure (hts) (by first | rfl | simp only [parV,plQ, *]) (by intro k;first | rfl | simp only [sq,sr, *]) ?_);simp only [↓pre,simprocAttr,parV,sx,tys208,onceTb,bne,postU,postA,postV,storeE,put_at,push_at,tab_alloc,e0,e1,e2,e4,w1,byteV,sr]
  exact ⟨q - 1,by have:=hq.out;omega,n+1,by have:=hq.out;omega,rfl,rfl,rfl,rfl⟩
 ·have hlt':¬ ((n:Nat):Int) < 255:=by omega
  have hn:n=255:=by have:=hq.out;omega
  subst hn
  have ht0:(tabC (pwF 255)).take 256=tabC (pwF 255):=List.take_of_length_le (by omega)
  have ht1:(tabC (whF 255)).take 256=tabC (whF 255):=List.take_of_length_le (by omega)
  have hd0:(tabC (pwF 255)).drop 256=[]:=List.drop_eq_nil_of_le (by omega)
  have hd1:(tabC (whF 255)).drop 256=[]:=List.drop_eq_nil_of_le (by omega)
  have hst:∀ f,∀ c∈tabC f,Still Tryz.prog c:=fun f c hc=>by
   unfold tabC at hc
   obtain ⟨j,_,rfl⟩:=List.mem_map.1 hc
   exact still_val _
  have hc0:=fun m=>still_all (P:=Tryz.prog) m 3 [] [] _ (hst (pwF 255))
  have hc1:=fun m=>still_all (P:=Tryz.prog) m 3 [] [] _ (hst (whF 255))
  replace hst:=Hid.mk hst
  have hp0:=put_same hm0
  have hp1:=put_same hm1
  simp only [↓pre,simprocAttr,parV,sx,tys208,onceTb,bne,postU,postA,postV,storeE,put_at,push_at,tab_alloc,e0,e1,e2,e4,hm0,hm1,hl0,hl1,hlt',ht0,hd0,ht1,hd1,hp0,hp1,hc0,hc1,sr]
theorem fzs_vals {m:Mem}:∀ (cs:List AV),(∀ c∈cs,∃ v,c = .val v)→fzs m cs=some (cs,m)
 | [],_=>by unfold fzs;rfl
 | c::cs,h=>by
  obtain ⟨v,rfl⟩:=h c (by simp)
  have ih:=fzs_vals (m:=m) cs fun x hx=>h x (by simp [hx])
  unfold fzs fz
  simp [ih]
theorem tab_allocT (m:Mem):allocE Tryz.prog true m 262=some ⟨.ptr m.next 0,m.push ⟨tabC (fun _=>0),262,.hole,true⟩,none⟩:=by kernel_rfl
theorem gf_Pow (a:UInt8):FSpec Tryz.prog 206 [byteV a,intV (-1)] ⟨.tup [byteV (if a=0 then 0 else invU a),intV (if a=0 then 10 else 0)],[]⟩:=by
 have ht:=gf_table
 by_cases h0:a=0
 ·subst h0
  rw [if_pos rfl,if_pos rfl]
  refine fspec_of_body follows Tryz.func206 (by unfold Tryz.f206;rfl) (by unfold Tryz.f206;simp) onceA (by unfold Tryz.f206;simp) (by kernel_rfl) ?_;unfold Tryz.f206
  simp only [↓pre,post,↓reduceIte,Nat.reduceEqDiff,Nat.reduceAdd,Nat.reduceMul,Nat.reduceSub,Nat.reduceLeDiff,Nat.reduceMod,Nat.reduceDiv,reduceCtorEq,Nat.reduceLT,Nat.reduceGT,Nat.reduceBEq,sb,Int.reduceEq,bin_quo,bin_rem,stepW,opE,intV,parV,boxE,loadE,partE,faddrE,fieldE,checkE,extractE,resultsE,resEs,resE,buildE,fillE,splice,AV.cells,okA,oneA,fzs,fz,opTmp,canonR,canon,canons,shift,shifts,pushAll,pushFrom,tys206,onceA,byteV,show (0:UInt8).toNat=0 from rfl,Int.natCast_zero,eq_self,pick_t,pick_f,Int.reduceNeg,Int.reduceLT]
 ·rw [if_neg h0,if_neg h0]
  have hn:a.toNat≠0:=fun h=>h0 (UInt8.toNat_inj.1 h)
  have ha0:¬ ((a.toNat:Nat):Int)=0:=by omega
  have hal:=ltN a
  obtain ⟨g1,g2⟩:=gL_ok hal hn
  have hw:(tabC (whF 255))[a.toNat]? = some (.val (.int .u8 (gL a.toNat:Int))):=by
   rw [tabC_at _ hal]
   unfold whF
   rw [if_pos ⟨hn,g2⟩]
  have hiv:((invU a).toNat:Int)=(gE ((255 - gL a.toNat) % 255):Int):=by
   unfold invU
   rw [ofN (ginv_lt _)]
   rfl
  have hr1:Int.tmod (-1) 255 = -1:=by decide
  have hc:IntKind.i64.wrap ((gL a.toNat:Nat):Int)=((gL a.toNat:Nat):Int):=wrap_nat (by omega)
  have hm:IntKind.i64.wrap (((gL a.toNat:Nat):Int) * -1) = -((gL a.toNat:Nat):Int):=by
   rw [show ((gL a.toNat:Nat):Int) * -1 = -((gL a.toNat:Nat):Int) by omega]
   exact wrap_id (by omega) (by omega)
  have hr2:Int.tmod (-((gL a.toNat:Nat):Int)) 255 = -((gL a.toNat:Nat):Int):=by
   rw [Int.neg_tmod,Int.tmod_eq_of_lt (by omega) (by omega)]
  generalize invU a=iv at *
  generalize hL:gL a.toNat=L at *
  replace hL:=Hid.mk hL
  replace g1:=Hid.mk g1
  have h255:(255:Int)≠0:=by decide
  have hl0:=tabC_len (pwF 255)
  have hl1:=tabC_len (whF 255)
  have hnx:Mem.empty.next=0:=rfl
  have hsv:∀ (f:Nat→Nat) (k:Nat),shifts k (tabC f)=tabC f:=fun f k=>by
   have key:∀ l:List Nat,shifts k (l.map fun j=>AV.val (.int .u8 (f j:Int)))=l.map fun j=>AV.val (.int .u8 (f j:Int)):=by
    intro l
    induction l with
    | nil=>unfold shifts;rfl
    | cons a l ih=>rw [List.map_cons];unfold shifts;rw [ih];rfl
   exact key _
  have hlz:=tabC_len (fun _=>0)
  have hfz:∀ (f:Nat→Nat) (m:Mem),fzs m (tabC f)=some (tabC f,m):=fun f m=>fzs_vals _ fun c hc=>by
   unfold tabC at hc
   obtain ⟨j,_,rfl⟩:=List.mem_map.1 hc
   exact ⟨_,rfl⟩
  refine fspec_of_body follows Tryz.func206 (by unfold Tryz.f206;rfl) (by unfold Tryz.f206;simp) onceA (by unfold Tryz.f206;simp) (by kernel_rfl) ?_;unfold Tryz.f206
  simp only [↓pre,post,↓reduceIte,Nat.reduceEqDiff,Nat.reduceAdd,Nat.reduceMul,Nat.reduceSub,Nat.reduceLeDiff,Nat.reduceMod,Nat.reduceDiv,reduceCtorEq,Nat.reduceLT,Nat.reduceGT,Nat.reduceBEq,sb,Int.reduceEq,bin_quo,bin_rem,stepW,opE,intV,parV,boxE,loadE,partE,faddrE,fieldE,checkE,extractE,resultsE,resEs,resE,buildE,fillE,splice,AV.cells,okA,oneA,fzs,fz,opTmp,canonR,canon,canons,shift,shifts,pushAll,pushFrom,tys206,onceA,byteV,postU,postA,postV,tab_allocT,storeE,eq_self,put_at,push_at,ha0,pick_t,pick_f,Nat.mul_one,hl0,hl1,cond_t,cond_f,hlz,hfz,hsv,hnx]
  (first | refine call_plain (ht) (by first | rfl | simp only [plains,plain,parV,intV,boolV,Bool.and_true,Bool.and_self, *]) ?_ | refine call_pure (ht) (by first | rfl | simp only [plains,plain,parV,intV,boolV,Bool.and_true,Bool.and_self, *]) (by intro k;first | rfl | simp only [shift,shifts,intV,boolV, *]) ?_);simp only [↓pre,post,↓reduceIte,Nat.reduceEqDiff,Nat.reduceAdd,Nat.reduceMul,Nat.reduceSub,Nat.reduceLeDiff,Nat.reduceMod,Nat.reduceDiv,reduceCtorEq,Nat.reduceLT,Nat.reduceGT,Nat.reduceBEq,sb,Int.reduceEq,bin_quo,bin_rem,stepW,opE,intV,parV,boxE,loadE,partE,faddrE,fieldE,checkE,extractE,resultsE,resEs,resE,buildE,fillE,splice,AV.cells,okA,oneA,fzs,fz,opTmp,canonR,canon,canons,shift,shifts,pushAll,pushFrom,tys206,onceA,byteV,postU,postA,postV,tab_allocT,storeE,eq_self,put_at,push_at,ha0,pick_t,pick_f,Nat.mul_one,hl0,hl1,cond_t,cond_f,hlz,hfz,hsv,hnx]
  by_cases hL0:L=0
  ·subst hL0
   have hk:¬ -(((0:Nat):Nat):Int) < 0:=by omega
   have hpw:(tabC (pwF 255))[0]? = some (.val (.int .u8 ((1:Nat):Int))):=by
    rw [tabC_at _ (by decide)]
    have:pwF 255 0=1:=by kernel_rfl
    rw [this]
   have e1:gE ((255 - 0) % 255)=1:=by kernel_rfl
   rw [e1] at hiv
   rw [hiv]
   have z1 : -(((0:Nat):Nat):Int)=0:=by decide
   rw [z1] at hm hr2 hk
   simp only [↓pre,post,↓reduceIte,Nat.reduceEqDiff,Nat.reduceAdd,Nat.reduceMul,Nat.reduceSub,Nat.reduceLeDiff,Nat.reduceMod,Nat.reduceDiv,reduceCtorEq,Nat.reduceLT,Nat.reduceGT,Nat.reduceBEq,sb,Int.reduceEq,bin_quo,bin_rem,stepW,opE,intV,parV,boxE,loadE,partE,faddrE,fieldE,checkE,extractE,resultsE,resEs,resE,buildE,fillE,splice,AV.cells,okA,oneA,fzs,fz,opTmp,canonR,canon,canons,shift,shifts,pushAll,pushFrom,tys206,onceA,byteV,postU,postA,postV,tab_allocT,storeE,eq_self,put_at,push_at,ha0,pick_t,pick_f,Nat.mul_one,hl0,hl1,cond_t,cond_f,hlz,hfz,hsv,hnx,hal,hw,hc,hm,hr1,hr2,h255,hk,hpw,z1,Int.reduceLT]
  ·have hk : -((L:Nat):Int) < 0:=by omega
   have hadd:IntKind.i64.wrap (-((L:Nat):Int)+255)=((255 - L:Nat):Int):=by
    rw [show -((L:Nat):Int)+255=((255 - L:Nat):Int) by omega]
    exact wrap_nat (by omega)
   have hmod:(255 - L) % 255=255 - L:=Nat.mod_eq_of_lt (by omega)
   have hlt:255 - L < 256:=by omega
   have hpw:(tabC (pwF 255))[255 - L]? = some (.val (.int .u8 (gE (255 - L):Int))):=by
    rw [tabC_at _ hlt]
    unfold pwF
    rw [if_pos (by omega)]
   rw [hmod] at hiv
   rw [hiv]
   replace hmod:=Hid.mk hmod
   simp only [↓pre,post,↓reduceIte,Nat.reduceEqDiff,Nat.reduceAdd,Nat.reduceMul,Nat.reduceSub,Nat.reduceLeDiff,Nat.reduceMod,Nat.reduceDiv,reduceCtorEq,Nat.reduceLT,Nat.reduceGT,Nat.reduceBEq,sb,Int.reduceEq,bin_quo,bin_rem,stepW,opE,intV,parV,boxE,loadE,partE,faddrE,fieldE,checkE,extractE,resultsE,resEs,resE,buildE,fillE,splice,AV.cells,okA,oneA,fzs,fz,opTmp,canonR,canon,canons,shift,shifts,pushAll,pushFrom,tys206,onceA,byteV,postU,postA,postV,tab_allocT,storeE,eq_self,put_at,push_at,ha0,pick_t,pick_f,Nat.mul_one,hl0,hl1,cond_t,cond_f,hlz,hfz,hsv,hnx,hal,hw,hc,hm,hr1,hr2,h255,hk,hpw,hadd,hlt]
theorem gf_Inv (a:UInt8):FSpec Tryz.prog 198 [byteV a] ⟨.tup [byteV (if a=0 then 0 else invU a),intV (if a=0 then 10 else 0)],[]⟩:=by
 have h:=gf_Pow a
 generalize (if a=0 then 0 else invU a)=x at *
 generalize (if a=0 then (10:Int) else 0)=y at *
 refine fspec_of_body follows Tryz.func198 (by unfold Tryz.f198;rfl) (by unfold Tryz.f198;simp) onceA (by unfold Tryz.f198;simp) (by kernel_rfl) ?_;unfold Tryz.f198
 simp only [↓pre,post,↓reduceIte,Nat.reduceEqDiff,Nat.reduceAdd,Nat.reduceMul,Nat.reduceSub,Nat.reduceLeDiff,Nat.reduceMod,Nat.reduceDiv,reduceCtorEq,Nat.reduceLT,Nat.reduceGT,Nat.reduceBEq,sb,Int.reduceEq,bin_quo,bin_rem,stepW,opE,intV,parV,boxE,loadE,partE,faddrE,fieldE,checkE,extractE,resultsE,resEs,resE,buildE,fillE,splice,AV.cells,okA,oneA,fzs,fz,opTmp,canonR,canon,canons,shift,shifts,pushAll,pushFrom,tys198,onceA,byteV]
 (first | refine call_plain (h) (by first | rfl | simp only [plains,plain,parV,intV,boolV,Bool.and_true,Bool.and_self, *]) ?_ | refine call_pure (h) (by first | rfl | simp only [plains,plain,parV,intV,boolV,Bool.and_true,Bool.and_self, *]) (by intro k;first | rfl | simp only [shift,shifts,intV,boolV, *]) ?_);simp only [↓pre,post,↓reduceIte,Nat.reduceEqDiff,Nat.reduceAdd,Nat.reduceMul,Nat.reduceSub,Nat.reduceLeDiff,Nat.reduceMod,Nat.reduceDiv,reduceCtorEq,Nat.reduceLT,Nat.reduceGT,Nat.reduceBEq,sb,Int.reduceEq,bin_quo,bin_rem,stepW,opE,intV,parV,boxE,loadE,partE,faddrE,fieldE,checkE,extractE,resultsE,resEs,resE,buildE,fillE,splice,AV.cells,okA,oneA,fzs,fz,opTmp,canonR,canon,canons,shift,shifts,pushAll,pushFrom,tys198,onceA,byteV]
def tab (w:Nat) (f:Nat→UInt8):List UInt8:=(List.range w).map f
theorem tab_len (w:Nat) (f:Nat→UInt8):(tab w f).length=w:=by simp [tab]
theorem tab_at {w:Nat} (f:Nat→UInt8) {j:Nat} (h:j < w):(tab w f)[j]? = some (f j):=by
 unfold tab
 rw [List.getElem?_map,List.getElem?_range h]
 rfl
theorem tab_congr {w:Nat} {f g:Nat→UInt8} (h:∀ j,j < w→f j=g j):tab w f=tab w g:=by
 unfold tab
 apply List.map_congr_left
 intro j hj
 exact h j (List.mem_range.1 hj)
def tabA (w:Nat) (f:Nat→UInt8):List AV:=(tab w f).map byteV
theorem tabA_len (w:Nat) (f:Nat→UInt8):(tabA w f).length=w:=by simp [tabA,tab_len]
theorem tabA_at {w:Nat} (f:Nat→UInt8) {j:Nat} (h:j < w):(tabA w f)[j]? = some (byteV (f j)):=by
 unfold tabA
 rw [List.getElem?_map,tab_at f h]
 rfl
theorem tabA_congr {w:Nat} {f g:Nat→UInt8} (h:∀ j,j < w→f j=g j):tabA w f=tabA w g:=by unfold tabA;rw [tab_congr h]
theorem tabA_put {w:Nat} {f g:Nat→UInt8} {i:Nat} (hi:i < w) (hg:∀ j,j < w→g j=if j=i then g i else f j):splice (tabA w f) i [byteV (g i)]=tabA w g:=by
 have hl:=tabA_len w f
 unfold splice
 apply List.ext_getElem?
 intro j
 by_cases hj:j < w
 ·rw [tabA_at g hj,List.append_assoc]
  have htl:((tabA w f).take i).length=i:=by rw [List.length_take,hl];omega
  by_cases h1:j < i
  ·rw [List.getElem?_append_left (by omega),List.getElem?_take_of_lt h1,tabA_at f hj,hg j hj,if_neg (by omega)]
  ·rw [List.getElem?_append_right (by omega),htl]
   by_cases h2:j=i
   ·subst h2;rw [Nat.sub_self];rfl
   ·rw [List.getElem?_append_right (by simp;omega),List.getElem?_drop]
    simp only [List.length_cons,List.length_nil]
    rw [show i+(0+1)+(j - i - (0+1))=j by omega,tabA_at f hj,hg j hj,if_neg h2]
 ·rw [List.getElem?_eq_none (by simp [hl];omega),List.getElem?_eq_none (by rw [tabA_len];omega)]
structure MatV (v:AV) (n w:Nat) (M:Mx) (cells:List AV):Prop where
 rd:RdSl v n cells
 at_:∀ i,i < n→∃ a x,cells[i]? = some a∧RdSl a w (tabA w (M i)++x)
structure RowsV (v:AV) (L:List (List UInt8)) (cells:List AV):Prop where
 rd:RdSl v L.length cells
 at_:∀ (i:Nat) (b:List UInt8),L[i]? = some b→∃ a x,cells[i]? = some a∧RdSl a b.length (b.map byteV++x)
theorem MatV.rows {v:AV} {n w:Nat} {M:Mx} {cells:List AV} (h:MatV v n w M cells):RowsV v ((List.range n).map fun i=>tab w (M i)) cells:=by
 refine ⟨by simpa using h.rd,fun i b hb => ?_⟩
 have hi:i < n:=by have:=(List.getElem?_eq_some_iff.1 hb).1;simpa using this
 rw [List.getElem?_map,List.getElem?_range hi] at hb
 cases hb
 obtain ⟨a,x,h1,h2⟩:=h.at_ i hi
 exact ⟨a,x,h1,by rw [tab_len];exact h2⟩
theorem matrix_Check (v:AV) (n w:Nat) (M:Mx) (cells:List AV) (hv:MatV v n w M cells) (hn:1≤n) (hn2:n≤32) (hw:1≤w) (hw2:w≤32):FSpec Tryz.prog 187 [v] ⟨intV 0,[]⟩:=by
 have hp:=hv.rd.plain
 have k1:¬ ((n:Nat):Int) < 1:=by omega
 have k2:¬ (32:Int) < ((n:Nat):Int):=by omega
 have k3:¬ ((w:Nat):Int) < 1:=by omega
 have k4:¬ (32:Int) < ((w:Nat):Int):=by omega
 have hn0:0 < n:=by omega
 obtain ⟨a0,x0,hc0,hr0⟩:=hv.at_ 0 (by omega)
 refine fspec_of_body follows Tryz.func187 (by unfold Tryz.f187;rfl) (by unfold Tryz.f187;simp) onceA (by unfold Tryz.f187;simp) (by kernel_rfl) ?_;unfold Tryz.f187
 simp only [↓pre,simprocAttr,parV,sx,tys187,onceA,postU,postA,hv.rd.len',k1,k2,sr]
 rw [codeW_loop]
 refine loop_intro (fun q e m=>∃ i,q+i=n∧e 0=v∧e 13=v∧e 14=intV (n:Nat)∧e 15=intV (i:Nat)) n ⟨0,by omega,rfl,rfl,rfl,rfl⟩ ?_
 rintro q e m ⟨i,hq,e0,e13,e14,e15⟩
 replace hq:=Hid.mk hq
 by_cases hlt:i < n
 ·have hlt':((i:Nat):Int) < ((n:Nat):Int):=by omega
  have w1:=wrap_succ (n:=i) (by omega)
  obtain ⟨a,x,hc,hr⟩:=hv.at_ i hlt
  simp only [↓pre,simprocAttr,parV,sx,tys187,onceA,postU,postA,e0,e13,e14,e15,hv.rd.len',hv.rd.addr',hlt,hlt',hc,hr.len',hn0,hc0,hr0.len',k3,k4,w1,sr]
  exact ⟨q - 1,by have:=hq.out;omega,i+1,by have:=hq.out;omega,rfl⟩
 ·have hlt':¬ ((i:Nat):Int) < ((n:Nat):Int):=by omega
  simp only [↓pre,simprocAttr,parV,sx,tys187,onceA,postU,postA,e0,e13,e14,e15,hlt',sr]
theorem u8_nat {n:Nat} (h:n < 256):IntKind.u8.wrap ((n:Nat):Int)=((UInt8.ofNat n).toNat:Int):=by
 rw [ofN h]
 simp [IntKind.wrap,IntKind.bits,IntKind.signed]
 omega
theorem One_1 (i j:Nat):FSpec Tryz.prog 196 [intV (i:Nat),intV (j:Nat)] ⟨byteV (idM i j),[]⟩:=by
 unfold idM
 by_cases h:i=j
 ·have h':((i:Nat):Int)=((j:Nat):Int):=by omega
  rw [if_pos h]
  refine fspec_of_body follows Tryz.func196 (by unfold Tryz.f196;rfl) (by unfold Tryz.f196;simp) onceA (by unfold Tryz.f196;simp) (by kernel_rfl) ?_;unfold Tryz.f196
  simp only [↓pre,simprocAttr,parV,sx,tys196,onceA,h']
  rfl
 ·have h':¬ ((i:Nat):Int)=((j:Nat):Int):=by omega
  rw [if_neg h]
  refine fspec_of_body follows Tryz.func196 (by unfold Tryz.f196;rfl) (by unfold Tryz.f196;simp) onceA (by unfold Tryz.f196;simp) (by kernel_rfl) ?_;unfold Tryz.f196
  simp only [↓pre,simprocAttr,parV,sx,tys196,onceA,h']
  rfl
def cauM (k:Nat):Mx:=fun i j=>codeR k (k+i) j
theorem Cauchy_1 (k i j:Nat) (hk:k+i < 256) (hj:j < k):FSpec Tryz.prog 197 [intV (i:Nat),intV (j:Nat),.tptr 0 [intV (k:Nat)]] ⟨byteV (cauM k i j),[]⟩:=by
 have hA:=gf_Add (UInt8.ofNat (k+i)) (UInt8.ofNat j)
 have hI:=gf_Inv (UInt8.ofNat (k+i) ^^^ UInt8.ofNat j)
 have hne:UInt8.ofNat (k+i) ^^^ UInt8.ofNat j≠0:=xor_ne fun e=>by
  have:=congrArg UInt8.toNat e
  rw [ofN hk,ofN (by omega)] at this
  omega
 rw [if_neg hne,if_neg hne] at hI
 have hM:cauM k i j=invU (UInt8.ofNat (k+i) ^^^ UInt8.ofNat j):=by unfold cauM codeR;rw [if_neg (by omega)]
 rw [hM]
 have w1:=u8_nat hk
 have w2:=u8_nat (n:=j) (by omega)
 have wa:IntKind.i64.wrap (((k:Nat):Int)+((i:Nat):Int))=((k+i:Nat):Int):=by rw [←Int.natCast_add];exact wrap_nat (by omega)
 replace hne:=Hid.mk hne
 replace hM:=Hid.mk hM
 generalize UInt8.ofNat (k+i)=x at *
 generalize UInt8.ofNat j=y at *
 simp only [byteV] at hA hI
 refine fspec_of_body follows Tryz.func197 (by unfold Tryz.f197;rfl) (by unfold Tryz.f197;simp) onceA (by unfold Tryz.f197;simp) (by kernel_rfl) ?_;unfold Tryz.f197
 simp only [↓pre,simprocAttr,parV,sx,tys197,onceA,postV,wa,w1,w2,byteV]
 (first | refine call_plain (hA) (by first | rfl | simp only [parV,plQ, *]) ?_ | refine call_pure (hA) (by first | rfl | simp only [parV,plQ, *]) (by intro k;first | rfl | simp only [sq,sr, *]) ?_);simp only [↓pre,simprocAttr,parV,sx,tys197,onceA,postV,byteV];(first | refine call_plain (hI) (by first | rfl | simp only [parV,plQ, *]) ?_ | refine call_pure (hI) (by first | rfl | simp only [parV,plQ, *]) (by intro k;first | rfl | simp only [sq,sr, *]) ?_);simp only [↓pre,simprocAttr,parV,sx,tys197,onceA,postV,byteV]
structure MatT (m:Mem) (b n w t:Nat) (fl:Bool) (β:Nat→Nat) (M:Mx):Prop where
 row:∃ cells,m.at_ b=some ⟨cells,54,.var,true⟩∧cells.length=n∧∀ i,i < t→cells[i]? = some (.sl (β i) 0 w w fl)
 lt:b < m.next
 own:∀ i,i < t→β i < m.next∧m.at_ (β i)=some ⟨tabA w (M i),5,.flat,true⟩
 inj:∀ i j,i < t→j < t→β i=β j→i=j
theorem MatT.ne {m:Mem} {b n w t:Nat} {fl:Bool} {β:Nat→Nat} {M:Mx} (h:MatT m b n w t fl β M) {i:Nat} (hi:i < t):β i≠b:=by
 intro e
 obtain ⟨cells,hb,_⟩:=h.row
 have:=(h.own i hi).2
 rw [e,hb] at this
 simp at this
theorem MatT.congr {m:Mem} {b n w t:Nat} {fl:Bool} {β:Nat→Nat} {M M':Mx} (h:MatT m b n w t fl β M) (hM:∀ i,i < t→∀ j,j < w→M i j=M' i j):MatT m b n w t fl β M' :=
 ⟨h.row,h.lt,fun i hi=>by rw [←tabA_congr (hM i hi)];exact h.own i hi,h.inj⟩
theorem MatT.keep {m m':Mem} {b n w t:Nat} {fl:Bool} {β:Nat→Nat} {M:Mx} (h:MatT m b n w t fl β M) (hn:m.next≤m'.next) (hk:∀ j k,m.at_ j=some k→j < m.next→(j=b∨∃ i,i < t∧j=β i)→m'.at_ j=some k):MatT m' b n w t fl β M:=by
 obtain ⟨cells,hb,hl,hat⟩:=h.row
 refine ⟨⟨cells,hk b _ hb h.lt (.inl rfl),hl,hat⟩,Nat.lt_of_lt_of_le h.lt hn,fun i hi => ?_,h.inj⟩
 obtain ⟨h1,h2⟩:=h.own i hi
 exact ⟨Nat.lt_of_lt_of_le h1 hn,hk _ _ h2 h1 (.inr ⟨i,hi,rfl⟩)⟩
theorem MatT.put_row {m:Mem} {b n w t:Nat} {fl:Bool} {β:Nat→Nat} {M:Mx} (h:MatT m b n w t fl β M) {i:Nat} (hi:i < t) (g:Nat→UInt8):MatT (m.put (β i) (some ⟨tabA w g,5,.flat,true⟩)) b n w t fl β (fun i'=>if i'=i then g else M i'):=by
 obtain ⟨cells,hb,hl,hat⟩:=h.row
 have hne:=h.ne hi
 refine ⟨⟨cells,by rw [put_at,if_neg (fun e=>hne e.symm)];exact hb,hl,hat⟩,h.lt,fun j hj=>⟨(h.own j hj).1, ?_⟩,h.inj⟩
 rw [put_at]
 by_cases e:j=i
 ·subst e;rw [if_pos rfl];simp only [if_true]
 ·rw [if_neg (fun e2=>e (h.inj j i hj hi e2))]
  simp only [if_neg e]
  exact (h.own j hj).2
theorem MatT.add_row {m : Mem} {b n w t : Nat} {fl : Bool} {β : Nat → Nat} {M : Mx} (h : MatT m b n w t fl β M) (ht : t < n) {cells : List AV} (hb : m.at_ b = some ⟨cells, 54, .var, true⟩) (g : Nat → UInt8) :
   MatT ((m.push ⟨tabA w g, 5, .flat, true⟩).put b (some ⟨splice cells t [.sl m.next 0 w w fl], 54, .var, true⟩)) b n w (t + 1) fl (fun i => if i = t then m.next else β i) (fun i => if i = t then g else M i) := by
 obtain ⟨cells', hb', hl, hat⟩ := h.row
 rw [hb] at hb'
 obtain rfl : cells = cells' := by simpa using hb'
 have hlt := h.lt
 have hsl : (splice cells t [.sl m.next 0 w w fl]).length = n := by
   unfold splice
   simp only [List.length_append, List.length_take, List.length_drop, List.length_cons, List.length_nil]
   omega
 refine ⟨⟨_, by rw [put_at, if_pos rfl], hsl, fun i hi => ?_⟩, by rw [put_next, push_next]; omega, fun i hi => ?_, fun i j hi hj e => ?_⟩
 · unfold splice
   have htl : (cells.take t).length = t := by rw [List.length_take]; omega
   by_cases e : i = t
   · subst e
     rw [List.append_assoc, List.getElem?_append_right (by omega), htl, Nat.sub_self]
     simp
   · rw [List.append_assoc, List.getElem?_append_left (by omega), List.getElem?_take_of_lt (by omega), hat i (by omega)]
     simp [e]
 · by_cases e : i = t
   · simp only [if_pos e]
     exact ⟨by rw [put_next, push_next]; omega, by rw [put_at, if_neg (by omega), push_at, if_pos rfl]⟩
   · simp only [if_neg e]
     obtain ⟨h1, h2⟩ := h.own i (by omega)
     refine ⟨by rw [put_next, push_next]; omega, ?_⟩
     rw [put_at, if_neg (h.ne (by omega)), push_at, if_neg (by omega)]
     exact h2
 · by_cases e1 : i = t <;> by_cases e2 : j = t
   · omega
   · simp only [if_pos e1, if_neg e2] at e
     have := (h.own j (by omega)).1
     omega
   · simp only [if_neg e1, if_pos e2] at e
     have := (h.own i (by omega)).1
     omega
   · simp only [if_neg e1, if_neg e2] at e
     exact h.inj i j (by omega) (by omega) e
def matA (fl:Bool) (n w:Nat) (M:Mx):List AV:=(List.range n).map fun i => .tree w w (tabA w (M i)) fl
theorem matA_len (fl:Bool) (n w:Nat) (M:Mx):(matA fl n w M).length=n:=by simp [matA]
theorem matA_at (fl:Bool) {n w i:Nat} (M:Mx) (h:i < n):(matA fl n w M)[i]? = some (.tree w w (tabA w (M i)) fl):=by
 unfold matA
 rw [List.getElem?_map,List.getElem?_range h]
 rfl
theorem matA_V (f fl:Bool) (n w:Nat) (M:Mx):MatV (.tree n n (matA fl n w M) f) n w M (matA fl n w M) :=
 ⟨⟨.inr (.inr ⟨n,f,rfl,Nat.le_refl _⟩)⟩,fun i hi=>⟨_,[],matA_at fl M hi,⟨.inr (.inr ⟨w,fl,by rw [List.append_nil],Nat.le_refl _⟩)⟩⟩⟩
theorem fzTs_of {k:Nat} {m:Mem}:∀ (cs cs':List AV),cs.length=cs'.length→(∀ (i:Nat) (c c':AV),cs[i]? = some c→cs'[i]? = some c'→fzT k m c=some c')→fzTs k m cs=some cs'
 | [],[],_,_=>fzTs_nil
 | c::cs,c'::cs',hl,h=>by
  rw [fzTs_cons,h 0 c c' rfl rfl,Option.bind_some,fzTs_of cs cs' (by simpa using hl) fun i x x' h1 h2=>h (i+1) x x' (by simpa using h1) (by simpa using h2)]
  rfl
 | [],_::_,hl,_=>by simp at hl
 | _::_,[],hl,_=>by simp at hl
theorem MatT.fzT {m:Mem} {b n w:Nat} {fl:Bool} {β:Nat→Nat} {M:Mx} (h:MatT m b n w n fl β M) (f:Bool):Go.Tw.fzT 1 m (.sl b 0 n n f)=some (.tree n n (matA fl n w M) f):=by
 obtain ⟨cells,hb,hl,hat⟩:=h.row
 refine fzT_var hb (fzTs_of _ _ (by rw [List.drop_zero,hl,matA_len]) fun i c c' h1 h2 => ?_)
 rw [List.drop_zero] at h1
 have hi:i < n:=by have:=(List.getElem?_eq_some_iff.1 h1).1;omega
 rw [hat i hi] at h1
 rw [matA_at fl M hi] at h2
 cases h1;cases h2
 rw [fzT_flat (h.own i hi).2,List.drop_zero]
theorem zeros_one {el:TypeId} {x:Value} (h2:szE Tryz.prog el=some 1) (h5:zeroE Tryz.prog el=some [x]) (n:Nat):zerosE Tryz.prog el n=some ((List.range n).map fun _ => .val x):=by
 unfold zerosE
 rw [h2,Option.bind_some]
 by_cases h:n=0
 ·subst h;rfl
 ·rw [if_neg (by omega),h5,Option.bind_some,if_pos (show [x].length=1 from rfl),Nat.mul_one]
  congr 1
  apply List.map_congr_left
  intro i _
  rw [Nat.mod_one]
  rfl
theorem make_rows (m:Mem) {n:Nat} (hn:n≤32):makeE Tryz.prog m 24 n n=some ⟨.sl m.next 0 n n true,m.push ⟨(List.range n).map fun _=>nilS,54,.var,true⟩,none⟩:=by
 have h1:elE Tryz.prog 24=some 54:=by kernel_rfl
 have h2:szE Tryz.prog 54=some 1:=by kernel_rfl
 have h3:byE Tryz.prog 54=some 24:=by kernel_rfl
 have h4:kindT Tryz.prog 54 = .var:=by kernel_rfl
 have hz:=zeros_one h2 (x := .slice none 0 0) (by kernel_rfl) n
 simp only [makeE,h1,h2,h3,h4,hz,outV,Option.bind_some,Nat.mul_one]
 rw [if_pos (by omega),List.take_of_length_le (by simp)]
 rfl
theorem make_bytes (m:Mem) {n:Nat} (hn:n≤65536):makeE Tryz.prog m 54 n n=some ⟨.sl m.next 0 n n true,m.push ⟨tabA n fun _=>0,5,.flat,true⟩,none⟩:=by
 have h1:elE Tryz.prog 54=some 5:=by kernel_rfl
 have h2:szE Tryz.prog 5=some 1:=by kernel_rfl
 have h3:byE Tryz.prog 5=some 1:=by kernel_rfl
 have h4:kindT Tryz.prog 5 = .flat:=by kernel_rfl
 have hz:=zeros_one h2 (x := .int .u8 0) (by kernel_rfl) n
 have e:((List.range n).map fun _=>AV.val (.int .u8 0))=tabA n fun _=>0:=by
  unfold tabA tab
  rw [List.map_map]
  rfl
 rw [e] at hz
 simp only [makeE,h1,h2,h3,h4,hz,outV,Option.bind_some,Nat.mul_one]
 rw [if_pos (by omega),List.take_of_length_le (by rw [tabA_len];omega)]
theorem len_sl {P:Program} {t:TypeId} {b off n c:Nat} {f:Bool} (h:(elE P t).isSome=true):lenE P t (.sl b off n c f)=some (.val (.int .i64 (n:Nat))):=by
 obtain ⟨el,hel⟩:=Option.isSome_iff_exists.1 h
 simp [lenE,hel,slLen,intV]
theorem len_rows {b off n c:Nat} {f:Bool}:lenE Tryz.prog 24 (.sl b off n c f)=some (.val (.int .i64 (n:Nat))):=len_sl (by kernel_rfl)
theorem len_bytes {b off n c:Nat} {f:Bool}:lenE Tryz.prog 54 (.sl b off n c f)=some (.val (.int .i64 (n:Nat))):=len_sl (by kernel_rfl)
theorem addr_rows {b off n c k:Nat} {f:Bool}:addrE Tryz.prog 24 k (.sl b off n c f)=if k < n then some (.ptr b (off+k*1)) else none:=by
 rw [addr_slp (by kernel_rfl)]
 have h1:elE Tryz.prog 24=some 54:=by kernel_rfl
 have h2:szE Tryz.prog 54=some 1:=by kernel_rfl
 rw [h1,Option.bind_some,h2,Option.bind_some]
theorem addr_bytes {b off n c k:Nat} {f:Bool}:addrE Tryz.prog 54 k (.sl b off n c f)=if k < n then some (.ptr b (off+k*1)) else none:=by
 rw [addr_slp (by kernel_rfl)]
 have h1:elE Tryz.prog 54=some 5:=by kernel_rfl
 have h2:szE Tryz.prog 5=some 1:=by kernel_rfl
 rw [h1,Option.bind_some,h2,Option.bind_some]
theorem postM:(type_of% @len_rows)∧(type_of% @len_bytes)∧(type_of% @addr_rows)∧(type_of% @addr_bytes):=⟨@len_rows,@len_bytes,@addr_rows,@addr_bytes⟩
theorem splice_at {cs:List AV} {i:Nat} {x:AV} (h:i < cs.length):(cs.take i++[x]++cs.drop (i+1))[i]? = some x:=by
 have htl:(cs.take i).length=i:=by rw [List.length_take];omega
 rw [List.append_assoc,List.getElem?_append_right (by omega),htl,Nat.sub_self]
 rfl
def onceMd:Nat→Bool:=fun d=>d != 33
theorem matrix_made (m0 : Mem) (n w : Nat) (g : FuncId) (caps : List AV) (f : Mx) (hn : n ≤ 32) (hw : w ≤ 32) (hc : plains caps = true) (hg : ∀ i j, i < n → j < w → FSpec Tryz.prog g (intV (i : Nat) :: intV (j : Nat) :: caps) ⟨byteV (f i j), []⟩) :
   OSpec Tryz.prog 195 [intV (n : Nat), intV (w : Nat), .clo g caps] m0 fun r m' => ∃ β, r = .sl m0.next 0 n n true ∧ MatT m' m0.next n w n true β f ∧ (∀ i, i < n → m0.next < β i) ∧ (∀ j k, m0.at_ j = some k → j < m0.next → m'.at_ j = some k) ∧ m'.mm = m0.mm := by
 have hmk := make_rows m0 hn
 have hmb := fun m => make_bytes m (n := w) (by omega)
 replace hg := Hid.mk hg
 replace hn := Hid.mk hn
 replace hw := Hid.mk hw
 refine ospec_of_body follows Tryz.func195 (by unfold Tryz.f195; rfl) (by unfold Tryz.f195; simp) onceMd (by unfold Tryz.f195; simp) (by kernel_rfl) ?_; unfold Tryz.f195
 simp only [↓pre, simprocAttr, parV, sx, tys195, onceMd, bne, postU, postA, storeE, put_at, push_at, len_sl, addr_slp, hmk, sr]
 generalize hb : m0.next = b at *
 rw [codeW_loop]
 refine loop_intro (fun q e m => ∃ i β, q + i = n ∧ e 1 = intV (w : Nat) ∧ e 2 = .clo g caps ∧ e 7 = .sl b 0 n n true ∧ e 13 = intV (n : Nat) ∧ e 14 = intV (i : Nat) ∧ Hid (MatT m b n w i true β f ∧ (∀ i', i' < i → b < β i') ∧ (∀ j k, m0.at_ j = some k → j < b → m.at_ j = some k) ∧ m.mm = m0.mm)) n ⟨0, fun _ => 0, by omega, rfl, rfl, rfl, rfl, rfl, ⟨⟨⟨_, by rw [push_at, if_pos hb.symm], by simp, fun i h => by omega⟩, by rw [push_next]; omega, fun i h => by omega, fun i j h => by omega⟩, fun i h => by omega, fun j k h1 h2 => by rw [push_at, if_neg (by omega)]; exact h1, rfl⟩⟩ ?_
 rintro q e m ⟨i, β, hq, e1, e2, e7, e13, e14, hJ⟩
 replace hq := Hid.mk hq
 obtain ⟨hM, hβ, hkp, hmm⟩ := hJ.out
 obtain ⟨cells, hrow, hcl, hat⟩ := hM.row
 have hbl := hM.lt
 by_cases hlt : i < n
 · have hlt' : ((i : Nat) : Int) < ((n : Nat) : Int) := by omega
   have w1 := wrap_succ (n := i) (by have := hn.out; omega)
   have hbn : ¬ b = m.next := by omega
   have hi1 : i + 1 ≤ cells.length := by omega
   have hspl := splice_at (cs := cells) (i := i) (x := .sl m.next 0 w w true) (by omega)
   have hA := hM.add_row hlt hrow (fun _ => 0)
   unfold splice at hA
   simp only [List.length_cons, List.length_nil, Nat.zero_add] at hA
   have hkp' : ∀ j k, m0.at_ j = some k → j < b → ((m.push ⟨tabA w fun _ => 0, 5, .flat, true⟩).put b (some ⟨cells.take i ++ [.sl m.next 0 w w true] ++ cells.drop (i + 1), 54, .var, true⟩)).at_ j = some k := fun j k h1 h2 => by
     rw [put_at, if_neg (by omega), push_at, if_neg (by omega)]
     exact hkp j k h1 h2
   replace hA := Hid.mk hA
   replace hkp' := Hid.mk hkp'
   replace hkp := Hid.mk hkp
   replace hβ := Hid.mk hβ
   replace hM := Hid.mk hM
   replace hat := Hid.mk hat
   simp only [↓pre, simprocAttr, parV, sx, tys195, onceMd, bne, postU, postA, storeE, put_at, push_at, len_sl, addr_slp, hmb, e1, e2, e7, e13, e14, hlt', hrow, hlt, hbn, hi1, hspl, sr]
   rw [codeW_loop]
   generalize hβ' : (fun i' => if i' = i then m.next else β i') = β' at *
   have hβi : β' i = m.next := by rw [← hβ']; simp
   have hmn : b < m.next := hbl
   have hβ2 : ∀ i', i' < i + 1 → b < β' i' := fun i' h => by
     rw [← hβ']
     by_cases e : i' = i
     · simp only [if_pos e]; exact hmn
     · simp only [if_neg e]; exact hβ.out i' (by omega)
   refine loop_intro (fun q e m => ∃ j, q + j = w ∧ e 1 = intV (w : Nat) ∧ e 2 = .clo g caps ∧ e 7 = .sl b 0 n n true ∧ e 8 = intV (i : Nat) ∧ e 13 = intV (n : Nat) ∧ e 14 = intV (i : Nat) ∧ e 26 = intV (w : Nat) ∧ e 27 = intV (j : Nat) ∧ Hid (MatT m b n w (i + 1) true β' (fun i' j' => if i' < i then f i' j' else if j' < j then f i j' else 0) ∧ (∀ j k, m0.at_ j = some k → j < b → m.at_ j = some k) ∧ m.mm = m0.mm)) w ⟨0, by omega, e1, e2, e7, rfl, e13, e14, rfl, rfl, ⟨hA.out.congr fun i' hi' j' hj' => ?_, hkp'.out, hmm⟩⟩ ?_
   · by_cases e : i' = i
     · rw [if_pos e, if_neg (by omega), if_neg (by omega)]
     · rw [if_neg e, if_pos (by omega)]
   replace hA := Hid.mk hA
   rintro q2 e m2 ⟨j, hq2, e1, e2, e7, e8, e13, e14, e26, e27, hJ2⟩
   replace hq2 := Hid.mk hq2
   obtain ⟨hM2, hkp2, hmm2⟩ := hJ2.out
   obtain ⟨cells2, hrow2, hcl2, hat2⟩ := hM2.row
   have hci := hat2 i (by omega)
   obtain ⟨hbi, hblk⟩ := hM2.own i (by omega)
   have hlrow := tabA_len w (fun j' => if i < i then f i j' else if j' < j then f i j' else 0)
   by_cases hlt2 : j < w
   · have hlt2' : ((j : Nat) : Int) < ((w : Nat) : Int) := by omega
     have w2 := wrap_succ (n := j) (by have := hw.out; omega)
     have hcall := hg.out i j hlt hlt2
     have hj1 : j ≤ w - 1 := by omega
     have hP := hM2.put_row (i := i) (by omega) (fun j' => if j' < j + 1 then f i j' else 0)
     have hput := tabA_put (w := w) (f := fun j' => if i < i then f i j' else if j' < j then f i j' else 0) (g := fun j' => if j' < j + 1 then f i j' else 0) hlt2 fun j' hj' => by
       simp only [Nat.lt_irrefl, if_false]
       by_cases e : j' = j
       · subst e; rw [if_pos rfl]
       · rw [if_neg e]
         by_cases e2 : j' < j
         · rw [if_pos e2, if_pos (by omega)]
         · rw [if_neg e2, if_neg (by omega)]
     simp only [show j < j + 1 by omega, if_true] at hput
     unfold splice at hput
     simp only [List.length_cons, List.length_nil, Nat.zero_add, Nat.lt_irrefl, if_false] at hput hblk hlrow
     have hjl : j + 1 ≤ (tabA w fun j' => if j' < j then f i j' else 0).length := by omega
     simp only [byteV] at hput hcall
     have hpc : plains (intV (i : Nat) :: intV (j : Nat) :: caps) = true := by simp only [plains, plain, intV, hc, Bool.and_self]
     have hne2 := hM2.ne (i := i) (by omega)
     replace hP := Hid.mk hP
     replace hkp2 := Hid.mk hkp2
     replace hM2 := Hid.mk hM2
     replace hat2 := Hid.mk hat2
     simp only [intV] at hpc hcall
     simp only [↓pre, simprocAttr, parV, sx, tys195, onceMd, bne, postU, postA, storeE, put_at, push_at, len_sl, addr_slp, e1, e2, e7, e8, e13, e14, e26, e27, hlt2', hrow2, hlt, hci, sr]
     refine call_pure hcall hpc (fun _ => rfl) ?_
     simp only [↓pre, simprocAttr, parV, sx, tys195, onceMd, bne, postU, postA, storeE, put_at, push_at, len_sl, addr_slp, e1, e2, e7, e8, e13, e14, e26, e27, hlt2, hblk, hjl, byteV, hput, sr]
     refine contW_fixed (by kernel_rfl) ?_
     simp only [↓pre, simprocAttr, parV, sx, tys195, onceMd, bne, postU, postA, storeE, put_at, push_at, len_sl, addr_slp, e1, e2, e7, e8, e13, e14, e26, e27, w2, sr]
     refine ⟨q2 - 1, by have := hq2.out; omega, j + 1, by have := hq2.out; omega, rfl, ⟨hP.out.congr fun i' hi' j' hj' => ?_, fun x k h1 h2 => ?_, hmm2⟩⟩
     · by_cases e : i' = i
       · subst e
         simp only [if_true, Nat.lt_irrefl, if_false]
       · simp only [if_neg e, if_pos (show i' < i by omega)]
     · rw [if_neg (by have := hβ2 i (by omega); omega)]
       exact hkp2.out x k h1 h2
   · have hlt2' : ¬ ((j : Nat) : Int) < ((w : Nat) : Int) := by omega
     simp only [↓pre, simprocAttr, parV, sx, tys195, onceMd, bne, postU, postA, storeE, put_at, push_at, len_sl, addr_slp, e1, e2, e7, e8, e13, e14, e26, e27, hlt2', w1, sr]
     refine ⟨q - 1, by have := hq.out; omega, i + 1, β', by have := hq.out; omega, rfl, ⟨hM2.congr fun i' hi' j' hj' => ?_, hβ2, hkp2, hmm2⟩⟩
     by_cases e : i' < i
     · rw [if_pos e]
     · rw [if_neg e, if_pos (by omega), show i' = i by omega]
 · have hlt' : ¬ ((i : Nat) : Int) < ((n : Nat) : Int) := by omega
   have hin : i = n := by have := hq.out; omega
   subst hin
   simp only [↓pre, simprocAttr, parV, sx, tys195, onceMd, bne, postU, postA, storeE, put_at, push_at, len_sl, addr_slp, e1, e2, e7, e13, e14, hlt', sr]
   exact ⟨β, hM, hβ, hkp, hmm⟩
theorem matrix_One_o (m0:Mem) (n:Nat) (hn:1≤n) (hn2:n≤32):OSpec Tryz.prog 185 [intV (n:Nat)] m0 fun r m'=>∃ β,r = .tup [.sl m0.next 0 n n true,intV 0]∧MatT m' m0.next n n n true β idM∧(∀ i,i < n→m0.next < β i)∧(∀ j k,m0.at_ j=some k→j < m0.next→m'.at_ j=some k)∧m'.mm=m0.mm:=by
 have hm:=matrix_made m0 n n 196 [] idM hn2 hn2 rfl fun i j _ _=>One_1 i j
 have k1:¬ ((n:Nat):Int) < 1:=by omega
 have k2:¬ (32:Int) < ((n:Nat):Int):=by omega
 refine ospec_of_body follows Tryz.func185 (by unfold Tryz.f185;rfl) (by unfold Tryz.f185;simp) onceA (by unfold Tryz.f185;simp) (by kernel_rfl) ?_;unfold Tryz.f185
 simp only [↓pre,simprocAttr,parV,sx,tys185,onceA,postU,postA,List.size_toArray,k1,k2,sr]
 refine call_open hm ?_
 rintro r m' ⟨β,rfl,h1,h2,h3,h4⟩
 simp only [↓pre,simprocAttr,parV,sx,tys185,onceA,postU,postA,List.size_toArray,sr]
 exact ⟨β,h1,h2,h3,h4⟩
theorem matrix_One (n:Nat) (hn:1≤n) (hn2:n≤32):FSpec Tryz.prog 185 [intV (n:Nat)] ⟨.tup [.tree n n (matA true n n idM) true,intV 0],[]⟩:=by
 refine fspec_fzT (ospec_mono (matrix_One_o Mem.empty n hn hn2) ?_)
 rintro r m' ⟨β,rfl,h1,_⟩
 exact ⟨1,by rw [fzT_tup,fzTs_cons,h1.fzT,Option.bind_some,fzTs_cons];unfold intV;rw [fzT_val,fzTs_nil];rfl⟩
theorem matrix_Cauchy (k r:Nat) (hk:1≤k) (hk2:k≤12) (hr:1≤r) (hr2:r≤4):FSpec Tryz.prog 186 [intV (k:Nat),intV (r:Nat)] ⟨.tup [.tree r r (matA true r k (cauM k)) true,intV 0],[]⟩:=by
 refine fspec_fzT ?_
 have hm:=matrix_made Mem.empty r k 197 [.tptr 0 [intV (k:Nat)]] (cauM k) (by omega) (by omega) rfl fun i j hi hj=>Cauchy_1 k i j (by omega) hj
 have k1:¬ ((k:Nat):Int) < 1:=by omega
 have k2:¬ (12:Int) < ((k:Nat):Int):=by omega
 have k3:¬ ((r:Nat):Int) < 1:=by omega
 have k4:¬ (4:Int) < ((r:Nat):Int):=by omega
 refine ospec_of_body follows Tryz.func186 (by unfold Tryz.f186;rfl) (by unfold Tryz.f186;simp) onceA (by unfold Tryz.f186;simp) (by kernel_rfl) ?_;unfold Tryz.f186
 simp only [↓pre,simprocAttr,parV,sx,tys186,onceA,postU,postA,List.size_toArray,k1,k2,k3,k4,sr]
 refine call_open hm ?_
 rintro r' m' ⟨β,rfl,h1,_⟩
 simp only [↓pre,simprocAttr,parV,sx,tys186,onceA,postU,postA,List.size_toArray,sr]
 exact ⟨1,by rw [fzT_tup,fzTs_cons,h1.fzT,Option.bind_some,fzTs_cons,fzT_val,fzTs_nil];rfl⟩
theorem clone_rows (m0:Mem) (v:AV) (n:Nat) (cells:List AV) (hv:RdSl v n cells) (hl:n≤cells.length) (h1:1≤n) (h2:n≤65536):OSpec Tryz.prog 202 [v] m0 fun r m'=>r = .sl m0.next 0 n n false∧m'=m0.push ⟨cells.take n,54,.var,true⟩:=by
 have hsrc:=fun m=>RdSl.src (P:=Tryz.prog) (el:=54) (sz:=1) (m:=m) hv (by omega)
 have happ:=fun m=>app_none (P:=Tryz.prog) (kd := .var) (y:=24) (zl:=[.slice none 0 0]) (by kernel_rfl) (by kernel_rfl) (by kernel_rfl) (by kernel_rfl) rfl (hsrc m) (by omega) (by omega) (by omega)
 simp only [Nat.mul_one] at happ
 have hbt:∀ m,buildTreeE Tryz.prog m 24 0 []=some ⟨.tree 0 0 [] true,m,none⟩:=fun m=>buildT_of (el:=54) (sz:=1) (z:=[]) (by kernel_rfl) (by kernel_rfl) (by kernel_rfl) rfl rfl (by decide)
 obtain ⟨c,f,rfl,_⟩:∃ c f,v = .tree n c cells f∧n≤c:=by
  rcases hv.form with ⟨_,h⟩ | ⟨_,_,_,h⟩ | h
  ·omega
  ·omega
  ·exact h
 have heq:∀ x y,binE Tryz.prog .eql 24 x y (.tree n c cells f) (.val (.slice none 0 0))=some (.val (.bool false)):=fun x y=>by kernel_rfl
 refine ospec_of_body follows Tryz.func202 (by unfold Tryz.f202;rfl) (by unfold Tryz.f202;simp) onceA (by unfold Tryz.f202;simp) (by kernel_rfl) ?_;unfold Tryz.f202
 simp only [↓pre,simprocAttr,parV,sx,tys202,onceA,postU,postV,hbt,happ,heq,cond_f]
theorem clone_bytes (m0:Mem) (v:AV) (n:Nat) (cells:List AV) (hv:RdSl v n cells) (hl:n≤cells.length) (h1:1≤n) (h2:n≤65536):OSpec Tryz.prog 203 [v] m0 fun r m'=>r = .sl m0.next 0 n n false∧m'=m0.push ⟨cells.take n,5,.flat,true⟩:=by
 have hsrc:=fun m=>RdSl.src (P:=Tryz.prog) (el:=5) (sz:=1) (m:=m) hv (by omega)
 have happ:=fun m=>app_none (P:=Tryz.prog) (kd := .flat) (y:=1) (zl:=[.int .u8 0]) (by kernel_rfl) (by kernel_rfl) (by kernel_rfl) (by kernel_rfl) rfl (hsrc m) (by omega) (by omega) (by omega)
 simp only [Nat.mul_one] at happ
 have hbt:∀ m,buildTreeE Tryz.prog m 54 0 []=some ⟨.tree 0 0 [] true,m,none⟩:=fun m=>buildT_of (el:=5) (sz:=1) (z:=[]) (by kernel_rfl) (by kernel_rfl) (by kernel_rfl) rfl rfl (by decide)
 obtain ⟨c,f,rfl,_⟩:∃ c f,v = .tree n c cells f∧n≤c:=by
  rcases hv.form with ⟨_,h⟩ | ⟨_,_,_,h⟩ | h
  ·omega
  ·omega
  ·exact h
 have heq:∀ x y,binE Tryz.prog .eql 54 x y (.tree n c cells f) (.val (.slice none 0 0))=some (.val (.bool false)):=fun x y=>by kernel_rfl
 refine ospec_of_body follows Tryz.func203 (by unfold Tryz.f203;rfl) (by unfold Tryz.f203;simp) onceA (by unfold Tryz.f203;simp) (by kernel_rfl) ?_;unfold Tryz.f203
 simp only [↓pre,simprocAttr,parV,sx,tys203,onceA,postU,postV,hbt,happ,heq,cond_f]
theorem matrix_twin (m0:Mem) (v:AV) (n w:Nat) (M:Mx) (cells:List AV) (hv:MatV v n w M cells) (h1:1≤n) (h2:n≤32) (h3:1≤w) (h4:w≤32) (hl:n≤cells.length):OSpec Tryz.prog 189 [v] m0 fun r m'=>∃ β,r = .sl m0.next 0 n n false∧MatT m' m0.next n w n false β M∧(∀ i,i < n→m0.next < β i)∧(∀ j k,m0.at_ j=some k→j < m0.next→m'.at_ j=some k)∧m'.mm=m0.mm:=by
 have hc:=clone_rows m0 v n cells hv.rd hl h1 (by omega)
 refine ospec_of_body follows Tryz.func189 (by unfold Tryz.f189;rfl) (by unfold Tryz.f189;simp) onceA (by unfold Tryz.f189;simp) (by kernel_rfl) ?_;unfold Tryz.f189
 simp only [↓pre,simprocAttr,parV,sx,tys189,onceA,postU,postA,storeE,put_at,push_at,postM,sr]
 refine call_open hc ?_
 rintro r m' ⟨rfl,rfl⟩
 simp only [↓pre,simprocAttr,parV,sx,tys189,onceA,postU,postA,storeE,put_at,push_at,postM,sr]
 generalize hb:m0.next=b at *
 rw [codeW_loop]
 refine loop_intro (fun q e m=>∃ i β,q+i=n∧e 0=v∧e 3 = .sl b 0 n n false∧e 8=intV (n:Nat)∧e 9=intV (i:Nat)∧Hid (MatT m b n w i false β M∧(∀ i',i' < i→b < β i')∧(∀ j k,m0.at_ j=some k→j < b→m.at_ j=some k)∧m.mm=m0.mm)) n ⟨0,fun _=>0,by omega,rfl,rfl,rfl,rfl,⟨⟨⟨_,by rw [push_at,if_pos hb.symm],by rw [List.length_take];omega,fun i h=>by omega⟩,by rw [push_next];omega,fun i h=>by omega,fun i j h=>by omega⟩,fun i h=>by omega,fun j k h1 h2=>by rw [push_at,if_neg (by omega)];exact h1,rfl⟩⟩ ?_
 rintro q e m ⟨i,β,hq,e0,e3,e8,e9,hJ⟩
 replace hq:=Hid.mk hq
 obtain ⟨hM,hβ,hkp,hmm⟩:=hJ.out
 obtain ⟨cells',hrow,hcl,hat⟩:=hM.row
 have hbl:=hM.lt
 by_cases hlt:i < n
 ·have hlt':((i:Nat):Int) < ((n:Nat):Int):=by omega
  have w1:=wrap_succ (n:=i) (by omega)
  have hbn:¬ b=m.next:=by omega
  have hi1:i+1≤cells'.length:=by omega
  obtain ⟨a,x,hca,hra⟩:=hv.at_ i hlt
  have hcb:=clone_bytes m a w _ hra (by rw [List.length_append,tabA_len];omega) h3 (by omega)
  rw [List.take_left' (tabA_len w (M i))] at hcb
  have hA:=hM.add_row hlt hrow (M i)
  unfold splice at hA
  simp only [List.length_cons,List.length_nil,Nat.zero_add] at hA
  have hmn:b < m.next:=hbl
  replace hA:=Hid.mk hA
  replace hkp:=Hid.mk hkp
  replace hβ:=Hid.mk hβ
  replace hM:=Hid.mk hM
  replace hat:=Hid.mk hat
  simp only [↓pre,simprocAttr,parV,sx,tys189,onceA,postU,postA,storeE,put_at,push_at,postM,e0,e3,e8,e9,hlt',hv.rd.addr',hlt,hca,sr]
  refine call_open hcb ?_
  rintro r m' ⟨rfl,rfl⟩
  simp only [↓pre,simprocAttr,parV,sx,tys189,onceA,postU,postA,storeE,put_at,push_at,postM,e0,e3,e8,e9,hlt,hrow,hbn,hi1,w1,sr]
  refine ⟨q - 1,by have:=hq.out;omega,i+1,(fun i'=>if i'=i then m.next else β i'),by have:=hq.out;omega,rfl,⟨hA.out.congr fun i' hi' j' hj' => ?_,fun i' h => ?_,fun j k h1 h2 => ?_,hmm⟩⟩
  ·by_cases e:i'=i
   ·simp only [e,if_true]
   ·simp only [if_neg e]
  ·by_cases e:i'=i
   ·simp only [e,if_true];exact hmn
   ·simp only [if_neg e];exact hβ.out i' (by omega)
  ·rw [if_neg (by omega),if_neg (by omega)]
   exact hkp.out j k h1 h2
 ·have hlt':¬ ((i:Nat):Int) < ((n:Nat):Int):=by omega
  have hin:i=n:=by have:=hq.out;omega
  subst hin
  simp only [↓pre,simprocAttr,parV,sx,tys189,onceA,postU,postA,storeE,put_at,push_at,postM,e0,e3,e8,e9,hlt',sr]
  exact ⟨β,hM,hβ,hkp,hmm⟩
def onceP:Nat→Bool:=fun d=>d != 17 && d != 22
theorem put_put {m:Mem} {b:Nat} {x y:Option Blk}:(m.put b x).put b y=m.put b y:=by
 obtain ⟨n,a,mm⟩:=m
 unfold Mem.put
 congr 1
 funext j
 simp only
 split <;> rfl
theorem matrix_times (m0:Mem) (b w:Nat) (f:Bool) (M:Nat→UInt8) (c:UInt8) (hw:w≤32) (hb:m0.at_ b=some ⟨tabA w M,5,.flat,true⟩):OSpec Tryz.prog 200 [.sl b 0 w w f,byteV c] m0 fun r m'=>r = .tup []∧m'=m0.put b (some ⟨tabA w (fun j=>mulU (M j) c),5,.flat,true⟩):=by
 have hm:=fun x=>gf_Mul x c
 simp only [byteV] at hm
 refine ospec_of_body follows Tryz.func200 (by unfold Tryz.f200;rfl) (by unfold Tryz.f200;simp) onceA (by unfold Tryz.f200;simp) (by kernel_rfl) ?_;unfold Tryz.f200
 simp only [↓pre,simprocAttr,parV,sx,tys200,onceA,postU,postA,storeE,put_at,push_at,postM,byteV,sr]
 rw [codeW_loop]
 refine loop_intro (fun q e m=>∃ j,q+j=w∧e 0 = .sl b 0 w w f∧e 1=byteV c∧e 6=intV (w:Nat)∧e 7=intV (j:Nat)∧Hid (m=m0.put b (some ⟨tabA w (fun j'=>if j' < j then mulU (M j') c else M j'),5,.flat,true⟩))) w ⟨0,by omega,rfl,rfl,rfl,rfl,⟨?_⟩⟩ ?_
 ·have:tabA w (fun j'=>if j' < 0 then mulU (M j') c else M j')=tabA w M:=tabA_congr fun j _=>by rw [if_neg (by omega)]
  rw [this,put_same hb]
 rintro q e m ⟨j,hq,e0,e1,e6,e7,hJ⟩
 replace hq:=Hid.mk hq
 by_cases hlt:j < w
 ·have hlt':((j:Nat):Int) < ((w:Nat):Int):=by omega
  have w1:=wrap_succ (n:=j) (by omega)
  have hat:m.at_ b=some ⟨tabA w (fun j'=>if j' < j then mulU (M j') c else M j'),5,.flat,true⟩:=by rw [hJ.out,put_at,if_pos rfl]
  have hcell:=tabA_at (w:=w) (fun j'=>if j' < j then mulU (M j') c else M j') hlt
  simp only [Nat.lt_irrefl,if_false,byteV] at hcell
  have hput:=tabA_put (w:=w) (f:=fun j'=>if j' < j then mulU (M j') c else M j') (g:=fun j'=>if j' < j+1 then mulU (M j') c else M j') hlt fun j' hj'=>by
   by_cases e:j'=j
   ·subst e;rw [if_pos rfl]
   ·rw [if_neg e]
    by_cases e2:j' < j
    ·rw [if_pos e2,if_pos (by omega)]
    ·rw [if_neg e2,if_neg (by omega)]
  simp only [show j < j+1 by omega,if_true] at hput
  unfold splice at hput
  simp only [List.length_cons,List.length_nil,Nat.zero_add,byteV] at hput
  have hl1:j+1≤(tabA w fun j'=>if j' < j then mulU (M j') c else M j').length:=by rw [tabA_len];omega
  have hmj:=hm (M j)
  simp only [↓pre,simprocAttr,parV,sx,tys200,onceA,postU,postA,storeE,put_at,push_at,postM,byteV,e0,e1,e6,e7,hlt',hlt,hat,hcell,sr]
  (first | refine call_plain (hmj) (by first | rfl | simp only [parV,plQ, *]) ?_ | refine call_pure (hmj) (by first | rfl | simp only [parV,plQ, *]) (by intro k;first | rfl | simp only [sq,sr, *]) ?_);simp only [↓pre,simprocAttr,parV,sx,tys200,onceA,postU,postA,storeE,put_at,push_at,postM,byteV,e0,e1,e6,e7,hlt,hat,hl1,hput,w1,sr]
  refine ⟨q - 1,by have:=hq.out;omega,j+1,by have:=hq.out;omega,rfl,⟨?_⟩⟩
  rw [hJ.out,put_put]
 ·have hlt':¬ ((j:Nat):Int) < ((w:Nat):Int):=by omega
  have hj:j=w:=by have:=hq.out;omega
  subst hj
  have hfin:=hJ.out
  have e0':tabA j (fun j'=>if j' < j then mulU (M j') c else M j')=tabA j fun j'=>mulU (M j') c:=tabA_congr fun x hx=>by rw [if_pos hx]
  rw [e0'] at hfin
  subst hfin
  simp only [↓pre,simprocAttr,parV,sx,tys200,onceA,postU,postA,storeE,put_at,push_at,postM,byteV,e0,e1,e6,e7,hlt',sr]
theorem matrix_plus (m0:Mem) (b b' w:Nat) (f f':Bool) (M M':Nat→UInt8) (c:UInt8) (hw:w≤32) (hne:b≠b') (hb:m0.at_ b=some ⟨tabA w M,5,.flat,true⟩) (hb':m0.at_ b'=some ⟨tabA w M',5,.flat,true⟩):OSpec Tryz.prog 201 [.sl b 0 w w f,byteV c,.sl b' 0 w w f'] m0 fun r m'=>r = .tup []∧m'=m0.put b (some ⟨tabA w (fun j=>M j ^^^ mulU c (M' j)),5,.flat,true⟩):=by
 have hm:=gf_Mul c
 have ha:=gf_Add
 simp only [byteV] at hm ha
 refine ospec_of_body follows Tryz.func201 (by unfold Tryz.f201;rfl) (by unfold Tryz.f201;simp) onceP (by unfold Tryz.f201;simp) (by kernel_rfl) ?_;unfold Tryz.f201
 simp only [↓pre,simprocAttr,parV,sx,tys201,onceP,bne,postU,postA,storeE,put_at,push_at,postM,byteV,sr]
 rw [codeW_loop]
 refine loop_intro (fun q e m=>∃ j,q+j=w∧e 0 = .sl b 0 w w f∧e 1=byteV c∧e 2 = .sl b' 0 w w f'∧e 8=intV (w:Nat)∧e 9=intV (j:Nat)∧Hid (m=m0.put b (some ⟨tabA w (fun j'=>if j' < j then M j' ^^^ mulU c (M' j') else M j'),5,.flat,true⟩))) w ⟨0,by omega,rfl,rfl,rfl,rfl,rfl,⟨?_⟩⟩ ?_
 ·have:tabA w (fun j'=>if j' < 0 then M j' ^^^ mulU c (M' j') else M j')=tabA w M:=tabA_congr fun j _=>by rw [if_neg (by omega)]
  rw [this,put_same hb]
 rintro q e m ⟨j,hq,e0,e1,e2,e8,e9,hJ⟩
 replace hq:=Hid.mk hq
 by_cases hlt:j < w
 ·have hlt':((j:Nat):Int) < ((w:Nat):Int):=by omega
  have w1:=wrap_succ (n:=j) (by omega)
  have hat:m.at_ b=some ⟨tabA w (fun j'=>if j' < j then M j' ^^^ mulU c (M' j') else M j'),5,.flat,true⟩:=by rw [hJ.out,put_at,if_pos rfl]
  have hat':m.at_ b'=some ⟨tabA w M',5,.flat,true⟩:=by rw [hJ.out,put_at,if_neg (fun e=>hne e.symm)];exact hb'
  have hcell:=tabA_at (w:=w) (fun j'=>if j' < j then M j' ^^^ mulU c (M' j') else M j') hlt
  have hcell':=tabA_at (w:=w) M' hlt
  simp only [Nat.lt_irrefl,if_false,byteV] at hcell hcell'
  have hput:=tabA_put (w:=w) (f:=fun j'=>if j' < j then M j' ^^^ mulU c (M' j') else M j') (g:=fun j'=>if j' < j+1 then M j' ^^^ mulU c (M' j') else M j') hlt fun j' hj'=>by
   by_cases e:j'=j
   ·subst e;rw [if_pos rfl]
   ·rw [if_neg e]
    by_cases e2:j' < j
    ·rw [if_pos e2,if_pos (by omega)]
    ·rw [if_neg e2,if_neg (by omega)]
  simp only [show j < j+1 by omega,if_true] at hput
  unfold splice at hput
  simp only [List.length_cons,List.length_nil,Nat.zero_add,byteV] at hput
  have hl1:j+1≤(tabA w fun j'=>if j' < j then M j' ^^^ mulU c (M' j') else M j').length:=by rw [tabA_len];omega
  have hmj:=hm (M' j)
  have haj:=ha (M j) (mulU c (M' j))
  simp only [↓pre,simprocAttr,parV,sx,tys201,onceP,bne,postU,postA,storeE,put_at,push_at,postM,byteV,e0,e1,e2,e8,e9,hlt',hlt,hat,hat',hcell,hcell',sr]
  (first | refine call_plain (hmj) (by first | rfl | simp only [parV,plQ, *]) ?_ | refine call_pure (hmj) (by first | rfl | simp only [parV,plQ, *]) (by intro k;first | rfl | simp only [sq,sr, *]) ?_);simp only [↓pre,simprocAttr,parV,sx,tys201,onceP,bne,postU,postA,storeE,put_at,push_at,postM,byteV,e0,e1,e2,e8,e9,hlt,hat,hat',hcell,hcell',hl1,hput,sr];(first | refine call_plain (haj) (by first | rfl | simp only [parV,plQ, *]) ?_ | refine call_pure (haj) (by first | rfl | simp only [parV,plQ, *]) (by intro k;first | rfl | simp only [sq,sr, *]) ?_);simp only [↓pre,simprocAttr,parV,sx,tys201,onceP,bne,postU,postA,storeE,put_at,push_at,postM,byteV,e0,e1,e2,e8,e9,hlt,hat,hat',hcell,hcell',hl1,hput,sr]
  refine contW_fixed (by kernel_rfl) ?_
  simp only [↓pre,simprocAttr,parV,sx,tys201,onceP,bne,postU,postA,storeE,put_at,push_at,postM,byteV,e0,e1,e2,e8,e9,w1,sr]
  refine ⟨q - 1,by have:=hq.out;omega,j+1,by have:=hq.out;omega,rfl,⟨?_⟩⟩
  rw [hJ.out,put_put]
 ·have hlt':¬ ((j:Nat):Int) < ((w:Nat):Int):=by omega
  have hj:j=w:=by have:=hq.out;omega
  subst hj
  have hfin:=hJ.out
  have e0':tabA j (fun j'=>if j' < j then M j' ^^^ mulU c (M' j') else M j')=tabA j fun j'=>M j' ^^^ mulU c (M' j'):=tabA_congr fun x hx=>by rw [if_pos hx]
  rw [e0'] at hfin
  subst hfin
  simp only [↓pre,simprocAttr,parV,sx,tys201,onceP,bne,postU,postA,storeE,put_at,push_at,postM,byteV,e0,e1,e2,e8,e9,hlt',sr]
theorem MatT.swap {m : Mem} {b n w : Nat} {fl : Bool} {β : Nat → Nat} {M : Mx} (h : MatT m b n w n fl β M) {a k : Nat} (ha : a < n) (hk : k < n) {cells : List AV} (hb : m.at_ b = some ⟨cells, 54, .var, true⟩) :
   MatT (m.put b (some ⟨splice (splice cells a [.sl (β k) 0 w w fl]) k [.sl (β a) 0 w w fl], 54, .var, true⟩)) b n w n fl (fun i => if i = a then β k else if i = k then β a else β i) (swapM M a k) := by
 obtain ⟨cells', hb', hl, hat⟩ := h.row
 rw [hb] at hb'
 obtain rfl : cells = cells' := by simpa using hb'
 have hlen : ∀ (cs : List AV) (i : Nat) (x : AV), i < cs.length → (splice cs i [x]).length = cs.length := fun cs i x hi => by
   unfold splice
   simp only [List.length_append, List.length_take, List.length_drop, List.length_cons, List.length_nil]
   omega
 have hget : ∀ (cs : List AV) (i j : Nat) (x : AV), i < cs.length → (splice cs i [x])[j]? = if j = i then some x else cs[j]? := fun cs i j x hi => by
   unfold splice
   have htl : (cs.take i).length = i := by rw [List.length_take]; omega
   by_cases e : j = i
   · subst e
     rw [if_pos rfl, List.append_assoc, List.getElem?_append_right (by omega), htl, Nat.sub_self]
     rfl
   · rw [if_neg e, List.append_assoc]
     by_cases h1 : j < i
     · rw [List.getElem?_append_left (by omega), List.getElem?_take_of_lt h1]
     · rw [List.getElem?_append_right (by omega), htl, List.getElem?_append_right (by simp; omega), List.getElem?_drop]
       congr 1
       simp only [List.length_cons, List.length_nil]
       omega
 have hl1 := hlen cells a (.sl (β k) 0 w w fl) (by omega)
 refine ⟨⟨_, by rw [put_at, if_pos rfl], by rw [hlen _ _ _ (by omega)]; omega, fun i hi => ?_⟩, h.lt, fun i hi => ?_, fun i j hi hj e => ?_⟩
 · rw [hget _ _ _ _ (by omega), hget _ _ _ _ (by omega)]
   by_cases e1 : i = k
   · rw [if_pos e1]
     by_cases e2 : i = a
     · rw [if_pos e2, ← e1, e2]
     · rw [if_neg e2, if_pos e1]
   · rw [if_neg e1]
     by_cases e2 : i = a
     · rw [if_pos e2, if_pos e2]
     · rw [if_neg e2, if_neg e2, if_neg e1]
       exact hat i hi
 · unfold swapM
   have hne := fun x (hx : x < n) => h.ne hx
   by_cases e1 : i = a
   · simp only [if_pos e1]
     exact ⟨(h.own k hk).1, by rw [put_at, if_neg (hne k hk)]; exact (h.own k hk).2⟩
   · by_cases e2 : i = k
     · simp only [if_neg e1, if_pos e2]
       exact ⟨(h.own a ha).1, by rw [put_at, if_neg (hne a ha)]; exact (h.own a ha).2⟩
     · simp only [if_neg e1, if_neg e2]
       exact ⟨(h.own i hi).1, by rw [put_at, if_neg (hne i hi)]; exact (h.own i hi).2⟩
 · have hσ : ∀ i, (if i = a then β k else if i = k then β a else β i) = β (if i = a then k else if i = k then a else i) := fun i => by split; rfl; split <;> rfl
   simp only [hσ] at e
   have hl : ∀ i, i < n → (if i = a then k else if i = k then a else i) < n := fun i hi => by split; omega; split <;> omega
   have h9 := h.inj _ _ (hl i hi) (hl j hj) e
   revert h9
   split <;> split <;> (try split) <;> (try split) <;> omega
theorem MatT.put_other {m:Mem} {b n w t:Nat} {fl:Bool} {β:Nat→Nat} {M:Mx} (h:MatT m b n w t fl β M) {x:Nat} {y:Option Blk} (h1:b≠x) (h2:∀ i,i < t→β i≠x):MatT (m.put x y) b n w t fl β M :=
 h.keep (Nat.le_refl _) fun j k hj _ hc=>by
  rw [put_at,if_neg]
  ·exact hj
  ·rintro rfl
   rcases hc with rfl | ⟨i,hi,rfl⟩
   ·exact h1 rfl
   ·exact h2 i hi rfl
structure TwoM (m:Mem) (b1 b2 N:Nat) (f1 f2:Bool) (β γ:Nat→Nat) (M B:Mx):Prop where
 one:MatT m b1 N N N f1 β M
 two:MatT m b2 N N N f2 γ B
 ne:b1≠b2
 rows:∀ i j,i < N→j < N→β i≠γ j
theorem TwoM.cross {m:Mem} {b1 b2 N:Nat} {f1 f2:Bool} {β γ:Nat→Nat} {M B:Mx} (h:TwoM m b1 b2 N f1 f2 β γ M B) {i:Nat} (hi:i < N):β i≠b2∧γ i≠b1:=by
 obtain ⟨c1,r1,_⟩:=h.one.row
 obtain ⟨c2,r2,_⟩:=h.two.row
 constructor
 ·intro e
  have:=(h.one.own i hi).2
  rw [e,r2] at this
  simp at this
 ·intro e
  have:=(h.two.own i hi).2
  rw [e,r1] at this
  simp at this
def onceS:Nat→Bool:=fun d=>d != 45 && d != 49 && d != 59 && d != 63 && d != 111 && d != 116 && d != 121 && d != 126 && d != 117 && d != 127
theorem matrix_solve (m0:Mem) (b1 b2 N:Nat) (g1 g2 f1 f2:Bool) (β γ:Nat→Nat) (M B:Mx) (hN:1≤N) (hN2:N≤32) (h:TwoM m0 b1 b2 N f1 f2 β γ M B):OSpec Tryz.prog 188 [.sl b1 0 N N g1,.sl b2 0 N N g2] m0 fun r m'=>∃ β' γ',r=intV ((gsol N M B N).n:Nat)∧TwoM m' b1 b2 N f1 f2 β' γ' (gsol N M B N).m (gsol N M B N).b:=by
 have hI:=gf_Inv
 simp only [byteV] at hI
 obtain ⟨cells0,hr0,hcl0,hat0⟩:=h.one.row
 have hc0:=hat0 0 (by omega)
 have hN0:0 < N:=by omega
 replace hN:=Hid.mk hN
 replace hN2:=Hid.mk hN2
 refine ospec_of_body follows Tryz.func188 (by unfold Tryz.f188;rfl) (by unfold Tryz.f188;simp) onceS (by unfold Tryz.f188;simp) (by kernel_rfl) ?_;unfold Tryz.f188
 simp only [↓pre,simprocAttr,parV,sx,tys188,onceS,bne,postU,postA,storeE,put_at,push_at,postM,byteV,hN0,hr0,hc0,sr]
 rw [codeW_loop]
 refine loop_intro (fun q e m=>∃ j β γ,q+j=N∧e 0 = .sl b1 0 N N g1∧e 1 = .sl b2 0 N N g2∧e 5=intV ((gsol N M B j).n:Nat)∧e 15=intV (N:Nat)∧e 16=intV (j:Nat)∧Hid (TwoM m b1 b2 N f1 f2 β γ (gsol N M B j).m (gsol N M B j).b)) N ⟨0,β,γ,by omega,rfl,rfl,rfl,rfl,rfl,⟨h⟩⟩ ?_
 rintro q e m ⟨j,β,γ,hq,e0,e1,e5,e15,e16,hJ⟩
 replace hq:=Hid.mk hq
 have hgs:gsol N M B (j+1)=gstep N j (gsol N M B j):=rfl
 have hsn:=gsol_le (N:=N) M B j
 generalize hse:gsol N M B j=s at *
 replace hse:=Hid.mk hse
 by_cases hlt:j < N
 ·have hlt':((j:Nat):Int) < ((N:Nat):Int):=by omega
  have w1:=wrap_succ (n:=j) (by have:=hN2.out;omega)
  replace hsn:=Hid.mk hsn
  simp only [↓pre,simprocAttr,parV,sx,tys188,onceS,bne,postU,postA,storeE,put_at,push_at,postM,byteV,e0,e1,e5,e15,e16,hlt',sr]
  rw [codeW_loop]
  refine loop_cut (fun e m'=>e 0 = .sl b1 0 N N g1∧e 1 = .sl b2 0 N N g2∧e 5=intV (s.n:Nat)∧e 6=intV (j:Nat)∧e 7=intV (pivot s.m j (N - s.n) s.n:Nat)∧e 15=intV (N:Nat)∧e 16=intV (j:Nat)∧m'=m) (fun e m' hR => ?_) ?_
  ·obtain ⟨e0,e1,e5,e6,e7,e15,e16,rfl⟩:=hR
   have hpg:=pivot_ge s.m j (N - s.n) s.n
   by_cases hp:pivot s.m j (N - s.n) s.n=N
   ·have hst:gstep N j s=s:=by unfold gstep;simp only [hp,Nat.le_refl,if_true]
    rw [hp] at e7
    simp only [↓pre,simprocAttr,parV,sx,tys188,onceS,bne,postU,postA,storeE,put_at,push_at,postM,byteV,e0,e1,e5,e6,e7,e15,e16,w1,sr]
    refine ⟨q - 1,by have:=hq.out;omega,j+1,β,γ,by have:=hq.out;omega,by rw [hgs,hst],rfl, ?_⟩
    rw [hgs,hst];exact hJ
   ·have hpN:pivot s.m j (N - s.n) s.n < N:=by have:=hsn.out;omega
    have hne:=pivot_at s.m j (N - s.n) s.n (by have:=hsn.out;omega)
    have hgs2:gstep N j s=⟨s.n+1,elimM (scaleM (swapM s.m (pivot s.m j (N - s.n) s.n) s.n) s.n (invU (swapM s.m (pivot s.m j (N - s.n) s.n) s.n s.n j))) s.n (fun i=>scaleM (swapM s.m (pivot s.m j (N - s.n) s.n) s.n) s.n (invU (swapM s.m (pivot s.m j (N - s.n) s.n) s.n s.n j)) i j),elimM (scaleM (swapM s.b (pivot s.m j (N - s.n) s.n) s.n) s.n (invU (swapM s.m (pivot s.m j (N - s.n) s.n) s.n s.n j))) s.n (fun i=>scaleM (swapM s.m (pivot s.m j (N - s.n) s.n) s.n) s.n (invU (swapM s.m (pivot s.m j (N - s.n) s.n) s.n s.n j)) i j)⟩:=by unfold gstep;simp only [if_neg (show ¬ N≤pivot s.m j (N - s.n) s.n by omega)]
    rw [hgs2] at hgs
    clear hgs2
    obtain ⟨n,M1,B1⟩:=s
    simp only at *
    generalize pivot M1 j (N - n) n=a at *
    have hnN:n < N:=by omega
    have hpa:¬ ((a:Nat):Int)=((N:Nat):Int):=by omega
    replace hgs:=Hid.mk hgs
    replace hpg:=Hid.mk hpg
    replace hne:=Hid.mk hne
    obtain ⟨cells,hrow,hcl,hat⟩:=hJ.out.one.row
    obtain ⟨cells',hrow',hcl',hat'⟩:=hJ.out.two.row
    have hca:=hat a hpN
    have hcn:=hat n hnN
    have hca':=hat' a hpN
    have hcn':=hat' n hnN
    have hb12:=hJ.out.ne
    have hb21:¬ b2=b1:=fun h=>hb12 h.symm
    have hsw1:=hJ.out.one.swap hpN hnN hrow
    have hsw2:=hJ.out.two.swap hpN hnN hrow'
    replace hat:=Hid.mk hat
    replace hat':=Hid.mk hat'
    replace hsw1:=Hid.mk hsw1
    replace hsw2:=Hid.mk hsw2
    have hla1:a+1≤cells.length:=by omega
    have hla2:a+1≤cells'.length:=by omega
    have hln1:n+1≤(cells.take a++[AV.sl (β n) 0 N N f1]++cells.drop (a+1)).length:=by simp;omega
    have hln2:n+1≤(cells'.take a++[AV.sl (γ n) 0 N N f2]++cells'.drop (a+1)).length:=by simp;omega
    simp only [↓pre,simprocAttr,parV,sx,tys188,onceS,bne,postU,postA,storeE,put_at,push_at,postM,byteV,e0,e1,e5,e6,e7,e15,e16,hpa,hpN,hnN,hrow,hca,hcn,hla1,hln1,sr]
    refine contW_fixed (by kernel_rfl) ?_
    simp only [↓pre,simprocAttr,parV,sx,tys188,onceS,bne,postU,postA,storeE,put_at,push_at,postM,byteV,e0,e1,e5,e6,e7,e15,e16,hpa,hpN,hnN,hrow,hca,hcn,hla1,hln1,sr]
    refine contW_fixed (by kernel_rfl) ?_
    simp only [↓pre,simprocAttr,parV,sx,tys188,onceS,bne,postU,postA,storeE,put_at,push_at,postM,byteV,e0,e1,e5,e6,e7,e15,e16,put_put,hpN,hnN,hrow',hb21,hca',hcn',hla2,hln2,sr]
    refine contW_fixed (by kernel_rfl) ?_
    simp only [↓pre,simprocAttr,parV,sx,tys188,onceS,bne,postU,postA,storeE,put_at,push_at,postM,byteV,e0,e1,e5,e6,e7,e15,e16,put_put,hpN,hnN,hrow',hb21,hca',hcn',hla2,hln2,sr]
    refine contW_fixed (by kernel_rfl) ?_
    have hT:TwoM ((m'.put b1 (some ⟨splice (splice cells a [.sl (β n) 0 N N f1]) n [.sl (β a) 0 N N f1],54,.var,true⟩)).put b2 (some ⟨splice (splice cells' a [.sl (γ n) 0 N N f2]) n [.sl (γ a) 0 N N f2],54,.var,true⟩)) b1 b2 N f1 f2 (fun i=>if i=a then β n else if i=n then β a else β i) (fun i=>if i=a then γ n else if i=n then γ a else γ i) (swapM M1 a n) (swapM B1 a n):=by
     refine ⟨hsw1.out.put_other hb12 fun i hi => ?_, ?_,hb12,fun i j hi hj => ?_⟩
     ·split
      ·exact (hJ.out.cross hnN).1
      ·split
       ·exact (hJ.out.cross hpN).1
       ·exact (hJ.out.cross hi).1
     ·refine hsw2.out.keep (Nat.le_refl _) fun j k hj _ hc => ?_
      rw [put_at] at hj ⊢
      by_cases e9:j=b2
      ·rw [if_pos e9] at hj ⊢;exact hj
      ·rw [if_neg e9] at hj ⊢
       rw [put_at,if_neg]
       ·exact hj
       ·rintro rfl
        rcases hc with h9 | ⟨i,hi,h9⟩
        ·exact e9 h9
        ·split at h9
         ·exact (hJ.out.cross hnN).2 h9.symm
         ·split at h9
          ·exact (hJ.out.cross hpN).2 h9.symm
          ·exact (hJ.out.cross hi).2 h9.symm
     ·repeat' split
      all_goals exact hJ.out.rows _ _ (by assumption) (by assumption)
    unfold splice at hT
    simp only [List.length_cons,List.length_nil,Nat.zero_add] at hT
    generalize hβ1:(fun i=>if i=a then β n else if i=n then β a else β i)=β1 at hT
    generalize hγ1:(fun i=>if i=a then γ n else if i=n then γ a else γ i)=γ1 at hT
    generalize hmm1:Mem.put (Mem.put m' b1 _) b2 _=m1 at hT
    clear hmm1
    have hpiv:swapM M1 a n n j≠0:=by
     have:=hne.out
     unfold swapM
     by_cases e9:n=a
     ·rw [if_pos e9];rw [←e9] at this;exact this
     ·rw [if_neg e9,if_pos rfl];exact this
    generalize hM2:swapM M1 a n=M2 at hT hgs hpiv
    generalize hB2:swapM B1 a n=B2 at hT hgs
    have hIc:=hI (M2 n j)
    rw [if_neg hpiv,if_neg hpiv] at hIc
    generalize hc:invU (M2 n j)=c at hIc hgs
    replace hpiv:=Hid.mk hpiv
    obtain ⟨cells1,hrow1,hcl1,hat1⟩:=hT.one.row
    obtain ⟨cells2,hrow2,hcl2,hat2⟩:=hT.two.row
    have hc1:=hat1 n hnN
    have hc2:=hat2 n hnN
    obtain ⟨hbl1,hblk1⟩:=hT.one.own n hnN
    obtain ⟨hbl2,hblk2⟩:=hT.two.own n hnN
    have hcell:=tabA_at (w:=N) (M2 n) hlt
    simp only [byteV] at hcell
    have hx1:=hT.cross hnN
    have hne1:=hT.one.ne hnN
    have hne2:=hT.two.ne hnN
    have hr12:=hT.rows n n hnN hnN
    have hb1n:¬ b1=β1 n:=fun h=>hne1 h.symm
    have hb2n:¬ b2=β1 n:=fun h=>hx1.1 h.symm
    have hγn:¬ γ1 n=β1 n:=fun h=>hr12 h.symm
    have ht1:=matrix_times m1 (β1 n) N f1 (M2 n) c (by have:=hN2.out;omega) hblk1
    have ht2:=matrix_times (m1.put (β1 n) (some ⟨tabA N (fun j=>mulU (M2 n j) c),5,.flat,true⟩)) (γ1 n) N f2 (B2 n) c (by have:=hN2.out;omega) (by rw [put_at,if_neg hγn];exact hblk2)
    have hT2:TwoM ((m1.put (β1 n) (some ⟨tabA N (fun j=>mulU (M2 n j) c),5,.flat,true⟩)).put (γ1 n) (some ⟨tabA N (fun j=>mulU (B2 n j) c),5,.flat,true⟩)) b1 b2 N f1 f2 β1 γ1 (scaleM M2 n c) (scaleM B2 n c):=by
     refine ⟨((hT.one.put_row hnN _).put_other (fun h=>hx1.2 h.symm) fun i hi=>hT.rows i n hi hnN).congr fun i hi j hj=>by simp only [scaleM];split <;> rfl, ?_,hT.ne,hT.rows⟩
     refine MatT.congr (MatT.put_row (hT.two.put_other (fun h=>hx1.1 h.symm) fun i hi=>fun h=>hT.rows n i hnN hi h.symm) hnN _) fun i hi j hj=>by simp only [scaleM];split <;> rfl
    replace hat1:=Hid.mk hat1
    replace hat2:=Hid.mk hat2
    simp only [byteV] at ht1 ht2
    simp only [↓pre,simprocAttr,parV,sx,tys188,onceS,bne,postU,postA,storeE,put_at,push_at,postM,byteV,e0,e1,e5,e6,e7,e15,e16,hrow1,hnN,hc1,hblk1,hlt,hcell,sr]
    (first | refine call_plain (hIc) (by first | rfl | simp only [parV,plQ, *]) ?_ | refine call_pure (hIc) (by first | rfl | simp only [parV,plQ, *]) (by intro k;first | rfl | simp only [sq,sr, *]) ?_);simp only [↓pre,simprocAttr,parV,sx,tys188,onceS,bne,postU,postA,storeE,put_at,push_at,postM,byteV,e0,e1,e5,e6,e7,e15,e16,hrow1,hnN,hc1,hblk1,hlt,hcell,sr]
    refine call_det ht1 ?_
    simp only [↓pre,simprocAttr,parV,sx,tys188,onceS,bne,postU,postA,storeE,put_at,push_at,postM,byteV,e0,e1,e5,e6,e7,e15,e16,hrow2,hnN,hc2,hb2n,sr]
    refine call_det ht2 ?_
    generalize hmm2:Mem.put (Mem.put m1 (β1 n) _) (γ1 n) _=m2 at hT2
    clear hmm2
    simp only [↓pre,simprocAttr,parV,sx,tys188,onceS,bne,postU,postA,storeE,put_at,push_at,postM,byteV,e0,e1,e5,e6,e7,e15,e16,sr]
    rw [codeW_loop]
    generalize hM3:scaleM M2 n c=M3 at hT2 hgs
    generalize hB3:scaleM B2 n c=B3 at hT2 hgs
    refine loop_intro (fun q' e m'=>∃ i,q'+i=N∧e 0 = .sl b1 0 N N g1∧e 1 = .sl b2 0 N N g2∧e 5=intV (n:Nat)∧e 6=intV (j:Nat)∧e 15=intV (N:Nat)∧e 16=intV (j:Nat)∧e 90=intV (N:Nat)∧e 91=intV (i:Nat)∧Hid (TwoM m' b1 b2 N f1 f2 β1 γ1 (fun i' q=>if i' < i then elimM M3 n (fun i=>M3 i j) i' q else M3 i' q) (fun i' q=>if i' < i then elimM B3 n (fun i=>M3 i j) i' q else B3 i' q))) N ⟨0,by omega,e0,e1,e5,e6,e15,e16,rfl,rfl,⟨?_⟩⟩ ?_
    ·refine ⟨hT2.one.congr fun i hi j hj => ?_,hT2.two.congr fun i hi j hj => ?_,hT2.ne,hT2.rows⟩
     ·rw [if_neg (by omega)]
     ·rw [if_neg (by omega)]
    rintro q' e m' ⟨i,hq',e0,e1,e5,e6,e15,e16,e90,e91,hJ3⟩
    replace hq':=Hid.mk hq'
    by_cases hli:i < N
    ·have hli':((i:Nat):Int) < ((N:Nat):Int):=by omega
     have wi:=wrap_succ (n:=i) (by have:=hN2.out;omega)
     obtain ⟨cells3,hrow3,hcl3,hat3⟩:=hJ3.out.one.row
     obtain ⟨cells4,hrow4,hcl4,hat4⟩:=hJ3.out.two.row
     have hr3i:=hat3 i hli
     have hr3n:=hat3 n hnN
     have hr4i:=hat4 i hli
     have hr4n:=hat4 n hnN
     obtain ⟨hbi1,hbk1⟩:=hJ3.out.one.own i hli
     obtain ⟨hbi2,hbk2⟩:=hJ3.out.two.own i hli
     obtain ⟨hbn1,hbkn1⟩:=hJ3.out.one.own n hnN
     obtain ⟨hbn2,hbkn2⟩:=hJ3.out.two.own n hnN
     have hcell3:=tabA_at (w:=N) (fun q=>if i < i then elimM M3 n (fun i=>M3 i j) i q else M3 i q) hlt
     simp only [Nat.lt_irrefl,if_false,byteV] at hcell3 hbk1 hbk2
     have hx:=hJ3.out.cross hli
     have hxn:=hJ3.out.cross hnN
     have hwn:∀ (X:Mx) (k:Nat→UInt8),(fun q=>if n < i then elimM X n k n q else X n q)=X n:=fun X k=>by
      funext q
      split
      ·unfold elimM;rw [if_pos rfl]
      ·rfl
     rw [hwn] at hbkn1 hbkn2
     replace hat3:=Hid.mk hat3
     replace hat4:=Hid.mk hat4
     have hskip:(i=n∨M3 i j=0)→TwoM m' b1 b2 N f1 f2 β1 γ1 (fun i' q=>if i' < i+1 then elimM M3 n (fun i=>M3 i j) i' q else M3 i' q) (fun i' q=>if i' < i+1 then elimM B3 n (fun i=>M3 i j) i' q else B3 i' q):=by
      intro hor
      have hk:∀ (X:Mx) (i' q:Nat),(if i' < i then elimM X n (fun i=>M3 i j) i' q else X i' q)=(if i' < i+1 then elimM X n (fun i=>M3 i j) i' q else X i' q):=fun X i' q=>by
       by_cases e9:i' < i
       ·rw [if_pos e9,if_pos (by omega)]
       ·rw [if_neg e9]
        by_cases e8:i'=i
        ·subst e8
         rw [if_pos (by omega)]
         unfold elimM
         rcases hor with h9 | h9
         ·rw [if_pos h9]
         ·split
          ·rfl
          ·simp only [h9];rw [zero_mulU,xor_zero2]
        ·rw [if_neg (by omega)]
      exact ⟨hJ3.out.one.congr fun i' hi' q hq=>hk M3 i' q,hJ3.out.two.congr fun i' hi' q hq=>hk B3 i' q,hJ3.out.ne,hJ3.out.rows⟩
     replace hskip:=Hid.mk hskip
     by_cases hin:i=n
     ·subst hin
      simp only [↓pre,simprocAttr,parV,sx,tys188,onceS,bne,postU,postA,storeE,put_at,push_at,postM,byteV,e0,e1,e5,e6,e15,e16,e90,e91,hli',hrow3,hli,hr3i,hbk1,hlt,hcell3,wi,sr]
      exact ⟨q' - 1,by have:=hq'.out;omega,i+1,by have:=hq'.out;omega,rfl,⟨hskip.out (.inl rfl)⟩⟩
     ·have hin':¬ ((i:Nat):Int)=((n:Nat):Int):=by omega
      by_cases hz:M3 i j=0
      ·have hz':(((M3 i j).toNat:Nat):Int)=0:=by rw [hz];rfl
       simp only [↓pre,simprocAttr,parV,sx,tys188,onceS,bne,postU,postA,storeE,put_at,push_at,postM,byteV,e0,e1,e5,e6,e15,e16,e90,e91,hli',hrow3,hli,hr3i,hbk1,hlt,hcell3,hin',hz',wi,sr]
       exact ⟨q' - 1,by have:=hq'.out;omega,i+1,by have:=hq'.out;omega,rfl,⟨hskip.out (.inr hz)⟩⟩
      ·have hz':¬ (((M3 i j).toNat:Nat):Int)=0:=by
        intro hh
        exact hz (UInt8.toNat_inj.1 (by simp;omega))
       have hβin:¬ β1 i=β1 n:=fun h=>hin (hJ3.out.one.inj i n hli hnN h)
       have hγin:¬ γ1 i=γ1 n:=fun h=>hin (hJ3.out.two.inj i n hli hnN h)
       have hp1:=matrix_plus m' (β1 i) (β1 n) N f1 f1 (M3 i) (M3 n) (M3 i j) (by have:=hN2.out;omega) hβin hbk1 hbkn1
       have hq1:¬ γ1 i=β1 i:=fun h=>hJ3.out.rows i i hli hli h.symm
       have hq2:¬ γ1 n=β1 i:=fun h=>hJ3.out.rows i n hli hnN h.symm
       have hq3:¬ b2=β1 i:=fun h=>hx.1 h.symm
       have hp2:=matrix_plus (m'.put (β1 i) (some ⟨tabA N (fun q=>M3 i q ^^^ mulU (M3 i j) (M3 n q)),5,.flat,true⟩)) (γ1 i) (γ1 n) N f2 f2 (B3 i) (B3 n) (M3 i j) (by have:=hN2.out;omega) hγin (by rw [put_at,if_neg hq1];exact hbk2) (by rw [put_at,if_neg hq2];exact hbkn2)
       have hT4:TwoM ((m'.put (β1 i) (some ⟨tabA N (fun q=>M3 i q ^^^ mulU (M3 i j) (M3 n q)),5,.flat,true⟩)).put (γ1 i) (some ⟨tabA N (fun q=>B3 i q ^^^ mulU (M3 i j) (B3 n q)),5,.flat,true⟩)) b1 b2 N f1 f2 β1 γ1 (fun i' q=>if i' < i+1 then elimM M3 n (fun i=>M3 i j) i' q else M3 i' q) (fun i' q=>if i' < i+1 then elimM B3 n (fun i=>M3 i j) i' q else B3 i' q):=by
        have hk:∀ (X:Mx) (i' q:Nat),(if i'=i then (fun q=>X i q ^^^ mulU (M3 i j) (X n q)) else fun q=>if i' < i then elimM X n (fun i=>M3 i j) i' q else X i' q) q=(if i' < i+1 then elimM X n (fun i=>M3 i j) i' q else X i' q):=fun X i' q=>by
         by_cases e8:i'=i
         ·subst e8
          rw [if_pos rfl,if_pos (by omega)]
          unfold elimM
          rw [if_neg hin]
         ·rw [if_neg e8]
          by_cases e9:i' < i
          ·simp only [if_pos e9,if_pos (show i' < i+1 by omega)]
          ·simp only [if_neg e9,if_neg (show ¬ i' < i+1 by omega)]
        refine ⟨((hJ3.out.one.put_row hli _).put_other (fun h=>hx.2 h.symm) fun i' hi'=>hJ3.out.rows i' i hi' hli).congr fun i' hi' q hq=>hk M3 i' q, ?_,hJ3.out.ne,hJ3.out.rows⟩
        exact (MatT.put_row (hJ3.out.two.put_other (fun h=>hx.1 h.symm) fun i' hi'=>fun h=>hJ3.out.rows i i' hli hi' h.symm) hli _).congr fun i' hi' q hq=>hk B3 i' q
       replace hskip:=Hid.mk hskip
       simp only [byteV] at hp1 hp2
       simp only [↓pre,simprocAttr,parV,sx,tys188,onceS,bne,postU,postA,storeE,put_at,push_at,postM,byteV,e0,e1,e5,e6,e15,e16,e90,e91,hli',hrow3,hli,hr3i,hr3n,hnN,hbk1,hlt,hcell3,hin',hz',wi,sr]
       refine call_det hp1 ?_
       refine contW_fixed (by kernel_rfl) ?_
       simp only [↓pre,simprocAttr,parV,sx,tys188,onceS,bne,postU,postA,storeE,put_at,push_at,postM,byteV,e0,e1,e5,e6,e15,e16,e90,e91,hli',hrow4,hq3,hli,hr4i,hr4n,hnN,hlt,hin',hz',wi,sr]
       refine call_det hp2 ?_
       refine contW_fixed (by kernel_rfl) ?_
       generalize hmm5:Mem.put (Mem.put m' (β1 i) _) (γ1 i) _=m5 at hT4
       clear hmm5
       simp only [↓pre,simprocAttr,parV,sx,tys188,onceS,bne,postU,postA,storeE,put_at,push_at,postM,byteV,e0,e1,e5,e6,e15,e16,e90,e91,hli',wi,sr]
       exact ⟨q' - 1,by have:=hq'.out;omega,i+1,by have:=hq'.out;omega,rfl,⟨hT4⟩⟩
    ·have hli':¬ ((i:Nat):Int) < ((N:Nat):Int):=by omega
     have hiN:i=N:=by have:=hq'.out;omega
     subst hiN
     have wn:=wrap_succ (n:=n) (by have:=hN2.out;omega)
     simp only [↓pre,simprocAttr,parV,sx,tys188,onceS,bne,postU,postA,storeE,put_at,push_at,postM,byteV,e0,e1,e5,e6,e15,e16,e90,e91,hli',wn,w1,sr]
     refine ⟨q - 1,by have:=hq.out;omega,j+1,β1,γ1,by have:=hq.out;omega,by rw [hgs.out],rfl,⟨?_⟩⟩
     rw [hgs.out]
     refine ⟨hJ3.out.one.congr fun i' hi j' hj => ?_,hJ3.out.two.congr fun i' hi j' hj => ?_,hJ3.out.ne,hJ3.out.rows⟩
     ·simp only [if_pos hi]
     ·simp only [if_pos hi]
  ·refine loop_intro (fun q' e m'=>∃ a,q'+a=N∧s.n≤a∧e 0 = .sl b1 0 N N g1∧e 1 = .sl b2 0 N N g2∧e 5=intV (s.n:Nat)∧e 6=intV (j:Nat)∧e 7=intV (a:Nat)∧e 15=intV (N:Nat)∧e 16=intV (j:Nat)∧Hid (pivot s.m j (N - s.n) s.n=pivot s.m j (N - a) a)∧m'=m) (N - s.n) ⟨s.n,by have:=hsn.out;omega,Nat.le_refl _,e0,e1,e5,rfl,rfl,e15,e16,⟨rfl⟩,rfl⟩ ?_
   rintro q' e m' ⟨a,hq',han,e0,e1,e5,e6,e7,e15,e16,hpv,rfl⟩
   replace hq':=Hid.mk hq'
   replace han:=Hid.mk han
   by_cases hla:a < N
   ·have hla':((a:Nat):Int) < ((N:Nat):Int):=by omega
    obtain ⟨cells,hrow,hcl,hat⟩:=hJ.out.one.row
    have hca:=hat a hla
    obtain ⟨hbl,hblk⟩:=hJ.out.one.own a hla
    have hcell:=tabA_at (w:=N) (s.m a) hlt
    simp only [byteV] at hcell
    have wa:=wrap_succ (n:=a) (by have:=hN2.out;omega)
    have hNa:N - a=(N - (a+1))+1:=by omega
    have hpu:pivot s.m j (N - a) a=if s.m a j≠0 then a else pivot s.m j (N - (a+1)) (a+1):=by rw [hNa];rfl
    replace hat:=Hid.mk hat
    replace hNa:=Hid.mk hNa
    by_cases hz:s.m a j=0
    ·have hz':(((s.m a j).toNat:Nat):Int)=0:=by rw [hz];rfl
     rw [if_neg (by simp [hz])] at hpu
     replace hpu:=Hid.mk hpu
     simp only [↓pre,simprocAttr,parV,sx,tys188,onceS,bne,postU,postA,storeE,put_at,push_at,postM,byteV,e0,e1,e5,e6,e7,e15,e16,hla',hla,hrow,hca,hlt,hblk,hcell,hz',wa,sr]
     exact ⟨q' - 1,by have:=hq'.out;omega,a+1,by have:=hq'.out;omega,by have:=han.out;omega,rfl,⟨by rw [hpv.out,hpu.out]⟩⟩
    ·have hz':¬ (((s.m a j).toNat:Nat):Int)=0:=by
      intro hh
      exact hz (UInt8.toNat_inj.1 (by simp;omega))
     rw [if_pos hz] at hpu
     replace hpu:=Hid.mk hpu
     simp only [↓pre,simprocAttr,parV,sx,tys188,onceS,bne,postU,postA,storeE,put_at,push_at,postM,byteV,e0,e1,e5,e6,e7,e15,e16,hla',hla,hrow,hca,hlt,hblk,hcell,hz',wa,sr]
     rw [hpv.out,hpu.out]
   ·have hla':¬ ((a:Nat):Int) < ((N:Nat):Int):=by omega
    have haN:a=N:=by have:=hq'.out;omega
    subst haN
    have hpu:pivot s.m j (a - a) a=a:=by rw [Nat.sub_self];rfl
    simp only [↓pre,simprocAttr,parV,sx,tys188,onceS,bne,postU,postA,storeE,put_at,push_at,postM,byteV,e0,e1,e5,e6,e7,e15,e16,hla',sr]
    rw [hpv.out,hpu]
 ·have hlt':¬ ((j:Nat):Int) < ((N:Nat):Int):=by omega
  have hjN:j=N:=by have:=hq.out;omega
  subst hjN
  simp only [↓pre,simprocAttr,parV,sx,tys188,onceS,bne,postU,postA,storeE,put_at,push_at,postM,byteV,e0,e1,e5,e15,e16,hlt',sr]
  have:=hse.out
  subst this
  exact ⟨β,γ,rfl,hJ.out⟩
theorem matrix_Inverse (v:AV) (n:Nat) (M:Mx) (cells:List AV) (hv:MatV v n n M cells) (hn:1≤n) (hn2:n≤32) (hM:nokern n M):FSpec Tryz.prog 171 [v] ⟨.tup [.tree n n (matA true n n (invM n M)) true,intV 0],[]⟩:=by
 refine fspec_fzT ?_
 have hp:=hv.rd.plain
 have hcl:n≤cells.length:=by
  obtain ⟨a,x,h,_⟩:=hv.at_ (n - 1) (by omega)
  have:=(List.getElem?_eq_some_iff.1 h).1
  omega
 have hck:=matrix_Check v n n M cells hv hn hn2 hn hn2
 have hone:=fun m=>matrix_One_o m n hn hn2
 have htw:=fun m=>matrix_twin m v n n M cells hv hn hn2 hn hn2 hcl
 have hso:=fun m b1 b2 g1 g2 f1 f2 β γ h=>matrix_solve m b1 b2 n g1 g2 f1 f2 β γ M idM hn hn2 h
 have hok:=(gsol_ok hM).1
 rw [hok] at hso
 obtain ⟨a0,x0,hc0,hr0⟩:=hv.at_ 0 (by omega)
 have hn0:0 < n:=by omega
 have hnn:¬ ((n:Nat):Int) < ((n:Nat):Int):=by omega
 have hme:Mem.empty.next=0:=rfl
 refine ospec_of_body follows Tryz.func171 (by unfold Tryz.f171;rfl) (by unfold Tryz.f171;simp) onceA (by unfold Tryz.f171;simp) (by kernel_rfl) ?_;unfold Tryz.f171
 simp only [↓pre,simprocAttr,parV,sx,tys171,onceA,postU,postA,sr]
 (first | refine call_plain (hck) (by first | rfl | simp only [parV,plQ, *]) ?_ | refine call_pure (hck) (by first | rfl | simp only [parV,plQ, *]) (by intro k;first | rfl | simp only [sq,sr, *]) ?_);simp only [↓pre,simprocAttr,parV,sx,tys171,onceA,postU,postA,hv.rd.len',hv.rd.addr',hn0,hc0,hr0.len',sr]
 refine call_open (hone _) ?_
 rintro r m1 ⟨β,rfl,h1,h2,h3,h4⟩
 simp only [↓pre,simprocAttr,parV,sx,tys171,onceA,postU,postA,hv.rd.len',sr]
 refine call_open (htw m1) ?_
 rintro r m2 ⟨γ,rfl,g1,g2,g3,g4⟩
 have hlt1:=h1.lt
 have hT:TwoM m2 m1.next Mem.empty.next n false true γ β M idM:=by
  refine ⟨g1,h1.keep (Nat.le_of_lt (Nat.lt_of_lt_of_le (Nat.lt_succ_self _) (by have:=g1.lt;omega))) fun j k hj hlt _=>g3 j k hj hlt,by omega,fun i j hi hj => ?_⟩
  have e1:=g2 i hi
  have e2:=(h1.own j hj).1
  omega
 simp only [↓pre,simprocAttr,parV,sx,tys171,onceA,postU,postA,hv.rd.len',sr]
 refine call_open (hso m2 _ _ _ _ _ _ _ _ hT) ?_
 rintro r m3 ⟨β',γ',rfl,q1⟩
 simp only [↓pre,simprocAttr,parV,sx,tys171,onceA,postU,postA,hv.rd.len',hnn,sr]
 exact ⟨1,by rw [fzT_tup,fzTs_cons,q1.two.fzT,Option.bind_some,fzTs_cons,fzT_val,fzTs_nil];rfl⟩
theorem kernel_alike (v:AV) (L:List (List UInt8)) (cells:List AV) (n:Nat) (hv:RowsV v L cells) (hl:∀ b∈L,b.length=n) (hn:n≤65536) (hL:L.length≤65536):FSpec Tryz.prog 190 [v] ⟨boolV true,[]⟩:=by
 have hp:=hv.rd.plain
 have k2:¬ (65536:Int) < ((n:Nat):Int):=by omega
 replace hl:=Hid.mk hl
 refine fspec_of_body follows Tryz.func190 (by unfold Tryz.f190;rfl) (by unfold Tryz.f190;simp) onceA (by unfold Tryz.f190;simp) (by kernel_rfl) ?_;unfold Tryz.f190
 simp only [↓pre,simprocAttr,parV,sx,tys190,onceA,postU,postA,hv.rd.len',sr]
 rw [codeW_loop]
 refine loop_intro (fun q e m=>∃ i,q+i=L.length∧e 0=v∧e 5=v∧e 6=intV (L.length:Nat)∧e 7=intV (i:Nat)) L.length ⟨0,by omega,rfl,rfl,rfl,rfl⟩ ?_
 rintro q e m ⟨i,hq,e0,e5,e6,e7⟩
 replace hq:=Hid.mk hq
 by_cases hlt:i < L.length
 ·have hlt':((i:Nat):Int) < ((L.length:Nat):Int):=by omega
  have w1:=wrap_succ (n:=i) (by omega)
  obtain ⟨b,hb⟩:∃ b,L[i]? = some b:=⟨_,List.getElem?_eq_getElem hlt⟩
  obtain ⟨b0,hb0⟩:∃ b,L[0]? = some b:=⟨_,List.getElem?_eq_getElem (by omega)⟩
  have h0:0 < L.length:=by omega
  obtain ⟨a,x,hc,hr⟩:=hv.at_ i b hb
  obtain ⟨a0,x0,hc0,hr0⟩:=hv.at_ 0 b0 hb0
  have e1:=hl.out b (List.mem_of_getElem? hb)
  have e2:=hl.out b0 (List.mem_of_getElem? hb0)
  rw [e1] at hr
  rw [e2] at hr0
  replace hb:=Hid.mk hb
  replace hb0:=Hid.mk hb0
  simp only [↓pre,simprocAttr,parV,sx,tys190,onceA,postU,postA,e0,e5,e6,e7,hv.rd.addr',hlt,hlt',hc,hr.len',h0,hc0,hr0.len',k2,w1,sr]
  exact ⟨q - 1,by have:=hq.out;omega,i+1,by have:=hq.out;omega,rfl⟩
 ·have hlt':¬ ((i:Nat):Int) < ((L.length:Nat):Int):=by omega
  simp only [↓pre,simprocAttr,parV,sx,tys190,onceA,postU,postA,e0,e5,e6,e7,hlt',sr]
theorem push_put {m:Mem} {x:Blk} {y:Option Blk} {b:Blk} (h:y=some b):(m.push x).put m.next y=m.push b:=by
 subst h
 obtain ⟨n,a,mm⟩:=m
 unfold Mem.put Mem.push
 congr 1
 funext j
 simp only
 split <;> rfl
def onceKa:Nat→Bool:=fun d=>d != 6 && d != 29 && d != 35
theorem zero_times:zeroE Tryz.prog 262=some ((List.range 256).map fun _ => .int .u8 0):=by kernel_rfl
theorem kernel_add (m0:Mem) (b n:Nat) (f:Bool) (A B:Nat→UInt8) (c:UInt8) (vb:AV) (x:List AV) (hr:RdSl vb n (tabA n B++x)) (hn:n≤65536) (hb:m0.at_ b=some ⟨tabA n A,5,.flat,true⟩) (hbn:b < m0.next):OSpec Tryz.prog 191 [.sl b 0 n n f,byteV c,vb] m0 fun r m'=>r = .tup []∧m'=(m0.push ⟨tabA 256 (fun i=>mulU c (UInt8.ofNat i)),262,.var,true⟩).put b (some ⟨tabA n (fun j=>A j ^^^ mulU c (B j)),5,.flat,true⟩):=by
 have hm:=gf_Mul c
 have ha:=gf_Add
 have hz:=zero_times
 have hp:=hr.plain
 simp only [byteV] at hm ha
 refine ospec_of_body follows Tryz.func191 (by unfold Tryz.f191;rfl) (by unfold Tryz.f191;simp) onceKa (by unfold Tryz.f191;simp) (by kernel_rfl) ?_;unfold Tryz.f191
 simp only [↓pre,simprocAttr,parV,sx,tys191,onceKa,bne,postU,postA,postV,storeE,allocE,put_at,push_at,postM,byteV,hz,sr]
 have hz2:List.map AV.val ((List.range 256).map fun _=>Value.int .u8 0)=tabA 256 fun _=>0:=by
  unfold tabA tab
  rw [List.map_map,List.map_map]
  rfl
 rw [hz2]
 rw [codeW_loop]
 refine loop_intro (fun q e m=>∃ i,q+i=256∧e 0 = .sl b 0 n n f∧e 1=byteV c∧e 2=vb∧e 6 = .ptr m0.next 0∧e 9=intV (i:Nat)∧m=m0.push ⟨tabA 256 (fun j=>if j < i then mulU c (UInt8.ofNat j) else 0),262,.var,true⟩) 256 ⟨0,by omega,rfl,rfl,rfl,rfl,rfl,rfl⟩ ?_
 rintro q e m ⟨i,hq,e0,e1,e2,e6,e9,rfl⟩
 replace hq:=Hid.mk hq
 by_cases hlt:i < 256
 ·have hlt':((i:Nat):Int) < 256:=by omega
  have w1:=wrap_succ (n:=i) (by omega)
  have w2:=u8_nat hlt
  have hmi:=hm (UInt8.ofNat i)
  have hput:=tabA_put (w:=256) (f:=fun j=>if j < i then mulU c (UInt8.ofNat j) else 0) (g:=fun j=>if j < i+1 then mulU c (UInt8.ofNat j) else 0) hlt fun j hj=>by
   by_cases e:j=i
   ·subst e;rw [if_pos rfl]
   ·rw [if_neg e]
    by_cases e2:j < i
    ·rw [if_pos e2,if_pos (by omega)]
    ·rw [if_neg e2,if_neg (by omega)]
  simp only [show i < i+1 by omega,if_true] at hput
  unfold splice at hput
  simp only [List.length_cons,List.length_nil,Nat.zero_add,byteV] at hput
  have hl1:i+1≤(tabA 256 fun j=>if j < i then mulU c (UInt8.ofNat j) else 0).length:=by rw [tabA_len];omega
  simp only [↓pre,simprocAttr,parV,sx,tys191,onceKa,bne,postU,postA,postV,storeE,allocE,put_at,push_at,postM,byteV,e0,e1,e2,e6,e9,hlt',w2,sr]
  (first | refine call_plain (hmi) (by first | rfl | simp only [parV,plQ, *]) ?_ | refine call_pure (hmi) (by first | rfl | simp only [parV,plQ, *]) (by intro k;first | rfl | simp only [sq,sr, *]) ?_);simp only [↓pre,simprocAttr,parV,sx,tys191,onceKa,bne,postU,postA,postV,storeE,allocE,put_at,push_at,postM,byteV,e0,e1,e2,e6,e9,hlt,hl1,hput,push_put rfl,w1,sr]
  exact ⟨q - 1,by have:=hq.out;omega,i+1,by have:=hq.out;omega,rfl,rfl⟩
 ·have hlt':¬ ((i:Nat):Int) < 256:=by omega
  have hi:i=256:=by have:=hq.out;omega
  subst hi
  have hT:tabA 256 (fun j=>if j < 256 then mulU c (UInt8.ofNat j) else 0)=tabA 256 fun i=>mulU c (UInt8.ofNat i):=tabA_congr fun j hj=>by rw [if_pos hj]
  rw [hT]
  generalize hTT:(tabA 256 fun i=>mulU c (UInt8.ofNat i))=T
  have hTat:∀ z:UInt8,T[z.toNat]? = some (.val (.int .u8 (mulU c z).toNat)):=fun z=>by
   rw [←hTT,tabA_at (w:=256) (fun i=>mulU c (UInt8.ofNat i)) z.toNat_lt,UInt8.ofNat_toNat]
   rfl
  have hTl:∀ z:UInt8,z.toNat < 256:=fun z=>z.toNat_lt
  simp only [↓pre,simprocAttr,parV,sx,tys191,onceKa,bne,postU,postA,postV,storeE,allocE,put_at,push_at,postM,byteV,e0,e1,e2,e6,e9,hlt',sr]
  rw [codeW_loop]
  refine loop_intro (fun q e m=>∃ j,q+j=n∧e 0 = .sl b 0 n n f∧e 1=byteV c∧e 2=vb∧e 6 = .ptr m0.next 0∧e 20=intV (n:Nat)∧e 21=intV (j:Nat)∧Hid (m=(m0.push ⟨T,262,.var,true⟩).put b (some ⟨tabA n (fun j'=>if j' < j then A j' ^^^ mulU c (B j') else A j'),5,.flat,true⟩))) n ⟨0,by omega,e0,e1,e2,e6,rfl,rfl,⟨?_⟩⟩ ?_
  ·have:tabA n (fun j'=>if j' < 0 then A j' ^^^ mulU c (B j') else A j')=tabA n A:=tabA_congr fun j _=>by rw [if_neg (by omega)]
   rw [this,put_same]
   rw [push_at,if_neg (by omega)]
   exact hb
  rintro q e m ⟨j,hq,e0,e1,e2,e6,e20,e21,hJ⟩
  replace hq:=Hid.mk hq
  by_cases hlt:j < n
  ·have hlt':((j:Nat):Int) < ((n:Nat):Int):=by omega
   have w1:=wrap_succ (n:=j) (by omega)
   have hat:m.at_ b=some ⟨tabA n (fun j'=>if j' < j then A j' ^^^ mulU c (B j') else A j'),5,.flat,true⟩:=by rw [hJ.out,put_at,if_pos rfl]
   have hat':m.at_ m0.next=some ⟨T,262,.var,true⟩:=by rw [hJ.out,put_at,if_neg (by omega),push_at,if_pos rfl]
   have hcell:=tabA_at (w:=n) (fun j'=>if j' < j then A j' ^^^ mulU c (B j') else A j') hlt
   have hcellB:(tabA n B++x)[j]? = some (byteV (B j)):=by rw [List.getElem?_append_left (by rw [tabA_len];omega)];exact tabA_at B hlt
   simp only [Nat.lt_irrefl,if_false,byteV] at hcell hcellB
   have hput:=tabA_put (w:=n) (f:=fun j'=>if j' < j then A j' ^^^ mulU c (B j') else A j') (g:=fun j'=>if j' < j+1 then A j' ^^^ mulU c (B j') else A j') hlt fun j' hj'=>by
    by_cases e:j'=j
    ·subst e;rw [if_pos rfl]
    ·rw [if_neg e]
     by_cases e2:j' < j
     ·rw [if_pos e2,if_pos (by omega)]
     ·rw [if_neg e2,if_neg (by omega)]
   simp only [show j < j+1 by omega,if_true] at hput
   unfold splice at hput
   simp only [List.length_cons,List.length_nil,Nat.zero_add,byteV] at hput
   have hl1:j+1≤(tabA n fun j'=>if j' < j then A j' ^^^ mulU c (B j') else A j').length:=by rw [tabA_len];omega
   have haj:=ha (A j) (mulU c (B j))
   have hTj:=hTat (B j)
   have hTl':=hTl (B j)
   simp only [↓pre,simprocAttr,parV,sx,tys191,onceKa,bne,postU,postA,postV,storeE,allocE,put_at,push_at,postM,byteV,e0,e1,e2,e6,e20,e21,hlt',hlt,hat,hat',hcell,hcellB,hr.addr',hTj,hTl',sr]
   (first | refine call_plain (haj) (by first | rfl | simp only [parV,plQ, *]) ?_ | refine call_pure (haj) (by first | rfl | simp only [parV,plQ, *]) (by intro k;first | rfl | simp only [sq,sr, *]) ?_);simp only [↓pre,simprocAttr,parV,sx,tys191,onceKa,bne,postU,postA,postV,storeE,allocE,put_at,push_at,postM,byteV,e0,e1,e2,e6,e20,e21,hlt,hat,hat',hcell,hl1,hput,sr]
   refine contW_fixed (by kernel_rfl) ?_
   simp only [↓pre,simprocAttr,parV,sx,tys191,onceKa,bne,postU,postA,postV,storeE,allocE,put_at,push_at,postM,byteV,e0,e1,e2,e6,e20,e21,w1,sr]
   refine ⟨q - 1,by have:=hq.out;omega,j+1,by have:=hq.out;omega,rfl,⟨?_⟩⟩
   rw [hJ.out,put_put]
  ·have hlt':¬ ((j:Nat):Int) < ((n:Nat):Int):=by omega
   have hj:j=n:=by have:=hq.out;omega
   subst hj
   have hfin:=hJ.out
   have e0':tabA j (fun j'=>if j' < j then A j' ^^^ mulU c (B j') else A j')=tabA j fun j'=>A j' ^^^ mulU c (B j'):=tabA_congr fun x hx=>by rw [if_pos hx]
   rw [e0'] at hfin
   subst hfin
   simp only [↓pre,simprocAttr,parV,sx,tys191,onceKa,bne,postU,postA,postV,storeE,allocE,put_at,push_at,postM,byteV,e0,e1,e2,e6,e20,e21,hlt',sr]
def dotF (N:Nat) (c:Nat→UInt8) (M:Mx):Nat→UInt8:=fun p=>sumU N fun q=>mulU (c q) (M q p)
def onceDo:Nat→Bool:=fun d=>d != 45
theorem kernel_Dot_o (vc vl:AV) (N n:Nat) (c:Nat→UInt8) (M:Mx) (x:List AV) (cells:List AV) (hc:RdSl vc N (tabA N c++x)) (hv:MatV vl N n M cells) (hN:1≤N) (hN2:N≤16) (hn:n≤65536):OSpec Tryz.prog 172 [vc,vl] Mem.empty fun r m=>r = .tup [.sl 0 0 n n true,intV 0]∧m.at_ 0=some ⟨tabA n (dotF N c M),5,.flat,true⟩:=by
 have hp:=hv.rd.plain
 have hpc:=hc.plain
 have hlen:((List.range N).map fun i=>tab n (M i)).length=N:=by simp
 have hal:=kernel_alike vl _ cells n hv.rows (fun b hb=>by
  obtain ⟨i,_,rfl⟩:=List.mem_map.1 hb
  exact tab_len _ _) hn (by rw [hlen];omega)
 have k1:¬ (16:Int) < ((N:Nat):Int):=by omega
 have k2:¬ ((N:Nat):Int)=0:=by omega
 have hN0:0 < N:=by omega
 obtain ⟨a0,x0,hc0,hr0⟩:=hv.at_ 0 hN0
 have hmk:=fun m=>make_bytes m (n:=n) hn
 have hme:Mem.empty.next=0:=rfl
 refine ospec_of_body follows Tryz.func172 (by unfold Tryz.f172;rfl) (by unfold Tryz.f172;simp) onceDo (by unfold Tryz.f172;simp) (by kernel_rfl) ?_;unfold Tryz.f172
 simp only [↓pre,simprocAttr,parV,sx,tys172,onceDo,bne,postU,postA,byteV,hv.rd.len',hc.len',k1,sr]
 (first | refine call_plain (hal) (by first | rfl | simp only [parV,plQ, *]) ?_ | refine call_pure (hal) (by first | rfl | simp only [parV,plQ, *]) (by intro k;first | rfl | simp only [sq,sr, *]) ?_);simp only [↓pre,simprocAttr,parV,sx,tys172,onceDo,bne,postU,postA,byteV,hv.rd.len',hv.rd.addr',hN0,hc0,hr0.len',k2,hmk,hme,sr]
 rw [codeW_loop]
 refine loop_intro (fun q e m=>∃ i,q+i=N∧e 0=vc∧e 1=vl∧e 6 = .sl 0 0 n n true∧e 32=intV (N:Nat)∧e 33=intV (i:Nat)∧Hid (m.at_ 0=some ⟨tabA n (dotF i c M),5,.flat,true⟩∧0 < m.next)) N ⟨0,by omega,rfl,rfl,rfl,rfl,rfl,⟨rfl,by simp [push_next]⟩⟩ ?_
 rintro q e m ⟨i,hq,e0,e1,e6,e32,e33,hJ⟩
 replace hq:=Hid.mk hq
 by_cases hlt:i < N
 ·have hlt':((i:Nat):Int) < ((N:Nat):Int):=by omega
  have w1:=wrap_succ (n:=i) (by omega)
  obtain ⟨a,y,hca,hra⟩:=hv.at_ i hlt
  have hcc:(tabA N c++x)[i]? = some (byteV (c i)):=by rw [List.getElem?_append_left (by rw [tabA_len];omega)];exact tabA_at c hlt
  have hadd:=kernel_add m 0 n true (dotF i c M) (M i) (c i) a y hra hn hJ.out.1 hJ.out.2
  simp only [byteV] at hadd hcc
  simp only [↓pre,simprocAttr,parV,sx,tys172,onceDo,bne,postU,postA,byteV,e0,e1,e6,e32,e33,hlt',hc.addr',hv.rd.addr',hlt,hca,hcc,sr]
  refine call_det hadd ?_
  refine contW_fixed (by kernel_rfl) ?_
  simp only [↓pre,simprocAttr,parV,sx,tys172,onceDo,bne,postU,postA,byteV,e0,e1,e6,e32,e33,w1,sr]
  exact ⟨q - 1,by have:=hq.out;omega,i+1,by have:=hq.out;omega,rfl,⟨rfl,Nat.succ_pos _⟩⟩
 ·have hlt':¬ ((i:Nat):Int) < ((N:Nat):Int):=by omega
  have hi:i=N:=by have:=hq.out;omega
  subst hi
  simp only [↓pre,simprocAttr,parV,sx,tys172,onceDo,bne,postU,postA,byteV,e0,e1,e6,e32,e33,hlt',sr]
  exact hJ.out.1
theorem kernel_Dot_own (vc vl:AV) (N n:Nat) (c:Nat→UInt8) (M:Mx) (x:List AV) (cells:List AV) (hc:RdSl vc N (tabA N c++x)) (hv:MatV vl N n M cells) (hN:1≤N) (hN2:N≤16) (hn:n≤65536):FSpec Tryz.prog 172 [vc,vl] ⟨.tup [.sl 0 0 n n true,intV 0],[(5,tabA n (dotF N c M))]⟩:=by
 refine fspec_canon (ospec_mono (kernel_Dot_o vc vl N n c M x cells hc hv hN hN2 hn) ?_)
 rintro r m ⟨rfl,h⟩
 have k5:kindT Tryz.prog 5 = .flat:=by kernel_rfl
 simp [canonR,canon,canons,intV,h,k5]
def keyV (k r i:Int):Value := .agg #[.int .i64 k,.int .i64 r,.int .i64 i]
theorem key_eq (k r i i':Int):pureR Tryz.prog (Op.equal 237 (keyV k r i) (keyV k r i'))=some (decide (i=i')):=by
 refine eq_struct (by kernel_rfl) (by kernel_rfl) ?_
 have h:eqF Tryz.prog #[.int .i64 k,.int .i64 r,.int .i64 i] #[.int .i64 k,.int .i64 r,.int .i64 i'] (fieldsP Tryz.prog 237)=if k=k then (if r=r then (if i=i' then some true else some false) else some false) else some false:=by kernel_rfl
 rw [h,if_pos rfl,if_pos rfl]
 by_cases hi:i=i' <;> simp [hi]
theorem key_chk (k r i:Int):chkSB Tryz.prog 237 (keyV k r i)=true:=by kernel_rfl
theorem map_code:mapS Tryz.prog 232=some (237,nilS):=by kernel_rfl
def entC (k r n:Nat):List (Value×AV):=(List.range n).map fun i=>(keyV (k:Nat) (r:Nat) (i:Nat),.tree k k (tabA k (codeR k i)) true)
theorem entC_succ (k r n:Nat):entC k r (n+1)=entC k r n++[(keyV (k:Nat) (r:Nat) (n:Nat),.tree k k (tabA k (codeR k n)) true)]:=by
 unfold entC
 rw [List.range_succ,List.map_append]
 rfl
theorem find_gen (k r:Nat) (i:Int) (j0:Nat):∀ (n:Nat),findS Tryz.prog 237 (keyV (k:Nat) (r:Nat) i) ((List.range' j0 n).map fun (i:Nat)=>(keyV (k:Nat) (r:Nat) (i:Nat),(.tree k k (tabA k (codeR k i)) true:AV)))=some (if (j0:Int)≤i∧i < (j0+n:Nat) then some (i.toNat - j0) else none)
 | 0=>by rw [if_neg (by omega)];rfl
 | n+1=>by
  rw [List.range'_succ,List.map_cons,findS,key_eq]
  by_cases h:i=(j0:Nat)
  ·rw [decide_eq_true h,if_pos (by omega)]
   have:i.toNat - j0=0:=by omega
   rw [this]
  ·rw [decide_eq_false h,find_gen k r i (j0+1) n]
   by_cases h2:(j0:Int)≤i∧i < (j0+(n+1):Nat)
   ·rw [if_pos h2,if_pos (by omega)]
    simp only [Option.map_some]
    congr 2;omega
   ·rw [if_neg h2,if_neg (by omega)]
    rfl
 termination_by n=>n
theorem find_code (k r:Nat) (i:Int) (n:Nat):findS Tryz.prog 237 (keyV (k:Nat) (r:Nat) i) (entC k r n)=some (if 0≤i∧i < (n:Nat) then some i.toNat else none):=by
 have:=find_gen k r i 0 n
 unfold entC
 rw [List.range_eq_range']
 simpa using this
def CodeM (m:Mem) (g k r n:Nat):Prop:=m.mm.maps g=some (entC k r n)
theorem look_code {m:Mem} {g k r n i:Nat} (h:CodeM m g k r n) (hi:i < n):lookX Tryz.prog m 232 (.val (.map (some g))) (.agg [intV (k:Nat),intV (r:Nat),intV (i:Nat)])=some (.tree k k (tabA k (codeR k i)) true):=by
 unfold CodeM at h
 rw [lookX_s (by rw [map_code];rfl)]
 have hk:toVal (.agg [intV (k:Nat),intV (r:Nat),intV (i:Nat)])=some (keyV (k:Nat) (r:Nat) (i:Nat)):=rfl
 have hf:=find_code k r (i:Nat) n
 rw [if_pos (by omega)] at hf
 have he:(entC k r n)[i]? = some (keyV (k:Nat) (r:Nat) (i:Nat),.tree k k (tabA k (codeR k i)) true):=by
  unfold entC
  rw [List.getElem?_map,List.getElem?_range hi]
  rfl
 simp only [lookS,map_code,mapAt,h,hk,Option.bind_some,Option.map_some,key_chk,if_true,hf,Int.toNat_natCast,he]
theorem upd_code {m:Mem} {g k r n:Nat} (h:CodeM m g k r n):updX Tryz.prog m 232 (.val (.map (some g))) (.agg [intV (k:Nat),intV (r:Nat),intV (n:Nat)]) (.tree k k (tabA k (codeR k n)) true)=some ⟨undefA,m.setM (m.mm.set g (entC k r (n+1))),none⟩:=by
 unfold CodeM at h
 rw [updX_s (by rw [map_code];rfl)]
 have hk:toVal (.agg [intV (k:Nat),intV (r:Nat),intV (n:Nat)])=some (keyV (k:Nat) (r:Nat) (n:Nat)):=rfl
 have hf:=find_code k r (n:Nat) n
 rw [if_neg (by omega)] at hf
 simp only [updS,map_code,mapAt,h,hk,Option.bind_some,Option.map_some,key_chk,if_true,hf,entC_succ]
 rfl
theorem set_code {m:Mem} {g k r n:Nat}:CodeM (m.setM (m.mm.set g (entC k r n))) g k r n:=by
 unfold CodeM
 simp [Mem.setM,Maps.set]
theorem codec_made (m0:Mem) (k r:Nat) (hk:1≤k) (hk2:k≤12) (hr:r≤4):OSpec Tryz.prog 169 [intV (k:Nat),intV (r:Nat)] m0 fun res m'=>∃ g mm,res = .val (.map (some g))∧m'=m0.setM mm∧CodeM m' g k r (k+r):=by
 have k1:¬ ((k:Nat):Int) < 1:=by omega
 have k2:¬ (12:Int) < ((k:Nat):Int):=by omega
 have k3:¬ ((r:Nat):Int) < 0:=by omega
 have k4:¬ (4:Int) < ((r:Nat):Int):=by omega
 have hone:=matrix_One k hk (by omega)
 have hV:=(matA_V true true k k idM).rd
 refine ospec_of_body follows Tryz.func169 (by unfold Tryz.f169;rfl) (by unfold Tryz.f169;simp) onceA (by unfold Tryz.f169;simp) (by kernel_rfl) ?_;unfold Tryz.f169
 simp only [↓pre,simprocAttr,parV,sx,tys169,onceA,postU,postA,k1,k2,k3,k4,sr]
 intro g hg
 simp only [↓pre,simprocAttr,parV,sx,tys169,onceA,postU,postA,sr]
 (first | refine call_plain (hone) (by first | rfl | simp only [parV,plQ, *]) ?_ | refine call_pure (hone) (by first | rfl | simp only [parV,plQ, *]) (by intro k;first | rfl | simp only [sq,sr, *]) ?_);simp only [↓pre,simprocAttr,parV,sx,tys169,onceA,postU,postA,hV.len',sr]
 rw [codeW_loop]
 refine loop_intro (fun q e m=>∃ i mm,q+i=k∧e 0=intV (k:Nat)∧e 1=intV (r:Nat)∧e 5 = .val (.map (some g))∧e 34 = .tree k k (matA true k k idM) true∧e 35=intV (k:Nat)∧e 36=intV (i:Nat)∧m=m0.setM mm∧CodeM m g k r i) k ⟨0,_,by omega,rfl,rfl,rfl,rfl,rfl,rfl,rfl,by simp [CodeM,Mem.setM,Maps.add,entC]⟩ ?_
 rintro q e m ⟨i,mm,hq,e0,e1,e5,e34,e35,e36,rfl,hC⟩
 replace hq:=Hid.mk hq
 by_cases hlt:i < k
 ·have hlt':((i:Nat):Int) < ((k:Nat):Int):=by omega
  have w1:=wrap_succ (n:=i) (by omega)
  have hca:=matA_at true (w:=k) idM hlt
  have hT:tabA k (idM i)=tabA k (codeR k i):=tabA_congr fun j hj=>by unfold idM codeR;rw [if_pos hlt]
  rw [hT] at hca
  have hu:=upd_code hC
  simp only [intV] at hu
  simp only [↓pre,simprocAttr,parV,sx,tys169,onceA,postU,postA,e0,e1,e5,e34,e35,e36,hlt',hV.addr',hlt,hca,hu,w1,sr]
  exact ⟨q - 1,by have:=hq.out;omega,i+1,_,by have:=hq.out;omega,rfl,rfl,set_code⟩
 ·have hlt':¬ ((i:Nat):Int) < ((k:Nat):Int):=by omega
  have hi:i=k:=by have:=hq.out;omega
  subst hi
  by_cases hr0:r=0
  ·have hr0':¬ (0:Int) < ((r:Nat):Int):=by omega
   simp only [↓pre,simprocAttr,parV,sx,tys169,onceA,postU,postA,e0,e1,e5,e34,e35,e36,hlt',hr0',sr]
   subst hr0
   exact ⟨g,mm,rfl,rfl,hC⟩
  ·have hr0':(0:Int) < ((r:Nat):Int):=by omega
   have hcau:=matrix_Cauchy i r hk hk2 (by omega) hr
   have hVc:=(matA_V true true r i (cauM i)).rd
   simp only [↓pre,simprocAttr,parV,sx,tys169,onceA,postU,postA,e0,e1,e5,e34,e35,e36,hlt',hr0',sr]
   (first | refine call_plain (hcau) (by first | rfl | simp only [parV,plQ, *]) ?_ | refine call_pure (hcau) (by first | rfl | simp only [parV,plQ, *]) (by intro k;first | rfl | simp only [sq,sr, *]) ?_);simp only [↓pre,simprocAttr,parV,sx,tys169,onceA,postU,postA,e0,e1,e5,hVc.len',sr]
   rw [codeW_loop]
   refine loop_intro (fun q e m=>∃ j mm,q+j=r∧e 0=intV (i:Nat)∧e 1=intV (r:Nat)∧e 5 = .val (.map (some g))∧e 56 = .tree r r (matA true r i (cauM i)) true∧e 57=intV (r:Nat)∧e 58=intV (j:Nat)∧m=m0.setM mm∧CodeM m g i r (i+j)) r ⟨0,mm,by omega,e0,e1,e5,rfl,rfl,rfl,rfl,hC⟩ ?_
   rintro q2 e m ⟨j,mm,hq2,e0,e1,e5,e56,e57,e58,rfl,hC⟩
   replace hq2:=Hid.mk hq2
   by_cases hlt2:j < r
   ·have hlt2':((j:Nat):Int) < ((r:Nat):Int):=by omega
    have w1:=wrap_succ (n:=j) (by omega)
    have w2:IntKind.i64.wrap (((i:Nat):Int)+((j:Nat):Int))=((i+j:Nat):Int):=by rw [←Int.natCast_add];exact wrap_nat (by omega)
    have hca:=matA_at true (w:=i) (cauM i) hlt2
    have hT:tabA i (cauM i j)=tabA i (codeR i (i+j)):=rfl
    rw [hT] at hca
    have hu:=upd_code hC
    simp only [intV] at hu
    simp only [↓pre,simprocAttr,parV,sx,tys169,onceA,postU,postA,e0,e1,e5,e56,e57,e58,hlt2',hVc.addr',hlt2,hca,w2,hu,w1,sr]
    exact ⟨q2 - 1,by have:=hq2.out;omega,j+1,_,by have:=hq2.out;omega,rfl,rfl,set_code⟩
   ·have hlt2':¬ ((j:Nat):Int) < ((r:Nat):Int):=by omega
    have hj:j=r:=by have:=hq2.out;omega
    subst hj
    simp only [↓pre,simprocAttr,parV,sx,tys169,onceA,postU,postA,e0,e1,e5,e56,e57,e58,hlt2',sr]
    exact ⟨g,mm,rfl,rfl,hC⟩
theorem own_fzT {m:Mem} {el:TypeId} {sz n:Nat} {v:AV} {cells:List AV} (h:Own m el sz v n cells) (k:Nat):fzT k m v=some (treeR n cells):=by
 rcases h.form with ⟨rfl,rfl,rfl⟩ | ⟨b,rfl,hb,hlt,hn⟩
 ·unfold nilS treeR;rw [fzT_val];rfl
 ·rw [fzT_flat hb,List.drop_zero]
  unfold treeR
  rw [if_neg (by omega)]
def fzId (c:AV):Prop:=∀ (k:Nat) (m:Mem),fzT k m c=some c
theorem fzId_tree (n c:Nat) (cs:List AV) (f:Bool):fzId (.tree n c cs f):=fun k m=>fzT_tree
theorem fzId_val (v:Value):fzId (.val v):=fun k m=>fzT_val
theorem fzId_rd {v:AV} {n:Nat} {cs:List AV} (h:RdSl v n cs):fzId v:=fun k m=>fzT_rd h
theorem fzTs_id {k:Nat} {m:Mem}:∀ (cs:List AV),(∀ c∈cs,fzId c)→fzTs k m cs=some cs
 | [],_=>fzTs_nil
 | c::cs,h=>by
  rw [fzTs_cons,h c (by simp) k m,Option.bind_some,fzTs_id cs fun x hx=>h x (by simp [hx])]
  rfl
theorem own_fzTv {m:Mem} {el:TypeId} {sz n:Nat} {v:AV} {cells:List AV} (h:OwnK .var m el sz v n cells) (hc:∀ c∈cells,fzId c) (k:Nat):fzT (k+1) m v=some (treeR n cells):=by
 rcases h.form with ⟨rfl,rfl,rfl⟩ | ⟨b,rfl,hb,hlt,hn⟩
 ·unfold nilS treeR;rw [fzT_val];rfl
 ·rw [fzT_var hb (fzTs_id _ (by rw [List.drop_zero];exact hc)),List.drop_zero]
  unfold treeR
  rw [if_neg (by omega)]
def thereN (C:List (List UInt8)) (n:Nat):List Nat:=(List.range n).filter fun i=>decide ((C.getD i []).length≠0)
theorem thereN_succ (C:List (List UInt8)) (n:Nat):thereN C (n+1)=thereN C n++(if (C.getD n []).length≠0 then [n] else []):=by
 unfold thereN
 rw [List.range_succ,List.filter_append]
 congr 1
 by_cases h:(C.getD n []).length≠0 <;> simp [List.filter_cons,h]
theorem thereN_le (C:List (List UInt8)) (n:Nat):(thereN C n).length≤n:=by
 unfold thereN
 have:=List.length_filter_le (fun i=>decide ((C.getD i []).length≠0)) (List.range n)
 rw [List.length_range] at this
 exact this
theorem thereN_mem {C:List (List UInt8)} {n i:Nat} (h:i∈thereN C n):i < n∧(C.getD i []).length≠0:=by
 unfold thereN at h
 rw [List.mem_filter,List.mem_range] at h
 exact ⟨h.1,by simpa using h.2⟩
theorem thereN_nodup (C:List (List UInt8)) (n:Nat):(thereN C n).Nodup:=List.nodup_range.filter _
def natsA (l:List Nat):List AV:=l.map fun (i:Nat)=>intV i
theorem natsA_append (a b:List Nat):natsA (a++b)=natsA a++natsA b:=by simp [natsA]
theorem natsA_at {l:List Nat} {i n:Nat} (h:l[i]? = some n):(natsA l)[i]? = some (.val (.int .i64 n)):=by
 unfold natsA
 rw [List.getElem?_map,h]
 rfl
theorem getD_at {C:List (List UInt8)} {i:Nat} {b:List UInt8} (h:C[i]? = some b):C.getD i []=b:=by rw [List.getD_eq_getElem?_getD,h];rfl
def alikeC (C:List (List UInt8)) (L:Nat):Prop:=∀ b∈C,b.length=0∨b.length=L
theorem codec_thereR (v:AV) (C:List (List UInt8)) (cells:List AV) (L:Nat) (hv:RowsV v C cells) (hC:alikeC C L) (hL:L≤65536) (hn:C.length≤1000):FSpec Tryz.prog 170 [v,intV (C.length:Nat)] ⟨.tup [(ownR 3 (thereN C C.length).length (natsA (thereN C C.length))).v,boolV true],(ownR 3 (thereN C C.length).length (natsA (thereN C C.length))).rows⟩:=by
 have hp:=hv.rd.plain
 replace hC:=Hid.mk hC
 refine fspec_of_body follows Tryz.func170 (by unfold Tryz.f170;rfl) (by unfold Tryz.f170;simp) onceA (by unfold Tryz.f170;simp) (by kernel_rfl) ?_;unfold Tryz.f170
 simp only [↓pre,simprocAttr,parV,sx,tys170,onceA,postU,postA,postV,hv.rd.len',sr]
 rw [codeW_loop]
 refine loop_intro (fun q e m=>∃ i lv,q+i=C.length∧e 0=v∧e 6=lv∧e 13=v∧e 14=intV (C.length:Nat)∧e 15=intV (i:Nat)∧Hid (Own m 3 1 lv (thereN C i).length (natsA (thereN C i)))) C.length ⟨0,nilS,by omega,rfl,rfl,rfl,rfl,rfl,⟨own_nil⟩⟩ ?_
 rintro q e m ⟨i,lv,hq,e0,e6,e13,e14,e15,hJ⟩
 replace hq:=Hid.mk hq
 by_cases hlt:i < C.length
 ·have hlt':((i:Nat):Int) < ((C.length:Nat):Int):=by omega
  have w1:=wrap_succ (n:=i) (by omega)
  obtain ⟨b,hb⟩:∃ b,C[i]? = some b:=⟨_,List.getElem?_eq_getElem hlt⟩
  obtain ⟨a,x,hc,hr⟩:=hv.at_ i b hb
  have hbL:=hC.out b (List.mem_of_getElem? hb)
  have hts:=thereN_succ C i
  rw [getD_at hb] at hts
  have htl:=thereN_le C i
  replace hb:=Hid.mk hb
  by_cases h0:b.length=0
  ·have h0':((b.length:Nat):Int)=0:=by omega
   rw [if_neg (by omega),List.append_nil] at hts
   replace hts:=Hid.mk hts
   simp only [↓pre,simprocAttr,parV,sx,tys170,onceA,postU,postA,postV,e0,e6,e13,e14,e15,hlt',hv.rd.addr',hlt,hc,hr.len',h0',w1,sr]
   exact ⟨q - 1,by have:=hq.out;omega,i+1,lv,by have:=hq.out;omega,rfl,rfl,by rw [hts.out];exact hJ⟩
  ·have h0':¬ ((b.length:Nat):Int)=0:=by omega
   have hbl:b.length=L:=by omega
   have k2:¬ (65536:Int) < ((b.length:Nat):Int):=by omega
   rw [if_pos h0] at hts
   replace hts:=Hid.mk hts
   simp only [↓pre,simprocAttr,parV,sx,tys170,onceA,postU,postA,postV,e0,e6,e13,e14,e15,hlt',hv.rd.addr',hlt,hc,hr.len',h0',sr]
   refine app_keep (sz:=1) (y:=8) (zl:=[.int .i64 0]) (by kernel_rfl) hJ.out (by kernel_rfl) (by kernel_rfl) (by kernel_rfl) rfl srcT1 rfl (by omega) (by omega) ?_
   intro lv' m' ho' hnx' hkeep hbl'
   obtain ⟨b',rfl,hb',hlt2⟩:=ho'.sl (by omega)
   have hpos:0 < (thereN C i).length+1:=by omega
   obtain ⟨f0,hf0⟩:∃ f0,(thereN C (i+1))[0]? = some f0:=⟨_,List.getElem?_eq_getElem (by rw [hts.out,List.length_append];simp)⟩
   have hfm:=thereN_mem (List.mem_of_getElem? hf0)
   have hfat:=natsA_at hf0
   rw [hts.out,natsA_append] at hfat
   have hfl:f0 < C.length:=by omega
   obtain ⟨b0,hb0⟩:∃ b,C[f0]? = some b:=⟨_,List.getElem?_eq_getElem hfl⟩
   obtain ⟨a0,x0,hc0,hr0⟩:=hv.at_ f0 b0 hb0
   have hb0L:=hC.out b0 (List.mem_of_getElem? hb0)
   rw [getD_at hb0] at hfm
   have hb0l:b0.length=L:=by omega
   replace hb0:=Hid.mk hb0
   replace hf0:=Hid.mk hf0
   replace hfm:=Hid.mk hfm
   have hl1:(natsA [i])=[.val (.int .i64 (i:Nat))]:=rfl
   rw [hl1] at hfat
   rw [hbl] at k2 hr
   rw [hb0l] at hr0
   simp only [↓pre,simprocAttr,parV,sx,tys170,onceA,postU,postA,postV,e0,e6,e13,e14,e15,hr.len',k2,hv.rd.addr',hfl,addr_slp,hpos,hb',hfat,hc0,hr0.len',w1,sr]
   refine ⟨q - 1,by have:=hq.out;omega,i+1,_,by have:=hq.out;omega,rfl,rfl,⟨?_⟩⟩
   rw [hts.out,natsA_append,List.length_append]
   exact ho'
 ·have hlt':¬ ((i:Nat):Int) < ((C.length:Nat):Int):=by omega
  have hi:i=C.length:=by have:=hq.out;omega
  subst hi
  simp only [↓pre,simprocAttr,parV,sx,tys170,onceA,postU,postA,postV,e0,e6,e13,e14,e15,hlt',sr]
  rw [own_canon (by kernel_rfl) hJ.out]
  rfl
theorem codec_there (v:AV) (C:List (List UInt8)) (cells:List AV) (L:Nat) (hv:RowsV v C cells) (hC:alikeC C L) (hL:L≤65536) (hn:C.length≤1000):FSpec Tryz.prog 170 [v,intV (C.length:Nat)] ⟨.tup [treeR (thereN C C.length).length (natsA (thereN C C.length)),boolV true],[]⟩:=by
 have h:=codec_thereR v C cells L hv hC hL hn
 have h1:=fz_ownR (P:=Tryz.prog) 3 (thereN C C.length).length (natsA (thereN C C.length))
 have h2:=fz_ownR_ok (P:=Tryz.prog) (el:=3) (by kernel_rfl) (thereN C C.length).length (natsA (thereN C C.length))
 have h3:=fspec_frozen 0 h (by simp [fzOk,fzOks,boolV,h2])
 simp only [fzV,fzVs,boolV,h1] at h3
 exact h3
def cellsA (L:Nat) (F:Mx) (a n:Nat):List AV:=(List.range' a n).map fun i => .tree L L (tabA L (F i)) true
theorem cellsA_len (L:Nat) (F:Mx) (a n:Nat):(cellsA L F a n).length=n:=by simp [cellsA]
theorem cellsA_succ (L:Nat) (F:Mx) (a n:Nat):cellsA L F a (n+1)=cellsA L F a n++[.tree L L (tabA L (F (a+n))) true]:=by
 unfold cellsA
 rw [List.range'_1_concat,List.map_append]
 rfl
theorem cellsA_at {L:Nat} {F:Mx} {a n i:Nat} (h:i < n):(cellsA L F a n)[i]? = some (.tree L L (tabA L (F (a+i))) true):=by
 unfold cellsA
 rw [List.getElem?_map,List.getElem?_range' h]
 simp
theorem cellsA_id (L:Nat) (F:Mx) (a n:Nat):∀ c∈cellsA L F a n,fzId c:=by
 intro c hc
 unfold cellsA at hc
 obtain ⟨i,_,rfl⟩:=List.mem_map.1 hc
 exact fzId_tree _ _ _ _
theorem cellsA_app (L:Nat) (F:Mx) (a b:Nat):cellsA L F 0 a++cellsA L F a b=cellsA L F 0 (a+b):=by
 unfold cellsA
 rw [←List.map_append]
 congr 1
 have:=List.range'_append (s:=0) (m:=a) (n:=b) (step:=1)
 simpa using this
theorem cellsA_congr {L:Nat} {F G:Mx} {a n:Nat} (h:∀ i,a≤i→i < a+n→∀ p,p < L→F i p=G i p):cellsA L F a n=cellsA L G a n:=by
 unfold cellsA
 apply List.map_congr_left
 intro i hi
 rw [List.mem_range'_1] at hi
 rw [tabA_congr (h i hi.1 (by omega))]
theorem build_t1 {m:Mem} {n c:Nat} {cs:List AV} {f:Bool}:buildTreeE Tryz.prog m 24 1 [(0,.tree n c cs f)]=some ⟨.tree 1 1 [.tree n c cs f] true,m,none⟩:=by
 have h1:elE Tryz.prog 24=some 54:=by kernel_rfl
 have h2:szE Tryz.prog 54=some 1:=by kernel_rfl
 have h5:zeroE Tryz.prog 54=some [.slice none 0 0]:=by kernel_rfl
 simp [buildTreeE,h1,h2,h5,zerosE,List.range_succ,fillE,okA,oneA,splice,AV.cells,hasRefs,hasRef,outV]
theorem build_fz_sl {m:Mem} {b n:Nat} {f:Bool} {cells:List AV} {el:TypeId} (hb:m.at_ b=some ⟨cells,el,.flat,true⟩):buildX Tryz.prog false true m 24 1 [(0,.sl b 0 n n f)]=some ⟨.tree 1 1 [.tree n n cells f] true,m.put b (some ⟨cells,el,.flat,false⟩),none⟩:=by
 have h1:elE Tryz.prog 24=some 54:=by kernel_rfl
 have h2:szE Tryz.prog 54=some 1:=by kernel_rfl
 have h5:zeroE Tryz.prog 54=some [.slice none 0 0]:=by kernel_rfl
 have hn:buildTreeE Tryz.prog m 24 1 [(0,.sl b 0 n n f)]=none:=by
  simp [buildTreeE,h1,h2,h5,zerosE,List.range_succ,fillE,okA,oneA,splice,AV.cells,hasRefs,hasRef]
 rw [buildX_fz hn]
 simp [buildFzE,h1,h2,h5,zerosE,List.range_succ,fillE,okA,oneA,splice,AV.cells,fzs,fz,hb,outV]
theorem bytes_noTrees:∀ l:List UInt8,noTrees (l.map byteV)=true
 | []=>rfl
 | a::l=>by simp [noTrees,noTree,byteV,bytes_noTrees l]
theorem tabA_noTrees (w:Nat) (f:Nat→UInt8):noTrees (tabA w f)=true:=bytes_noTrees _
def RowsAt (k L:Nat) (D:Mx) (cd:List AV):Prop:=∀ i,i < k→∃ a x,cd[i]? = some a∧RdSl a L (tabA L (D i)++x)
theorem codec_cells (m0:Mem) (g k r a n L:Nat) (vd:AV) (D:Mx) (cd:List AV) (hC:CodeM m0 g k r (k+r)) (hv:HasF m0 vd k cd) (hold:OldV m0 vd) (hat:RowsAt k L D cd) (hk:1≤k) (hk2:k≤12) (hr:r≤4) (ha:a+n≤k+r) (hL:L≤65536):OSpec Tryz.prog 173 [.val (.map (some g)),intV (k:Nat),intV (r:Nat),intV (a:Nat),intV (a+n:Nat),vd] m0 fun res m'=>∃ lv,res = .tup [lv,intV 0]∧OwnK .var m' 54 1 lv n (cellsA L (celU k D) a n)∧Kept m0 m'∧NewV m0 lv:=by
 refine ospec_of_body follows Tryz.func173 (by unfold Tryz.f173;rfl) (by unfold Tryz.f173;simp) onceA (by unfold Tryz.f173;simp) (by kernel_rfl) ?_;unfold Tryz.f173
 simp only [↓pre,simprocAttr,parV,sx,tys173,onceA,postU,postA,postV,sr]
 rw [codeW_loop]
 refine loop_intro (fun q e m=>∃ i lv,q+i=n∧e 0 = .val (.map (some g))∧e 1=intV (k:Nat)∧e 2=intV (r:Nat)∧e 4=intV (a+n:Nat)∧e 5=vd∧e 14=lv∧e 15=intV (a+i:Nat)∧Hid (OwnK .var m 54 1 lv i (cellsA L (celU k D) a i)∧Kept m0 m∧NewV m0 lv)) n ⟨0,nilS,by omega,rfl,rfl,rfl,rfl,rfl,rfl,rfl,⟨own_nil,Kept.refl _,newV_nil _⟩⟩ ?_
 rintro q e m ⟨i,lv,hq,e0,e1,e2,e4,e5,e14,e15,hJ⟩
 replace hq:=Hid.mk hq
 by_cases hlt:i < n
 ·have hlt':((a+i:Nat):Int) < ((a+n:Nat):Int):=by omega
  have w1:=wrap_succ (n:=a+i) (by omega)
  obtain ⟨ho,hkp,hnw⟩:=hJ.out
  have hlk:=look_code (m:=m) (g:=g) (k:=k) (r:=r) (n:=k+r) (i:=a+i) (by unfold CodeM;rw [hkp.mm];exact hC) (by omega)
  obtain ⟨av,hlend,hav⟩:=(hv.keep hkp.w hold).lend2 (a := .tree k k (tabA k (codeR k (a+i))) true) rfl
  have hdot:=kernel_Dot_own (.tree k k (tabA k (codeR k (a+i))) true) av k L (codeR k (a+i)) D [] cd ⟨.inr (.inr ⟨k,true,by rw [List.append_nil],Nat.le_refl _⟩)⟩ ⟨hav,hat⟩ hk (by omega) hL
  rw [show dotF k (codeR k (a+i)) D=celU k D (a+i) from rfl] at hdot
  simp only [intV] at hlk hdot
  have hkeep2:Kept m0 ((m.push ⟨tabA L (celU k D (a+i)),5,.flat,true⟩).put m.next (some ⟨tabA L (celU k D (a+i)),5,.flat,false⟩)):=⟨hkp.mm,by rw [put_next,push_next];have:=hkp.next;omega,fun j x hj hl=>by have:=hkp.next;rw [put_at,if_neg (by omega),push_at,if_neg (by omega)];exact hkp.at_ j x hj hl⟩
  have hbx:=build_fz_sl (m:=m.push ⟨tabA L (celU k D (a+i)),5,.flat,true⟩) (b:=m.next) (n:=L) (f:=true) (by rw [push_at,if_pos rfl])
  replace hJ:=Hid.mk hJ
  replace hkp:=Hid.mk hkp
  replace ho:=Hid.mk ho
  replace hnw:=Hid.mk hnw
  replace hav:=Hid.mk hav
  replace hkeep2:=Hid.mk hkeep2
  simp only [↓pre,simprocAttr,parV,sx,tys173,onceA,postU,postA,postV,e0,e1,e2,e4,e5,e14,e15,hlt',hlk,sr]
  refine call_lentR hdot hlend (by simp [Res.apart,noTree,noTrees,tabA_noTrees]) ?_
  simp only [↓pre,simprocAttr,parV,sx,tys173,onceA,postU,postA,postV,e0,e1,e2,e4,e5,e14,e15,hbx,sr]
  refine app_new (kd := .var) (sz:=1) (y:=24) (zl:=[.slice none 0 0]) (by kernel_rfl) (ho.out.pp _ _) (by kernel_rfl) (by kernel_rfl) (by kernel_rfl) rfl srcT1 rfl (by omega) (by omega) hkeep2.out hnw.out ?_
  intro lv' m' ho' hkp hnw
  simp only [↓pre,simprocAttr,parV,sx,tys173,onceA,postU,postA,postV,e0,e1,e2,e4,e5,e14,e15,w1,sr]
  refine ⟨q - 1,by have:=hq.out;omega,i+1,_,by have:=hq.out;omega,rfl,rfl,⟨?_,hkp,hnw⟩⟩
  rw [cellsA_succ]
  exact ho'
 ·have hi:i=n:=by have:=hq.out;omega
  subst hi
  have hlt':¬ ((a+i:Nat):Int) < ((a+i:Nat):Int):=by omega
  simp only [↓pre,simprocAttr,parV,sx,tys173,onceA,postU,postA,postV,e0,e1,e2,e4,e5,e14,e15,hlt',sr]
  exact ⟨lv,rfl,hJ.out⟩
theorem map_eql {g:Nat} {x y:Operand}:binE Tryz.prog .eql 232 x y (.val (.map (some g))) (.val (.map none))=some (.val (.bool false)):=by kernel_rfl
theorem own_src {P:Program} {kd:Kind} {m:Mem} {el el':TypeId} {sz n:Nat} {v:AV} {cells:List AV} (h:OwnK kd m el sz v n cells) (hk:kindT P el'=kd):srcE P el' sz m v=some (cells,n):=by
 have hl:=h.len
 rcases h.form with ⟨rfl,rfl,rfl⟩ | ⟨b,rfl,hb,_,_⟩
 ·simp [srcE,slView,nilS]
 ·simp [srcE,slView,hb,hk,hl]
  rw [List.take_of_length_le (by omega)]
theorem plains_all:∀ (l:List AV),(∀ c∈l,plain c=true)→plains l=true
 | [],_=>rfl
 | c::l,h=>by simp only [plains,h c (by simp),plains_all l fun x hx=>h x (by simp [hx]),Bool.and_self]
theorem cellsA_plain (L:Nat) (F:Mx) (a n:Nat):plains (cellsA L F a n)=true:=plains_all _ fun c hc=>by
 unfold cellsA at hc
 obtain ⟨i,_,rfl⟩:=List.mem_map.1 hc
 rfl
def celM (C:List (List UInt8)):Mx:=fun i p=>(C.getD i []).getD p 0
theorem tab_celM {C:List (List UInt8)} {i L:Nat} (h:(C.getD i []).length=L):tab L (celM C i)=C.getD i []:=by
 unfold tab celM
 apply List.ext_getElem
 ·rw [List.length_map,List.length_range,h]
 ·intro j h1 h2
  simp only [List.getElem_map,List.getElem_range]
  rw [List.getD_eq_getElem?_getD,List.getElem?_eq_getElem h2]
  rfl
def rowsA (k:Nat) (l:List Nat):List AV:=l.map fun a => .tree k k (tabA k (codeR k a)) true
def pickA (cells:List AV) (l:List Nat):List AV:=l.map fun a=>cells.getD a nilS
theorem decode_rows {k:Nat} {at_:List Nat} (hk:at_.length=k):RowsAt k k (rowsM k at_) (rowsA k at_):=fun t ht=>by
 obtain ⟨a,ha⟩:∃ a,at_[t]? = some a:=⟨_,List.getElem?_eq_getElem (by omega)⟩
 refine ⟨_,[],by unfold rowsA;rw [List.getElem?_map,ha];rfl, ?_⟩
 unfold rowsM
 rw [List.getD_eq_getElem?_getD,ha,List.append_nil]
 exact ⟨.inr (.inr ⟨k,true,rfl,Nat.le_refl _⟩)⟩
theorem codec_Decode (v:AV) (k r L:Nat) (C:List (List UInt8)) (cells:List AV) (hv:RowsV v C cells) (hCl:C.length=k+r) (hC:alikeC C L) (hk:1≤k) (hk2:k≤12) (hr:r≤4) (hL:1≤L) (hL2:L≤65536) (hth:k≤(thereN C (k+r)).length):FSpec Tryz.prog 154 [intV (k:Nat),intV (r:Nat),v] ⟨.tup [treeR (k+r) (cellsA L (decU k ((thereN C (k+r)).take k) (celM C)) 0 (k+r)),intV 0],[]⟩:=by
 refine fspec_fzT ?_
 have hp:=hv.rd.plain
 have hm:=codec_made Mem.empty k r hk hk2 hr
 have hthere:=codec_there v C cells L hv hC hL2 (by omega)
 rw [hCl] at hthere
 have hrd:=treeR_rd (thereN C (k+r)).length (natsA (thereN C (k+r)))
 obtain ⟨v',s',r'⟩:=hrd.slice (P:=Tryz.prog) (t:=33) (sz:=1) (lo:=none) (hi:=some k) (by kernel_rfl) (by simp) (by simpa using hth)
 simp only [Option.getD_some,Option.getD_none,Nat.sub_zero,Nat.zero_mul,List.drop_zero] at r'
 have hslok:=hrd.slOk (P:=Tryz.prog) (m:=Mem.empty) (t:=33)
 have htk:((thereN C (k+r)).take k).length=k:=by rw [List.length_take];omega
 have hmem:∀ a∈(thereN C (k+r)).take k,a < k+r∧(C.getD a []).length=L:=fun a ha=>by
  obtain ⟨h1,h2⟩:=thereN_mem (List.mem_of_mem_take ha)
  refine ⟨h1, ?_⟩
  obtain ⟨b,hb⟩:∃ b,C[a]? = some b:=⟨_,List.getElem?_eq_getElem (by omega)⟩
  rw [getD_at hb] at h2 ⊢
  rcases hC b (List.mem_of_getElem? hb) with h | h
  ·exact absurd h h2
  ·exact h
 have hnd:((thereN C (k+r)).take k).Nodup:=(thereN_nodup C (k+r)).sublist (List.take_sublist _ _)
 have hnat:∀ i,i < k→∃ a,((thereN C (k+r)).take k)[i]? = some a∧(natsA (thereN C (k+r)))[i]? = some (.val (.int .i64 a)):=fun i hi=>by
  obtain ⟨a,ha⟩:∃ a,(thereN C (k+r))[i]? = some a:=⟨_,List.getElem?_eq_getElem (by omega)⟩
  exact ⟨a,by rw [List.getElem?_take_of_lt hi];exact ha,natsA_at ha⟩
 generalize hat:(thereN C (k+r)).take k=at_ at *
 have k1:¬ (((thereN C (k+r)).length:Nat):Int) < ((k:Nat):Int):=by omega
 have w1:IntKind.i64.wrap (((k:Nat):Int)+((r:Nat):Int))=((k+r:Nat):Int):=by rw [←Int.natCast_add];exact wrap_nat (by omega)
 replace hC:=Hid.mk hC
 replace hmem:=Hid.mk hmem
 replace hat:=Hid.mk hat
 replace hnat:=Hid.mk hnat
 refine ospec_of_body follows Tryz.func154 (by unfold Tryz.f154;rfl) (by unfold Tryz.f154;simp) onceA (by unfold Tryz.f154;simp) (by kernel_rfl) ?_;unfold Tryz.f154
 simp only [↓pre,simprocAttr,parV,sx,tys154,onceA,postU,postA,postV,postFz,sr]
 refine call_open hm ?_
 rintro res m1 ⟨g,mm,rfl,rfl,hCode⟩
 simp only [↓pre,simprocAttr,parV,sx,tys154,onceA,postU,postA,postV,postFz,map_eql,w1,sr]
 (first | refine call_plain (hthere) (by first | rfl | simp only [parV,plQ, *]) ?_ | refine call_pure (hthere) (by first | rfl | simp only [parV,plQ, *]) (by intro k;first | rfl | simp only [sq,sr, *]) ?_);simp only [↓pre,simprocAttr,parV,sx,tys154,onceA,postU,postA,postV,postFz,hrd.len',k1,s',r'.len',optNat,Option.map_none,Option.map_some,sr]
 generalize Mem.setM Mem.empty mm=m1 at *
 rw [codeW_loop]
 refine loop_intro (fun q e m=>∃ i lm lf,q+i=k∧e 0=intV (k:Nat)∧e 1=intV (r:Nat)∧e 2=v∧e 8 = .val (.map (some g))∧e 11=lm∧e 12=lf∧e 44=v'∧e 45=intV (k:Nat)∧e 46=intV (i:Nat)∧Hid (OwnK .var m 54 1 lm i (rowsA k (at_.take i))∧OwnK .var m 54 1 lf i (pickA cells (at_.take i))∧KeptW m1 m∧NewV m1 lm∧NewV m1 lf∧∀ b,blkOf lm=some b→blkOf lf≠some b)) k ⟨0,nilS,nilS,by omega,rfl,rfl,rfl,rfl,rfl,rfl,rfl,rfl,rfl,⟨own_nil,own_nil,KeptW.refl _,newV_nil _,newV_nil _,fun b h=>by cases h⟩⟩ ?_
 rintro q e m ⟨i,lm,lf,hq,e0,e1,e2,e8,e11,e12,e44,e45,e46,hJ⟩
 replace hq:=Hid.mk hq
 obtain ⟨hom,hof,hkp,hnm,hnf,hap⟩:=hJ.out
 by_cases hlt:i < k
 ·have hlt':((i:Nat):Int) < ((k:Nat):Int):=by omega
  have wi:=wrap_succ (n:=i) (by omega)
  obtain ⟨a,ha,haA⟩:=hnat.out i hlt
  obtain ⟨hal,haL⟩:=hmem.out a (List.mem_of_getElem? ha)
  have htk1:at_.take (i+1)=at_.take i++[a]:=by rw [List.take_add_one,ha];rfl
  have hrA:rowsA k (at_.take (i+1))=rowsA k (at_.take i)++[.tree k k (tabA k (codeR k a)) true]:=by rw [htk1];unfold rowsA;rw [List.map_append];rfl
  have hlk:=look_code (m:=m) (g:=g) (k:=k) (r:=r) (n:=k+r) (i:=a) (by unfold CodeM;rw [hkp.mm];exact hCode) hal
  obtain ⟨b,hb⟩:∃ b,C[a]? = some b:=⟨_,List.getElem?_eq_getElem (by omega)⟩
  have hbl:b.length=L:=by rw [getD_at hb] at haL;exact haL
  obtain ⟨ca,x,hca,hra⟩:=hv.at_ a b hb
  have haC:a < C.length:=by omega
  obtain ⟨cc,f,rfl,_⟩:∃ cc f,ca = .tree b.length cc (b.map byteV++x) f∧b.length≤cc:=by
   rcases hra.form with ⟨_,h⟩ | ⟨_,_,_,h⟩ | h
   ·omega
   ·omega
   ·exact h
  have hpA:pickA cells (at_.take (i+1))=pickA cells (at_.take i)++[.tree b.length cc (b.map byteV++x) f]:=by
   rw [htk1];unfold pickA;rw [List.map_append,List.map_cons,List.map_nil,List.getD_eq_getElem?_getD,hca];rfl
  replace ha:=Hid.mk ha
  replace hb:=Hid.mk hb
  replace htk1:=Hid.mk htk1
  replace hrA:=Hid.mk hrA
  replace hpA:=Hid.mk hpA
  replace haL:=Hid.mk haL
  replace hkp:=Hid.mk hkp
  replace hbl:=Hid.mk hbl
  simp only [intV] at hlk
  simp only [↓pre,simprocAttr,parV,sx,tys154,onceA,postU,postA,postV,postFz,e0,e1,e2,e8,e11,e12,e44,e45,e46,hlt',r'.addr',hlt,haA,hlk,build_t1,sr]
  refine app_newW (kd := .var) (sz:=1) (y:=24) (zl:=[.slice none 0 0]) (by kernel_rfl) hom (by kernel_rfl) (by kernel_rfl) (by kernel_rfl) rfl srcT1 rfl (by omega) (by omega) hkp.out hnm ?_
  intro lm' m' hom' hkp' hnm' hnx hbl' hkeep
  obtain ⟨hof',hap'⟩:=hof.beside hnx hbl' hkeep fun b hb h=>hap b h hb
  simp only [↓pre,simprocAttr,parV,sx,tys154,onceA,postU,postA,postV,postFz,e0,e1,e2,e8,e11,e12,e44,e45,e46,hv.rd.addr',haC,hca,build_t1,sr]
  refine app_newW (kd := .var) (sz:=1) (y:=24) (zl:=[.slice none 0 0]) (by kernel_rfl) hof' (by kernel_rfl) (by kernel_rfl) (by kernel_rfl) rfl srcT1 rfl (by omega) (by omega) hkp' hnf ?_
  intro lf' m'' hof'' hkp'' hnf'' hnx2 hbl2 hkeep2
  obtain ⟨hom'',hap''⟩:=hom'.beside hnx2 hbl2 hkeep2 fun b hb h=>hap' b h hb
  simp only [↓pre,simprocAttr,parV,sx,tys154,onceA,postU,postA,postV,postFz,e0,e1,e2,e8,e11,e12,e44,e45,e46,wi,sr]
  exact ⟨q - 1,by have:=hq.out;omega,i+1,lm',lf',by have:=hq.out;omega,rfl,rfl,rfl,⟨by rw [hrA.out];exact hom'',by rw [hpA.out];exact hof'',hkp'',hnm',hnf'',hap''⟩⟩
 ·have hlt':¬ ((i:Nat):Int) < ((k:Nat):Int):=by omega
  have hi:i=k:=by have:=hq.out;omega
  subst hi
  rw [List.take_of_length_le (by omega)] at hom hof
  have hrp:plains (rowsA i at_)=true:=plains_all _ fun c hc=>by
   unfold rowsA at hc
   obtain ⟨a,_,rfl⟩:=List.mem_map.1 hc
   rfl
  have hfRd:RowsAt i L (fun t=>celM C (at_.getD t 0)) (pickA cells at_):=fun t ht=>by
   obtain ⟨a,ha,_⟩:=hnat.out t ht
   obtain ⟨hal,haL⟩:=hmem.out a (List.mem_of_getElem? ha)
   obtain ⟨b,hb⟩:∃ b,C[a]? = some b:=⟨_,List.getElem?_eq_getElem (by omega)⟩
   obtain ⟨ca,x,hca,hra⟩:=hv.at_ a b hb
   refine ⟨ca,x, ?_, ?_⟩
   ·unfold pickA
    rw [List.getElem?_map,ha,Option.map_some,List.getD_eq_getElem?_getD,hca]
    rfl
   ·simp only [List.getD_eq_getElem?_getD,ha,Option.getD_some]
    unfold tabA
    have:=tab_celM haL
    rw [this,getD_at hb]
    rw [getD_at hb] at haL
    rw [haL] at hra
    exact hra
  have hfp:plains (pickA cells at_)=true:=plains_all _ fun c hc=>by
   obtain ⟨t,ht⟩:=List.getElem?_of_mem hc
   have htl:t < i:=by have:=(List.getElem?_eq_some_iff.1 ht).1;unfold pickA at this;rw [List.length_map] at this;omega
   obtain ⟨a,x,h1,h2⟩:=hfRd t htl
   rw [ht] at h1
   cases h1
   exact h2.plain
  obtain ⟨av,m2,hfz,hav,hm2,hn2,hk2'⟩:=(hasF_own hom (.inr ⟨rfl,hrp⟩)).fz
  have hof2:OwnK .var m2 54 1 lf i (pickA cells at_):=hof.frz hn2 hk2' fun b hb off n c f h=>by
   subst h
   exact hap b rfl hb
  have hkp2:=keptW_frz hkp hm2 hn2 hk2'
  have hinv:=matrix_Inverse av i (rowsM i at_) (rowsA i at_) ⟨hav,decode_rows htk⟩ hk (by omega) (rows_nokern htk hnd fun a ha=>by have:=(hmem.out a ha).1;omega)
  have hVb:=(matA_V true true i i (invM i (rowsM i at_))).rd
  have hHf:=hasF_own hof2 (.inr ⟨rfl,hfp⟩)
  have hOf:=own_old hof2
  have hfz1:fzs m [lm]=some ([av],m2):=by simp [fzs,hfz]
  simp only [↓pre,simprocAttr,parV,sx,tys154,onceA,postU,postA,postV,postFz,e0,e1,e2,e8,e11,e12,e44,e45,e46,hlt',sr]
  refine call_frozen hinv hfz1 ?_
  simp only [↓pre,simprocAttr,parV,sx,tys154,onceA,postU,postA,postV,postFz,e0,e1,e2,e8,e11,e12,hVb.len',sr]
  rw [codeW_loop]
  refine loop_intro (fun q e m=>∃ j ld,q+j=i∧e 0=intV (i:Nat)∧e 1=intV (r:Nat)∧e 8 = .val (.map (some g))∧e 12=lf∧e 17=ld∧e 75 = .tree i i (matA true i i (invM i (rowsM i at_))) true∧e 76=intV (i:Nat)∧e 77=intV (j:Nat)∧Hid (OwnK .var m 54 1 ld j (cellsA L (datU i at_ (celM C)) 0 j)∧Kept m2 m∧NewV m2 ld)) i ⟨0,nilS,by omega,e0,e1,e8,e12,rfl,rfl,rfl,rfl,⟨own_nil,Kept.refl _,newV_nil _⟩⟩ ?_
  rintro q2 e m ⟨j,ld,hq2,e0,e1,e8,e12,e17,e75,e76,e77,hJ2⟩
  replace hq2:=Hid.mk hq2
  obtain ⟨hod,hkd,hnd2⟩:=hJ2.out
  by_cases hlt2:j < i
  ·have hlt2':((j:Nat):Int) < ((i:Nat):Int):=by omega
   have wj:=wrap_succ (n:=j) (by omega)
   have hrow:=matA_at true (w:=i) (invM i (rowsM i at_)) hlt2
   obtain ⟨av2,hlend,hav2⟩:=(hHf.keep hkd.w hOf).lend2 (a := .tree i i (tabA i (invM i (rowsM i at_) j)) true) rfl
   have hdot:=kernel_Dot_own (.tree i i (tabA i (invM i (rowsM i at_) j)) true) av2 i L (invM i (rowsM i at_) j) (fun t=>celM C (at_.getD t 0)) [] (pickA cells at_) ⟨.inr (.inr ⟨i,true,by rw [List.append_nil],Nat.le_refl _⟩)⟩ ⟨hav2,hfRd⟩ hk (by omega) hL2
   rw [show dotF i (invM i (rowsM i at_) j) (fun t=>celM C (at_.getD t 0))=datU i at_ (celM C) j from rfl] at hdot
   have hkeep2:Kept m2 ((m.push ⟨tabA L (datU i at_ (celM C) j),5,.flat,true⟩).put m.next (some ⟨tabA L (datU i at_ (celM C) j),5,.flat,false⟩)):=⟨hkd.mm,by rw [put_next,push_next];have:=hkd.next;omega,fun j x hj hl=>by have:=hkd.next;rw [put_at,if_neg (by omega),push_at,if_neg (by omega)];exact hkd.at_ j x hj hl⟩
   have hbx:=build_fz_sl (m:=m.push ⟨tabA L (datU i at_ (celM C) j),5,.flat,true⟩) (b:=m.next) (n:=L) (f:=true) (by rw [push_at,if_pos rfl])
   have hcs:=cellsA_succ L (datU i at_ (celM C)) 0 j
   rw [Nat.zero_add] at hcs
   replace hcs:=Hid.mk hcs
   replace hkd:=Hid.mk hkd
   replace hkeep2:=Hid.mk hkeep2
   replace hav2:=Hid.mk hav2
   simp only [↓pre,simprocAttr,parV,sx,tys154,onceA,postU,postA,postV,postFz,e0,e1,e8,e12,e17,e75,e76,e77,hlt2',hVb.addr',hlt2,hrow,sr]
   refine call_lentR hdot hlend (by simp [Res.apart,noTree,noTrees,tabA_noTrees,intV]) ?_
   simp only [↓pre,simprocAttr,parV,sx,tys154,onceA,postU,postA,postV,postFz,e0,e1,e8,e12,e17,e75,e76,e77,hbx,sr]
   refine app_new (kd := .var) (sz:=1) (y:=24) (zl:=[.slice none 0 0]) (by kernel_rfl) (hod.pp _ _) (by kernel_rfl) (by kernel_rfl) (by kernel_rfl) rfl srcT1 rfl (by omega) (by omega) hkeep2.out hnd2 ?_
   intro ld' m' hod' hkd' hnd'
   simp only [↓pre,simprocAttr,parV,sx,tys154,onceA,postU,postA,postV,postFz,e0,e1,e8,e12,e17,e75,e76,e77,wj,sr]
   exact ⟨q2 - 1,by have:=hq2.out;omega,j+1,ld',by have:=hq2.out;omega,rfl,rfl,⟨by rw [hcs.out];exact hod',hkd',hnd'⟩⟩
  ·have hlt2':¬ ((j:Nat):Int) < ((i:Nat):Int):=by omega
   have hj:j=i:=by have:=hq2.out;omega
   subst hj
   have hC3:CodeM m g j r (j+r):=by unfold CodeM;rw [hkd.mm,hkp2.mm];exact hCode
   have hdr:RowsAt j L (datU j at_ (celM C)) (cellsA L (datU j at_ (celM C)) 0 j):=fun t ht=>by
    refine ⟨_,[],cellsA_at ht, ?_⟩
    rw [List.append_nil,Nat.zero_add]
    exact ⟨.inr (.inr ⟨L,true,rfl,Nat.le_refl _⟩)⟩
   have hce:=codec_cells m g j r j r L ld (datU j at_ (celM C)) _ hC3 (hasF_own hod (.inr ⟨rfl,cellsA_plain _ _ _ _⟩)) (own_old hod) hdr hk hk2 hr (Nat.le_refl _) hL2
   simp only [↓pre,simprocAttr,parV,sx,tys154,onceA,postU,postA,postV,postFz,e0,e1,e8,e12,e17,e75,e76,e77,hlt2',w1,sr]
   refine call_open hce ?_
   rintro res m4 ⟨lv,rfl,hov,hkv,hnv⟩
   have hod4:OwnK .var m4 54 1 ld j (cellsA L (datU j at_ (celM C)) 0 j):=hod.keep hkv.next fun b x hb hat=>hkv.at_ b x hat (by
    rcases hod.form with ⟨rfl,_⟩ | ⟨b',rfl,_,hlt,_⟩
    ·cases hb
    ·injection hb with hb;omega)
   simp only [↓pre,simprocAttr,parV,sx,tys154,onceA,postU,postA,postV,postFz,e0,e1,e8,e12,e17,e75,e76,e77,sr]
   refine app_rule (kd := .var) (sz:=1) (y:=24) (zl:=[.slice none 0 0]) (by kernel_rfl) hod4 (by kernel_rfl) (by kernel_rfl) (by kernel_rfl) rfl (own_src hov (by kernel_rfl)) (by rw [cellsA_len];omega) (by omega) (by omega) ?_
   intro lo m5 ho5 hn5
   have hfin:cellsA L (datU j at_ (celM C)) 0 j++cellsA L (celU j (datU j at_ (celM C))) j r=cellsA L (decU j at_ (celM C)) 0 (j+r):=by
    rw [←cellsA_app]
    congr 1
    exact cellsA_congr fun i _ hi p _=>(celU_data _ (by omega) p).symm
   rw [hfin] at ho5
   simp only [↓pre,simprocAttr,parV,sx,tys154,onceA,postU,postA,postV,postFz,e0,e1,e8,e12,e17,e75,e76,e77,sr]
   exact ⟨1,by rw [fzT_tup,fzTs_cons,own_fzTv ho5 (cellsA_id _ _ _ _),Option.bind_some,fzTs_cons,fzT_val,fzTs_nil];rfl⟩
end Go.Proofs.YtgcicholalgbiaaGreat