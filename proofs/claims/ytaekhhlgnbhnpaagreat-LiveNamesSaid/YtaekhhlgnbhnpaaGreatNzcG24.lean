import Derived.Test.YtaekhhlgnbhnpaaGreatNzcG23
import Derived.WalkKit
import Derived.Lib.Strings
import Derived.Lib.Walk
import Derived.Lib.Bytealg
set_option linter.unusedVariables false
set_option linter.unusedSimpArgs false
set_option maxRecDepth 100000
open Go.Proofs.Tryz
open Go.IntKind renaming bits→aAP,i64→azv
open Go.Proofs.Tryz renaming prog→ayS
open List renaming getElem?_eq_some_iff→ay5,getElem?_eq_getElem→azj,getElem?_eq_none→ay3,length_cons→aAC,length_drop→aA9,getD_eq_getElem?_getD→azp,length_append→aAZ
open Nat renaming mul_one→azD
open Option renaming getD_some→aAB,map_none→aBa
namespace Go.Proofs.YtaekhhlgnbhnpaaGreat
open Go Go.Tw Go.Proofs Go.Gf Go.RowKit
theorem axr {P:Program} {f:FuncId} {a b:ByteArray} {v:Value} (p:sF P f=true) (h:∀ w,Calls P f #[.string a,.string b] w fun e w'=>e = .returned v∧w'=w):aR P f [gG a,gG b] ⟨.val v,[]⟩:=by
 refine ⟨p,fun w I vs t j l => ?_⟩;have i:vs = #[.string a,.string b]:=by
  simp only [bC,VR] at l;obtain ⟨⟨u,d,r⟩,⟨z,c,n⟩,_⟩:=l;subst r;subst n
  match vs,j,d,c with
  | ⟨[x,y]⟩,_,d,c=>simp at d c;simp [d,c]
 subst i;refine (h w).mono fun e w' s => ?_
 obtain ⟨q,m⟩:=s;subst m;exact ⟨v,I,cZ,q,by simp only [VR],⟨fun b k g o h=>by simp [dT,gO,aF.empty] at h,fun b A k k' g o B h=>by simp [dT,gO,aF.empty] at h,t,jH.none⟩,cL.refl _ _ _ _⟩
set_option maxHeartbeats 1000000 in
theorem axs (a b:ByteArray) (w:World):Calls ayS 313 #[.string a,.string b] w fun e w'=>e = .returned (.int .i64 (Lib.compareBytes a.data.toList b.data.toList))∧w'=w:=by
 go_enter Tryz.func313,Tryz.ntmps313
 go_wp2
 rw [run_callFunc_extern Tryz.func339 (by kernel_rfl) (by kernel_rfl) (by kernel_rfl) (e:=Extern.BytealgCompare.compare) (by kernel_rfl),Lib.run_compareString];simp only [Result.andThen];rw [Oper.upon_value]
 go_wp2
 go_ret
 exact ⟨rfl,rfl⟩
theorem apq (a b:ByteArray):aR ayS 313 [gG a,gG b] ⟨aC (Lib.compareBytes a.data.toList b.data.toList),[]⟩ :=
 axr (by kernel_rfl) (axs a b)
def xG (a b:ByteArray):Int:=Lib.compareBytes a.data.toList b.data.toList
theorem apr (a b:ByteArray):aR ayS 273 [gG a,gG b] ⟨aC (xG a b),[]⟩:=by
 refine aX Tryz.func273 aB (h:=?_);unfold Tryz.f273;simp only [↓pre,zab,xG,simprocAttr];repeat' ((first | refine cU (fun _ => ?_) (fun _ => ?_) | refine cO (fun _ => ?_) (fun _ => ?_) | refine cV (fun _ => ?_) (fun _ => ?_) | refine cQ (fun _ => ?_) (fun _ => ?_) | refine cS (fun _ => ?_) (fun _ => ?_) | refine cM (fun _ => ?_) (fun _ => ?_) | refine aH (apq _ _) (by first | rfl | simp only [aA,aD, *]) ?_ | refine aG (apq _ _) (by first | rfl | simp only [aA,aD, *]) (by intro k;first | rfl | simp only [ *,zaa]) ?_) <;> simp only [↓pre,simprocAttr,sx, *])
theorem y5 (s:ByteArray) (r:Int) (t:ByteArray):aR ayS 272 [.agg [gG s,aC r],gG t] ⟨aC (xG s t),[]⟩:=by
 refine aX Tryz.func272 aB (h:=?_);unfold Tryz.f272;simp only [↓pre,zab,asv,simprocAttr];repeat' ((first | refine cU (fun _ => ?_) (fun _ => ?_) | refine cO (fun _ => ?_) (fun _ => ?_) | refine cV (fun _ => ?_) (fun _ => ?_) | refine cQ (fun _ => ?_) (fun _ => ?_) | refine cS (fun _ => ?_) (fun _ => ?_) | refine cM (fun _ => ?_) (fun _ => ?_) | refine aH (apr _ _) (by first | rfl | simp only [aA,aD, *]) ?_ | refine aG (apr _ _) (by first | rfl | simp only [aA,aD, *]) (by intro k;first | rfl | simp only [ *,zaa]) ?_) <;> simp only [↓pre,simprocAttr,sx, *])
theorem aps:∀ (a b:List UInt8),(Lib.compareBytes a b < 0)=(Op.bytesLess a b=true)
 | [],[]=>by simp [Lib.compareBytes,Op.bytesLess]
 | [],_::_=>by simp [Lib.compareBytes,Op.bytesLess]
 | _::_,[]=>by simp [Lib.compareBytes,Op.bytesLess]
 | x::a,y::b=>by
  simp only [Lib.compareBytes,Op.bytesLess];by_cases c:x < y
  ·simp [c]
  ·by_cases e:y < x
   ·have d:x≠y:=fun h=>by subst h;exact c e
    simp [c,e,d]
   ·have d:x=y:=by
     have f:¬ x.toNat < y.toNat:=fun h=>c (UInt8.lt_iff_toNat_lt.2 h)
     have g:¬ y.toNat < x.toNat:=fun h=>e (UInt8.lt_iff_toNat_lt.2 h)
     exact UInt8.toNat_inj.1 (by omega)
    subst d;have:=aps a b;simp [c,this]
theorem apt:∀ (a b:List UInt8),(Lib.compareBytes a b=0)=(a=b)
 | [],[]=>by simp [Lib.compareBytes]
 | [],_::_=>by simp [Lib.compareBytes]
 | _::_,[]=>by simp [Lib.compareBytes]
 | x::a,y::b=>by
  simp only [Lib.compareBytes];by_cases c:x < y
  ·have d:x≠y:=fun h=>by subst h;simp at c
   simp [c,d]
  ·by_cases e:y < x
   ·have d:x≠y:=fun h=>by subst h;exact c e
    simp [c,e,d]
   ·have d:x=y:=by
     have f:¬ x.toNat < y.toNat:=fun h=>c (UInt8.lt_iff_toNat_lt.2 h)
     have g:¬ y.toNat < x.toNat:=fun h=>e (UInt8.lt_iff_toNat_lt.2 h)
     exact UInt8.toNat_inj.1 (by omega)
    subst d;have:=apt a b;simp [c,this]
theorem axt {a b:ByteArray}:(a.data.toList=b.data.toList)=(a=b):=by
 cases a;cases b;simp
theorem apu (a b:ByteArray):(xG a b < 0)=(jU a b=true):=aps _ _
theorem axu (a b:ByteArray):(xG a b=0)=(a=b):=by unfold xG;rw [apt,axt]
theorem apv:∀ (a b c:List UInt8),Op.bytesLess a b=true→Op.bytesLess b c=true→Op.bytesLess a c=true
 | _,[],_,h,_=>by simp [Op.bytesLess] at h
 | _,_::_,[],_,h=>by simp [Op.bytesLess] at h
 | [],_::_,_::_,_,_=>by simp [Op.bytesLess]
 | x::a,y::b,z::c,e,d=>by
  simp only [Op.bytesLess,Bool.or_eq_true,Bool.and_eq_true,decide_eq_true_eq,beq_iff_eq,UInt8.lt_iff_toNat_lt] at e d ⊢;rcases e with e | ⟨e,g⟩
  ·rcases d with d | ⟨d,f⟩
   ·left;omega
   ·subst d;left;exact e
  ·subst e;rcases d with d | ⟨d,f⟩
   ·left;exact d
   ·right;exact ⟨d,apv a b c g f⟩
theorem aiF {a b c:ByteArray} (e:jU a b=true) (d:jU b c=true):jU a c=true:=apv _ _ _ e d
def abZ (l:List dV):Prop:=∀ (i j:Nat) (d e:dV),i < j→l[i]? = some d→l[j]? = some e→jU d.1 e.1=true
theorem apw {w:Int} {l:List dV} (h:oG w l=true):abZ l:=by
 intro i j
 induction j with
 | zero=>intro d e g;omega
 | succ j o =>
  intro d e g k m;have n:j+1 < l.length:=(ay5.1 m).1;have a:=abX.1 h (j+1) n;unfold mF at a;rw [m] at a;obtain ⟨f,c⟩:∃ f,l[j]? = some f:=⟨_,azj (by omega)⟩
  simp only [c,Bool.and_eq_true] at a;by_cases b:i=j
  ·subst b;rw [c] at k;cases k;exact a.2
  ·exact aiF (o d f (by omega) k c) a.2
theorem axv {n:Nat} (h:n≤9223372036854775807):IntKind.u64.wrap (n:Int)=n:=by
 simp only [IntKind.wrap,aAP,IntKind.signed];simp;omega
theorem apx (v:AV) (l:List dV) (x:List AV) (s:ByteArray) (H:aZ v l.length (dX l++x)) (X:l.length≤1000000000000) (A:abZ l):aR ayS 271 [v,gG s,.clo 272 []] ⟨.tup [aC (tJ l s),aV (mG l s)],[]⟩:=by
 refine aX Tryz.func271 aB (h:=?_);unfold Tryz.f271;simp only [↓pre,zae,acM,simprocAttr,H.len'];rw [bS];refine bU (fun n e m=>∃ i j,n+i=j∧j≤l.length∧e 0=v∧e 1=gG s∧e 2 = .clo 272 []∧e 8=aC (l.length:Nat)∧e 9=aC (i:Nat)∧e 10=aC (j:Nat)∧(∀ t d,t < i→l[t]? = some d→jU d.1 s=true)∧(∀ t d,j≤t→l[t]? = some d→jU d.1 s=false)) l.length ⟨0,l.length,by omega,by omega, ?_⟩ ?_
 ·simp [bB.set,jY,aC];intro t a b R h;rw [ay3 R] at h;cases h
 ·rintro n e m ⟨i,j,hi,Z,I,J,L,N,E,p,B,w⟩;replace B:=Tw.Hid.mk B;replace w:=Tw.Hid.mk w;replace A:=Tw.Hid.mk A;by_cases Q:i < j
  ·have c:(i:Int) < (j:Nat):=by omega
   have w1:azv.wrap ((i:Int)+(j:Int))=((i+j:Nat):Int):=by rw [←cD (n:=i+j) (by omega)];rfl
   have P:IntKind.u64.wrap ((i+j:Nat):Int)=((i+j:Nat):Int):=axv (by omega);have O:azv.wrap (((i+j:Nat):Int) / 2 ^ min 1 64)=(((i+j) / 2:Nat):Int):=by
    rw [show (2:Int) ^ min 1 64=2 from rfl,show ((i+j:Nat):Int) / 2=(((i+j) / 2:Nat):Int) by omega];exact cD (by omega)
   have M:(i+j) / 2 < l.length:=by omega
   obtain ⟨t,z,g⟩:∃ s r,l[(i+j) / 2]? = some (s,r):=⟨_,_,azj M⟩
   obtain ⟨T,U,K,G⟩:=tH (x:=x) g;have Y:=bY (n:=(i+j) / 2) (by omega);cases D:jU t s with
   | true =>
    have W:xG t s < 0:=by rw [apu];exact D
    simp only [↓pre,zae,acM,bE,simprocAttr,I,J,L,E,p,c,w1,P,O,aAP,H.addr',K,G,M];repeat' ((first | refine cU (fun _ => ?_) (fun _ => ?_) | refine cO (fun _ => ?_) (fun _ => ?_) | refine cV (fun _ => ?_) (fun _ => ?_) | refine cQ (fun _ => ?_) (fun _ => ?_) | refine cS (fun _ => ?_) (fun _ => ?_) | refine cM (fun _ => ?_) (fun _ => ?_) | refine aH (y5 _ _ _) (by first | rfl | simp only [aA,aD, *]) ?_ | refine aG (y5 _ _ _) (by first | rfl | simp only [aA,aD, *]) (by intro k;first | rfl | simp only [ *,zaa]) ?_) <;> simp only [↓pre,zab,simprocAttr, *])
    refine ⟨j - ((i+j) / 2+1),by omega,(i+j) / 2+1,j,by omega,by omega,rfl,rfl,fun u d S q => ?_,w.out⟩;by_cases C:u=(i+j) / 2
    ·rw [C,g] at q;cases q;exact D
    ·exact aiF (A.out u _ d _ (by omega) q g) D
   | false =>
    have W:¬ xG t s < 0:=by rw [apu,D];simp
    simp only [↓pre,zae,acM,bE,simprocAttr,I,J,L,E,p,c,w1,P,O,aAP,H.addr',K,G,M];repeat' ((first | refine cU (fun _ => ?_) (fun _ => ?_) | refine cO (fun _ => ?_) (fun _ => ?_) | refine cV (fun _ => ?_) (fun _ => ?_) | refine cQ (fun _ => ?_) (fun _ => ?_) | refine cS (fun _ => ?_) (fun _ => ?_) | refine cM (fun _ => ?_) (fun _ => ?_) | refine aH (y5 _ _ _) (by first | rfl | simp only [aA,aD, *]) ?_ | refine aG (y5 _ _ _) (by first | rfl | simp only [aA,aD, *]) (by intro k;first | rfl | simp only [ *,zaa]) ?_) <;> simp only [↓pre,zab,simprocAttr, *])
    refine ⟨(i+j) / 2 - i,by omega,i,(i+j) / 2,by omega,by omega,rfl,rfl,B.out,fun u d S q => ?_⟩;by_cases C:u=(i+j) / 2
    ·rw [C,g] at q;cases q;exact D
    ·cases V:jU d.1 s with
     | false=>rfl
     | true =>
      have:=aiF (A.out _ u _ d (by omega) g q) V;simp only at this;rw [D] at this;cases this
  ·have c:¬ (i:Int) < (j:Nat):=by omega
   have f:tJ l s=i:=aiE l s i (by omega) B.out (fun d q=>w.out i d (by omega) q);by_cases F:i < l.length
   ·have o:(i:Int) < (l.length:Nat):=by omega
    obtain ⟨t,z,g⟩:∃ s r,l[i]? = some (s,r):=⟨_,_,azj F⟩
    obtain ⟨T,U,K,G⟩:=tH (x:=x) g;have y:mG l s=decide (xG t s=0):=by unfold mG;rw [f,g];simp [axu]
    simp only [↓pre,zal,acM,simprocAttr,I,J,L,N,E,p,c,H.addr',K,G,F,o,f,y];repeat' ((first | refine cU (fun _ => ?_) (fun _ => ?_) | refine cO (fun _ => ?_) (fun _ => ?_) | refine cV (fun _ => ?_) (fun _ => ?_) | refine cQ (fun _ => ?_) (fun _ => ?_) | refine cS (fun _ => ?_) (fun _ => ?_) | refine cM (fun _ => ?_) (fun _ => ?_) | refine aH (y5 _ _ _) (by first | rfl | simp only [aA,aD, *]) ?_ | refine aG (y5 _ _ _) (by first | rfl | simp only [aA,aD, *]) (by intro k;first | rfl | simp only [ *,zaa]) ?_) <;> simp only [↓pre,zab,simprocAttr, *])
   ·have o:¬ (i:Int) < (l.length:Nat):=by omega
    have y:mG l s=false:=by unfold mG;rw [f,ay3 (by omega)]
    simp only [↓pre,zab,aV,simprocAttr,N,E,p,c,o,f,y];repeat' ((first | refine cU (fun _ => ?_) (fun _ => ?_) | refine cO (fun _ => ?_) (fun _ => ?_) | refine cV (fun _ => ?_) (fun _ => ?_) | refine cQ (fun _ => ?_) (fun _ => ?_) | refine cS (fun _ => ?_) (fun _ => ?_) | refine cM (fun _ => ?_) (fun _ => ?_) | refine aH (y5 _ _ _) (by first | rfl | simp only [aA,aD, *]) ?_ | refine aG (y5 _ _ _) (by first | rfl | simp only [aA,aD, *]) (by intro k;first | rfl | simp only [ *,zaa]) ?_) <;> simp only [↓pre,zal,acM,bE,simprocAttr,aA,I,J,L,N,E,p,c,o,f,y, *])
theorem afL (v:AV) (l:List dV) (x:List AV) (s:ByteArray) (b:aZ v l.length (dX l++x)) (c:l.length≤1000000000000) (a:abZ l):aR ayS 214 [v,gG s] ⟨.tup [aC (tJ l s),aV (mG l s)],[]⟩:=by
 refine aX Tryz.func214 aB (h:=?_);unfold Tryz.f214;have d:=b.plain;replace a:=Tw.Hid.mk a;simp only [↓pre,zab,aV,simprocAttr];repeat' ((first | refine cU (fun _ => ?_) (fun _ => ?_) | refine cO (fun _ => ?_) (fun _ => ?_) | refine cV (fun _ => ?_) (fun _ => ?_) | refine cQ (fun _ => ?_) (fun _ => ?_) | refine cS (fun _ => ?_) (fun _ => ?_) | refine cM (fun _ => ?_) (fun _ => ?_) | refine aH (apx _ _ _ _ b c a.out) (by first | rfl | simp only [aD, *]) ?_ | refine aG (apx _ _ _ _ b c a.out) (by first | rfl | simp only [aA,aD, *]) (by intro k;first | rfl | simp only [ *,zaa]) ?_) <;> simp only [↓pre,zab,aV,simprocAttr, *])
theorem axw (k r c w:Int) (v:AV) (l:List dV) (x:List AV) (s:ByteArray) (a:aZ v l.length (dX l++x)) (g:fB l≤1000000000000) (b:l.length≤1000000000000) (hs:s.size≤1000000000000000):aR ayS 127 [aA k r c w,v,gG s] ⟨abY k r c w l s,[]⟩:=by
 refine aX Tryz.func127 aB (h:=?_);unfold Tryz.f127;have u:=a.plain;by_cases m:chk k r c w l=0
 ·have f:Tw.Hid (abZ l):=⟨apw (axq m).2.1⟩
  cases i:kI s with
  | false=>simp only [↓pre,zab,acG,yZ,abY,aV,simprocAttr,aA,m,i];repeat' ((first | refine cU (fun _ => ?_) (fun _ => ?_) | refine cO (fun _ => ?_) (fun _ => ?_) | refine cV (fun _ => ?_) (fun _ => ?_) | refine cQ (fun _ => ?_) (fun _ => ?_) | refine cS (fun _ => ?_) (fun _ => ?_) | refine cM (fun _ => ?_) (fun _ => ?_) | refine aH (xF _ _ _ _ _ _ _ a g b) (by first | rfl | simp only [aD, *]) ?_ | refine aH (uR _ hs) (by first | rfl | simp only [aA,aD, *]) ?_ | refine aG (xF _ _ _ _ _ _ _ a g b) (by first | rfl | simp only [aA,aD, *]) (by intro k;first | rfl | simp only [ *,zaa]) ?_ | refine aG (uR _ hs) (by first | rfl | simp only [aA,aD, *]) (by intro k;first | rfl | simp only [ *,zaa]) ?_) <;> simp only [↓pre,zab,simprocAttr, *])
  | true =>
   cases n:mG l s with
   | false=>simp only [↓pre,zab,acG,yZ,abY,aV,simprocAttr,aA,m,i,n];repeat' ((first | refine cU (fun _ => ?_) (fun _ => ?_) | refine cO (fun _ => ?_) (fun _ => ?_) | refine cV (fun _ => ?_) (fun _ => ?_) | refine cQ (fun _ => ?_) (fun _ => ?_) | refine cS (fun _ => ?_) (fun _ => ?_) | refine cM (fun _ => ?_) (fun _ => ?_) | refine aH (xF _ _ _ _ _ _ _ a g b) (by first | rfl | simp only [aD, *]) ?_ | refine aH (uR _ hs) (by first | rfl | simp only [aA,aD, *]) ?_ | refine aH (afL _ _ _ _ a b f.out) (by first | rfl | simp only [aD, *]) ?_ | refine aG (xF _ _ _ _ _ _ _ a g b) (by first | rfl | simp only [aA,aD, *]) (by intro k;first | rfl | simp only [ *,zaa]) ?_ | refine aG (uR _ hs) (by first | rfl | simp only [aA,aD, *]) (by intro k;first | rfl | simp only [ *,zaa]) ?_ | refine aG (afL _ _ _ _ a b f.out) (by first | rfl | simp only [aA,aD, *]) (by intro k;first | rfl | simp only [ *,zaa]) ?_) <;> simp only [↓pre,zab,aV,simprocAttr, *])
   | true =>
    obtain ⟨t,z,e⟩:∃ t z,l[tJ l s]? = some (t,z):=by
     unfold mG at n;split at n
     ·rename_i d p;exact ⟨_,_,p⟩
     ·cases n
    obtain ⟨y,A,B,q⟩:=tH (x:=x) e;have o:tJ l s < l.length:=(ay5.1 e).1;have j:vO l s=z:=by unfold vO;rw [e]
    replace e:=Tw.Hid.mk e;simp only [↓pre,zab,acG,yZ,abY,aV,simprocAttr,aA,m,i,n,j];repeat' ((first | refine cU (fun _ => ?_) (fun _ => ?_) | refine cO (fun _ => ?_) (fun _ => ?_) | refine cV (fun _ => ?_) (fun _ => ?_) | refine cQ (fun _ => ?_) (fun _ => ?_) | refine cS (fun _ => ?_) (fun _ => ?_) | refine cM (fun _ => ?_) (fun _ => ?_) | refine aH (xF _ _ _ _ _ _ _ a g b) (by first | rfl | simp only [aD, *]) ?_ | refine aH (uR _ hs) (by first | rfl | simp only [aA,aD, *]) ?_ | refine aH (afL _ _ _ _ a b f.out) (by first | rfl | simp only [aD, *]) ?_ | refine aG (xF _ _ _ _ _ _ _ a g b) (by first | rfl | simp only [aA,aD, *]) (by intro k;first | rfl | simp only [ *,zaa]) ?_ | refine aG (uR _ hs) (by first | rfl | simp only [aA,aD, *]) (by intro k;first | rfl | simp only [ *,zaa]) ?_ | refine aG (afL _ _ _ _ a b f.out) (by first | rfl | simp only [aA,aD, *]) (by intro k;first | rfl | simp only [ *,zaa]) ?_) <;> simp only [↓pre,zal,acG,simprocAttr,a.addr', *])
 ·simp only [↓pre,zab,acG,abY,yZ,aV,simprocAttr,aA,m];repeat' ((first | refine cU (fun _ => ?_) (fun _ => ?_) | refine cO (fun _ => ?_) (fun _ => ?_) | refine cV (fun _ => ?_) (fun _ => ?_) | refine cQ (fun _ => ?_) (fun _ => ?_) | refine cS (fun _ => ?_) (fun _ => ?_) | refine cM (fun _ => ?_) (fun _ => ?_) | refine aH (xF _ _ _ _ _ _ _ a g b) (by first | rfl | simp only [aD, *]) ?_ | refine aG (xF _ _ _ _ _ _ _ a g b) (by first | rfl | simp only [aA,aD, *]) (by intro k;first | rfl | simp only [ *,zaa]) ?_) <;> simp only [↓pre,zab,simprocAttr, *])
end Go.Proofs.YtaekhhlgnbhnpaaGreat
set_option maxRecDepth 10000
namespace Go.Proofs.YtaekhhlgnbhnpaaGreat
open Go Go.Tw Go.Proofs Go.Gf
theorem apy {m:aF} {v x:AV} {K:bR→Prop} {n cnt:Nat} {cells new:List AV} (b:Own m 85 2 v n cells) (c:f9 ayS 85 2 m x=some (new,cnt)) (d:new.length=cnt*2) (f:n+cnt≤1000000000000)
 (e:∀ a m',Own m' 85 2 a (n+cnt) (cells++new)→m.next≤m'.next→K ⟨a,m',none⟩):eO (gA ayS 85 m v x) K :=
 pA (by kernel_rfl) b (sz:=2) (y:=24) (zl:=[.string .empty,.int .i64 0]) (by kernel_rfl) (by kernel_rfl) (by kernel_rfl) rfl c d (by omega) (by omega) e
theorem apz (l:List dV):(dX l).length=l.length*2:=by
 induction l with
 | nil=>rfl
 | cons e l a=>simp only [dX,aAC,a];omega
theorem apA (a b:List dV):dX (a++b)=dX a++dX b:=by
 induction a with
 | nil=>rfl
 | cons e a c=>simp [dX,c]
def nI (n:Nat) (r:List UInt8):dV:=(⟨(r.take n).toArray⟩,(((r.getD n 0).toNat*256+(r.getD (n+1) 0).toNat:Nat):Int))
def kZ (bs:List UInt8):Option (List dV):=match bs with
 | []=>some []
 | n::r=>if h:r.length < n.toNat+2 then none else (kZ (r.drop (n.toNat+2))).map (nI n.toNat r::·)
 termination_by bs.length
 decreasing_by simp only [aA9,aAC];omega
theorem aiG:kZ []=some []:=by rw [kZ]
theorem aiH {n:UInt8} {r:List UInt8} (h:r.length < n.toNat+2):kZ (n::r)=none:=by rw [kZ,dif_pos h]
theorem aiI {n:UInt8} {r:List UInt8} (h:¬ r.length < n.toNat+2):kZ (n::r)=(kZ (r.drop (n.toNat+2))).map (nI n.toNat r::·):=by rw [kZ,dif_neg h]
theorem aiJ {n:Nat} {r:List UInt8} (h:n≤r.length):(nI n r).1.size=n:=by
 simp [nI,ByteArray.size,h]
theorem apB (a b:List dV):fB (a++b)=fB a+fB b:=by simp [fB]
theorem apC:∀ (k:Nat) (bs:List UInt8) (l:List dV),bs.length≤k→kZ bs=some l→fB l=bs.length
 | _,[],l,_,h=>by rw [aiG] at h;cases h;rfl
 | 0,_::_,_,hk,_=>by simp at hk
 | k+1,n::r,l,hk,h=>by
  by_cases b:r.length < n.toNat+2
  ·rw [aiH b] at h;cases h
  ·rw [aiI b] at h;obtain ⟨c,d,rfl⟩:=ayR h;have a:=apC k _ c (by simp only [aA9,aAC] at hk ⊢;omega) d;have e:=aiJ (n:=n.toNat) (r:=r) (by omega);rw [aA9] at a;simp only [fB,List.map_cons,List.sum_cons,aAC,e] at a ⊢;omega
theorem adq {bs:List UInt8} {l:List dV} (h:kZ bs=some l):fB l=bs.length:=apC _ bs l (Nat.le_refl _) h
theorem afM (l:List dV):l.length≤fB l:=by
 induction l with
 | nil=>simp
 | cons a l b=>simp only [fB,List.map_cons,List.sum_cons,aAC] at b ⊢;omega
theorem apD {bs:List UInt8} {l:List dV} (h:kZ bs=some l):l.length≤bs.length:=by
 have:=adq h;have:=afM l;omega
def vP (l:List dV) (e:Int):fF:=⟨.tup [(fU 85 l.length (dX l)).v,aC e],(fU 85 l.length (dX l)).rows⟩
def fK (k r c w:Int) (bs:List UInt8):Int:=if bG k r c w=true then (if mI k c < (bs.length:Int) then 3 else (match kZ bs with | some l=>(if oG w l=true then 0 else 220) | none=>220)) else 2
def nJ (bs:List UInt8):List dV:=(kZ bs).getD []
theorem axx {m:aF} {v:AV} {n:Nat} {r:List UInt8} {x:List AV} (c:aZ v n (aL r++x)) (h:n≤r.length):mJ ayS m 52 9 v=some ⟨.val (.string (nI n r).1),m,none⟩:=by
 have b:r=r.take n++r.drop n:=(List.take_append_drop n r).symm;have e:aL r++x=(r.take n).map bA++(aL (r.drop n)++x):=by
  conv=>lhs;rw [b]
  unfold aL;rw [List.map_append,List.append_assoc]
 have d:(r.take n).length=n:=by rw [List.length_take];omega
 have a:aZ v (r.take n).length ((r.take n).map bA++(aL (r.drop n)++x)):=by rw [d,←e];exact c
 exact a.str (P:=ayS) (m:=m) (el:=5) (src:=52) (dst:=9) (by kernel_rfl) (by kernel_rfl) (by kernel_rfl) (by kernel_rfl)
theorem apE {d c:Bool} {m:aF} {v:AV} {n:Nat} {r:List UInt8} {x:List AV} (g:aZ v n (aL r++x)) (h:n≤r.length):mM ayS d c m 52 9 v=some ⟨.val (.string (nI n r).1),m,none⟩:=by
 have e:=axx (m:=m) g h;have b:bZ ayS 9=none:=by kernel_rfl
 rcases g.form with ⟨rfl,_⟩ | ⟨a,f,rfl,_⟩ | ⟨a,f,rfl,_⟩
 ·rw [←e];exact agQ b
 ·rw [←e];have:mM ayS d c m 52 9 (.emp a f)=mL ayS c m 52 9 (.emp a f):=by cases d <;> cases c <;> rfl
  rw [this,aaS b]
 ·rw [←e];exact ad2 b
theorem apF (k r c w:Int) (v:AV) (bs:List UInt8) (x:List AV) (hv:aZ v bs.length (aL bs++x)) (hn:bs.length≤1000000000):aR ayS 125 [aA k r c w,v] (if fK k r c w bs=0 then vP (nJ bs) 0 else vP [] (fK k r c w bs)):=by
 refine aX Tryz.func125 aB (h:=?_);unfold Tryz.f125;have hp:=hv.plain;cases h:bG k r c w with
 | false =>
  have u:fK k r c w bs=2:=by simp [fK,h]
  rw [if_neg (by rw [u];decide),u];simp only [↓pre,zab,rG,simprocAttr,aA];repeat' ((first | refine cU (fun _ => ?_) (fun _ => ?_) | refine cO (fun _ => ?_) (fun _ => ?_) | refine cV (fun _ => ?_) (fun _ => ?_) | refine cQ (fun _ => ?_) (fun _ => ?_) | refine cS (fun _ => ?_) (fun _ => ?_) | refine cM (fun _ => ?_) (fun _ => ?_) | refine aH (vF _ _ _ _) (by first | rfl | simp only [aA,aD, *]) ?_ | refine aG (vF _ _ _ _) (by first | rfl | simp only [aA,aD, *]) (by intro k;first | rfl | simp only [ *,zaa]) ?_) <;> simp only [↓pre,zab,simprocAttr, *])
  rfl
 | true =>
  by_cases G:mI k c < (bs.length:Int)
  ·have u:fK k r c w bs=3:=by simp [fK,h,G]
   rw [if_neg (by rw [u];decide),u];simp only [↓pre,zab,rG,simprocAttr,aA];repeat' ((first | refine cU (fun _ => ?_) (fun _ => ?_) | refine cO (fun _ => ?_) (fun _ => ?_) | refine cV (fun _ => ?_) (fun _ => ?_) | refine cQ (fun _ => ?_) (fun _ => ?_) | refine cS (fun _ => ?_) (fun _ => ?_) | refine cM (fun _ => ?_) (fun _ => ?_) | refine aH (vF _ _ _ _) (by first | rfl | simp only [aA,aD, *]) ?_ | refine aG (vF _ _ _ _) (by first | rfl | simp only [aA,aD, *]) (by intro k;first | rfl | simp only [ *,zaa]) ?_) <;> simp only [↓pre,zae,rG,simprocAttr,hv.len', *])
   rfl
  ·have hM:(bs.length:Int)≤mI k c:=by omega
   replace hM:=Hid.mk hM;simp only [↓pre,zab,rG,simprocAttr,aA];repeat' ((first | refine cU (fun _ => ?_) (fun _ => ?_) | refine cO (fun _ => ?_) (fun _ => ?_) | refine cV (fun _ => ?_) (fun _ => ?_) | refine cQ (fun _ => ?_) (fun _ => ?_) | refine cS (fun _ => ?_) (fun _ => ?_) | refine cM (fun _ => ?_) (fun _ => ?_) | refine aH (vF _ _ _ _) (by first | rfl | simp only [aA,aD, *]) ?_ | refine aG (vF _ _ _ _) (by first | rfl | simp only [aA,aD, *]) (by intro k;first | rfl | simp only [ *,zaa]) ?_) <;> simp only [↓pre,zae,rG,simprocAttr,hv.len', *])
   rw [bS];refine bU (fun n e m=>∃ (l:List dV) (g:List UInt8) (v':AV) (y:List AV),g.length=n∧e 1=v'∧aZ v' g.length (aL g++y)∧e 2 = .tptr 0 [aC k,aC r,aC c,aC w]∧Own m 85 2 (e 8) l.length (dX l)∧kZ bs=(kZ g).map (l++·)∧fB l+g.length=bs.length∧l.length≤fB l) bs.length ⟨[],bs,v,x,rfl, ?_,hv, ?_, ?_, ?_, ?_, ?_⟩ ?_
   ·simp [bB.set,jY]
   ·simp [bB.set,aC]
   ·simp [bB.set,dX];exact fC
   ·simp
   ·simp [fB]
   ·simp
   ·rintro n e m ⟨l,g,v',y,hi,E,f,V,ho,A,p,b7⟩;have b8:=f.plain;replace A:=Hid.mk A;replace p:=Hid.mk p;cases g with
    | nil =>
     have z0:((0:Nat):Int)=0:=rfl;have C:kZ bs=some l:=by rw [A.out,aiG];simp
     have L:chk k r c w l=if oG w l=true then 0 else 220:=by
      have h1:=adq C;have h2:=hM.out;simp only [chk,h,if_true];split
      ·rw [if_neg (by omega)]
      ·rfl
     have Z:fK k r c w bs=chk k r c w l:=by
      rw [L];simp [fK,h,G,C]
     have a7:nJ bs=l:=by simp [nJ,C]
     have b2:=apD C;have o:=adq C;replace C:=Hid.mk C;replace L:=Hid.mk L;replace o:=Hid.mk o;obtain ⟨av,U,a9⟩:=alv ho (a:=aA k r c w) rfl;have a4:=xF k r c w av l [] (by rw [List.append_nil];exact a9) (by have:=o.out;omega) (by omega);simp only [↓pre,zae,rG,simprocAttr,E,V,f.len',z0];repeat' ((first | refine cU (fun _ => ?_) (fun _ => ?_) | refine cO (fun _ => ?_) (fun _ => ?_) | refine cV (fun _ => ?_) (fun _ => ?_) | refine cQ (fun _ => ?_) (fun _ => ?_) | refine cS (fun _ => ?_) (fun _ => ?_) | refine cM (fun _ => ?_) (fun _ => ?_)) <;> simp only [↓pre,zae,rG,simprocAttr,aA,E,V,f.len',z0, *])
     refine xX a4 U rfl rfl ?_;by_cases u:chk k r c w l=0
     ·rw [Z,if_pos u,a7];simp only [↓pre,zab,simprocAttr,u];repeat' ((first | refine cU (fun _ => ?_) (fun _ => ?_) | refine cO (fun _ => ?_) (fun _ => ?_) | refine cV (fun _ => ?_) (fun _ => ?_) | refine cQ (fun _ => ?_) (fun _ => ?_) | refine cS (fun _ => ?_) (fun _ => ?_) | refine cM (fun _ => ?_) (fun _ => ?_)) <;> simp only [↓pre,zae,rG,simprocAttr,aA,E,V,u, *])
      rw [ad6 (by kernel_rfl) ho];rfl
     ·have a0:chk k r c w l=220:=by
       have:=L.out;rw [this] at u ⊢;split at u
       ·exact absurd rfl u
       ·rename_i hq;rw [if_neg hq]
      rw [Z,if_neg u,a0];simp only [↓pre,zab,simprocAttr];repeat' ((first | refine cU (fun _ => ?_) (fun _ => ?_) | refine cO (fun _ => ?_) (fun _ => ?_) | refine cV (fun _ => ?_) (fun _ => ?_) | refine cQ (fun _ => ?_) (fun _ => ?_) | refine cS (fun _ => ?_) (fun _ => ?_) | refine cM (fun _ => ?_) (fun _ => ?_)) <;> simp only [↓pre,zae,rG,simprocAttr,aA,E,V,u,a0, *])
      rfl
    | cons a q =>
     have ha:=a.toNat_lt;have B:(a::q).length=q.length+1:=rfl;have w1:azv.wrap (a.toNat:Int)=(a.toNat:Int):=cD (by omega);have w2:azv.wrap ((a.toNat:Int)+3)=((a.toNat+3:Nat):Int):=by rw [←cD (n:=a.toNat+3) (by omega)];rfl
     have J:¬ (((q.length+1:Nat):Int)=0):=by omega
     have I:=iE (bs:=a::q) (x:=y) (i:=0) (a:=a) rfl;have D:0 < q.length+1:=by omega
     have b4:q.length+1≤bs.length:=by have:=p.out;simp only [aAC] at this;omega
     by_cases Q:q.length < a.toNat+2
     ·have j:((q.length+1:Nat):Int) < ((a.toNat+3:Nat):Int):=by omega
      have u:fK k r c w bs=220:=by
       have h1:kZ bs=none:=by rw [A.out,aiH Q];rfl
       simp [fK,h,G,h1]
      rw [if_neg (by rw [u];decide),u];replace B:=Hid.mk B;simp only [↓pre,zae,rG,bE,simprocAttr,E,f.len',f.addr',J,I,D,w1,w2,j];repeat' ((first | refine cU (fun _ => ?_) (fun _ => ?_) | refine cO (fun _ => ?_) (fun _ => ?_) | refine cV (fun _ => ?_) (fun _ => ?_) | refine cQ (fun _ => ?_) (fun _ => ?_) | refine cS (fun _ => ?_) (fun _ => ?_) | refine cM (fun _ => ?_) (fun _ => ?_)) <;> simp only [↓pre,zae,rG,bE,simprocAttr,aA,E,V,f.len',f.addr',J,I,D,w1,w2,j, *])
      rfl
     ·have j:¬ ((q.length+1:Nat):Int) < ((a.toNat+3:Nat):Int):=by omega
      have w3:azv.wrap (1+(a.toNat:Int))=((1+a.toNat:Nat):Int):=by rw [←cD (n:=1+a.toNat) (by omega)];rfl
      have w4:azv.wrap (2+(a.toNat:Int))=((2+a.toNat:Nat):Int):=by rw [←cD (n:=2+a.toNat) (by omega)];rfl
      obtain ⟨v1,s1,r1⟩:=f.slice (P:=ayS) (t:=52) (sz:=1) (lo:=some 1) (hi:=some (1+a.toNat)) (by kernel_rfl) (by simp) (by simp only [aAB,B];omega);obtain ⟨v2,s2,r2⟩:=f.slice (P:=ayS) (t:=52) (sz:=1) (lo:=some (a.toNat+3)) (hi:=none) (by kernel_rfl) (by simp only [aAB,Option.getD_none,B];omega) (Nat.le_refl _);have a6:aZ v1 a.toNat (aL q++y):=by
       have E:(some (1+a.toNat)).getD (a::q).length - (some 1).getD 0=a.toNat:=by simp
       rw [E] at r1;simpa [aL] using r1
      have b1:aZ v2 (q.drop (a.toNat+2)).length (aL (q.drop (a.toNat+2))++y):=by
       have E:(none:Option Nat).getD (a::q).length - (some (a.toNat+3)).getD 0=(q.drop (a.toNat+2)).length:=by simp
       rw [E] at r2;simp only [aAB,azD] at r2;rw [qK (a::q) y (a.toNat+3) (by rw [B];omega)] at r2;exact r2
      have a1:=fun (d c:Bool) (m:aF)=>apE (d:=d) (c:=c) (m:=m) a6 (by omega)
      have K:q[a.toNat]? = some (q.getD a.toNat 0):=by rw [azp,azj (by omega)];rfl
      have N:q[a.toNat+1]? = some (q.getD (a.toNat+1) 0):=by rw [azp,azj (by omega)];rfl
      have T:=iE (bs:=a::q) (x:=y) (i:=1+a.toNat) (a:=q.getD a.toNat 0) (by rw [Nat.add_comm];simpa using K);have W:=iE (bs:=a::q) (x:=y) (i:=2+a.toNat) (a:=q.getD (a.toNat+1) 0) (by rw [show 2+a.toNat=a.toNat+1+1 by omega];simpa using N);have O:1+a.toNat < q.length+1:=by omega
      have R:2+a.toNat < q.length+1:=by omega
      generalize hh:q.getD a.toNat 0=F at T K;generalize hl:q.getD (a.toNat+1) 0=S at W N;have b5:=F.toNat_lt;have a2:=S.toNat_lt;have w5:azv.wrap (F.toNat:Int)=(F.toNat:Int):=cD (by omega);have w6:azv.wrap (S.toNat:Int)=(S.toNat:Int):=cD (by omega);have w7:azv.wrap ((F.toNat:Int)*2 ^ min 8 64)=((F.toNat*256:Nat):Int):=by
       rw [show ((F.toNat:Int)*2 ^ min 8 64)=((F.toNat*256:Nat):Int) by simp];exact cD (by omega)
      have w8:zR .i64 ((F.toNat*256:Nat):Int) (S.toNat:Int)=((F.toNat*256+S.toNat:Nat):Int):=by
       rw [ad8 (by omega) (by omega),ad9 a2]
      have Y:=fun (m:aF) (s:ByteArray) (z:Int)=>ad7 (P:=ayS) (m:=m) (t:=73) (a := .string s) (b := .int .i64 z) rfl rfl (by kernel_rfl) (by kernel_rfl)
      have b0:=fun m:aF=>f.slOk (P:=ayS) (m:=m) (t:=52)
      have X:=fun d c m lo hi mx=>f.sliceX (P:=ayS) (m:=m) (t:=52) (d:=d) (c:=c) (lo:=lo) (hi:=hi) (mx:=mx)
      have H:nI a.toNat q=((nI a.toNat q).1,((F.toNat*256+S.toNat:Nat):Int)):=by rw [←hh,←hl];rfl
      replace B:=Hid.mk B;replace hh:=Hid.mk hh;replace hl:=Hid.mk hl;replace K:=Hid.mk K;replace N:=Hid.mk N;replace H:=Hid.mk H;replace ho:=Hid.mk ho;simp only [↓pre,zae,rG,bE,lF,aBa,azD,simprocAttr,E,f.len',f.addr',J,I,D,w1,w2,j,w3,w4,s1,X,a1,T,W,O,R,w5,w6,w7,w8,aAP,dB,Y];repeat' ((first | refine cU (fun _ => ?_) (fun _ => ?_) | refine cO (fun _ => ?_) (fun _ => ?_) | refine cV (fun _ => ?_) (fun _ => ?_) | refine cQ (fun _ => ?_) (fun _ => ?_) | refine cS (fun _ => ?_) (fun _ => ?_) | refine cM (fun _ => ?_) (fun _ => ?_)) <;> simp only [↓pre,zae,rG,bE,lF,Option.map_some,aBa,azD,simprocAttr,aA,E,V,f.len',f.addr',J,I,D,w1,w2,j,w3,w4,s1,s2,b0,X,a1,T,W,O,R,w5,w6,w7,w8,aAP,dB,Y, *])
      refine apy ho.out zQ rfl (by have:=p.out;omega) (fun v3 m3 a5 b3 => ?_);refine dE (by kernel_rfl) ?_;simp only [↓pre,zae,aBa,simprocAttr,E,V,X,w2,s2,dB];have a3:=aiJ (n:=a.toNat) (r:=q) (by omega);have o:fB (l++[nI a.toNat q])=fB l+(3+a.toNat):=by
       rw [apB];simp [fB,a3]
      refine ⟨n - (a.toNat+3),by simp only [aAC] at hi;omega,l++[nI a.toNat q],q.drop (a.toNat+2),v2,y, ?_, ?_,b1, ?_, ?_, ?_, ?_⟩
      ·rw [aA9];simp only [aAC] at hi;omega
      ·simp [bB.set]
      ·have M:dX (l++[nI a.toNat q])=dX l++[.val (.string (nI a.toNat q).1),.val (.int .i64 ((F.toNat*256+S.toNat:Nat):Int))]:=by
        rw [apA,H.out];simp [dX,aC]
       rw [M,aAZ];exact a5
      ·rw [A.out,aiI Q];cases kZ (q.drop (a.toNat+2)) <;> simp
      ·rw [o,aA9];have:=p.out;simp only [aAC] at this;omega
      ·rw [o,aAZ];simp only [aAC,List.length_nil];omega
def aiK (l:List dV) (e:Int):AV := .tup [bD l.length (dX l),aC e]
theorem y6 (l:List dV) (e:Int):fE ayS (vP l e).rows 0 (vP l e).v=aiK l e∧iT ayS (vP l e).rows 0 (vP l e).v=true:=by
 have b:=alG (P:=ayS) 85 l.length (dX l);have a:=alH (P:=ayS) (el:=85) (by kernel_rfl) l.length (dX l);exact ⟨by simp only [vP,fE,iD,aC,aiK];rw [b],by simp [vP,iT,j7,aC,a]⟩
def ab0 (k r c w:Int) (bs:List UInt8):AV:=aiK (if fK k r c w bs=0 then nJ bs else []) (fK k r c w bs)
theorem axy (k r c w:Int) (v:AV) (bs:List UInt8) (x:List AV) (e:aZ v bs.length (aL bs++x)) (d:bs.length≤1000000000):aR ayS 125 [aA k r c w,v] ⟨ab0 k r c w bs,[]⟩:=by
 have h:=apF k r c w v bs x e d;unfold ab0;split at h
 ·rename_i b;have a:=uB 0 h (y6 _ _).2;rw [(y6 _ _).1] at a;rw [if_pos b,b];exact a
 ·rename_i b;have a:=uB 0 h (y6 _ _).2;rw [(y6 _ _).1] at a;rw [if_neg b];exact a
end Go.Proofs.YtaekhhlgnbhnpaaGreat