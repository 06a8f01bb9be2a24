import Derived.Test.YtaekhhlgnbhnpaaGreatQmcG05
import Derived.Test.YtaekhhlgnbhnpaaGreatQmcG06
import Derived.Deep.LoopGhost
set_option linter.unusedVariables false
set_option linter.unusedSimpArgs false
open Array renaming getD_eq_getD_getElem?→ayZ,map→aAt,getElem?_eq_some_iff→azB,replicate→azK,getElem?_replicate→aAA
open Bool renaming and_eq_true→aAq,false_eq_true→azA,and_self→aAx,or_eq_true→aAy
open Classical renaming byContradiction→aAB
open Go.Builtin renaming append_→azT
open Go.Instr renaming buildSlice→azu
open List renaming range→aAp,getElem?_map→azo,map_cons→aAr,map_nil→aAs,ext_getElem?→aAi,getElem?_eq_none→ay6,all_eq_true→aAu,getElem?_drop→aAv,map_congr_left→aAw,mem_range→aAz
open List.cons renaming injEq→aAe
open Nat renaming le_refl→aza,zero_add→azq,lt_or_ge→azX,zero_le→aAC
open Option renaming map_eq_some_iff→ay1,bind_some→aAk
open Option.some renaming injEq→ay0
namespace Go.Tw
open Go
def zR (P:Program) (m:aF) (t:TypeId) (len:Nat) (parts:List (Nat×AV)):Option bL :=
 (bO P t).bind fun el=>(bX P el).bind fun n=>(iJ P el len).bind fun z=>if len*n≤16777216 then
  (hU (fun i=>some (i*n,n)) z parts).bind fun cs=>(fzs m cs).bind fun r=>bI (.tree len len r.1 true) r.2
 else none
section
variable {P:Program} {w:World} {I:Nat→Prop} {ρ:cA} {m:aF}
theorem arH (E:SR P w I ρ m) {t:TypeId} {len:Nat} {parts:List (Nat×AV)} {out:bL} (h:fY P m t len parts=some out) (q:∀ b,m.next≤b→b < out.m.next→ρ b=none)
 {c:List (Nat×Value)} (N:c.length=parts.length) (T:∀ (j i:Nat) (C:AV) (D:Nat) (v:Value),parts[j]? = some (i,C)→c[j]? = some (D,v)→i=D∧VR P w I ρ C v) (addr:Value) :
 iN P w I ρ m ((azu t len c.toArray).run P w) id out addr:=by
 unfold fY at h;obtain ⟨el,o,h⟩:=ayS h;obtain ⟨n,A,h⟩:=ayS h;obtain ⟨z,M,h⟩:=ayS h;split at h
 ·rename_i O;obtain ⟨cs,s,h⟩:=ayS h;split at h
  ·cases h
  rename_i r;simp only [zag] at h;subst h;obtain ⟨sz,k,arr,L,K,U,H,Q⟩:=ad8 M;rw [A,ay0] at k;subst k;obtain ⟨l,F,W,X,R,J⟩:=abt (P:=P) (w:=w) (I:=I) (ρ:=ρ) (place:=fun i=>some (i*n,n)) (placeE:=fun i=>some (i*n,n)) (fun _ _ h=>h) parts c z cs arr s N T (by rw [K,U]) H (Q w I ρ);have B:=qN.alloc w l el;obtain ⟨a,b⟩:=ad6 B E;refine ⟨.slice (some ⟨w.heap.size,0,none⟩) len len,_,_,_, ?_, ?_,a,b,fun d y h=>by cases h⟩
  ·have e:=L w;simp only [Sem.run_bind,Sem.run_ite,Sem.run_pure] at e;by_cases p:len*n=0
   ·simp [p] at e;simp [azu,cR (iM o),iF A,p,F,e,newRow]
   ·simp only [p,if_false] at e;have g:¬ (16777216 < len*n):=by omega
    cases f:(zeroValue el).run P w with
    | halt x y=>rw [f] at e;simp at e
    | ok x y =>
     rw [f] at e;simp at e;obtain ⟨G,S⟩:=e;subst S;simp [azu,cR (iM o),iF A,p,g,f,G,F,newRow]
  ·simp only [id,VR];obtain ⟨V,u⟩:=B.blk;refine ⟨_,0,len,rfl,.inr rfl,⟨aza _,aza _⟩,fun _=>rfl,R, ?_⟩;exact iK (eN (b.keeps E) (fun _ _ h=>h) _ _ (aaJ cs _ (by simpa using r) J)) fun j _=>by rw [cell_of_row _ _ _ _ _ _ u,azq]
 ·cases h
theorem arI (L:SR P w I ρ m) {t:TypeId} {len:Nat} {parts:List (Nat×AV)} {out:bL} (h:zR P m t len parts=some out) (q:∀ b,m.next≤b→b < out.m.next→ρ b=none)
 {c:List (Nat×Value)} (R:c.length=parts.length) (Y:∀ (j i:Nat) (D:AV) (E:Nat) (v:Value),parts[j]? = some (i,D)→c[j]? = some (E,v)→i=E∧VR P w I ρ D v) (addr:Value) :
 iN P w I ρ m ((azu t len c.toArray).run P w) id out addr:=by
 unfold zR at h;obtain ⟨el,o,h⟩:=ayS h;obtain ⟨n,B,h⟩:=ayS h;obtain ⟨z,Q,h⟩:=ayS h;split at h
 ·rename_i S;obtain ⟨cs,r,h⟩:=ayS h;obtain ⟨M,s,h⟩:=ayS h;obtain ⟨u,m'⟩:=M;simp only [zag] at h;subst h;obtain ⟨sz,k,arr,O,N,Z,J,T⟩:=ad8 Q;rw [B,ay0] at k;subst k;obtain ⟨l,F,f2,f3,V,K⟩:=abt (P:=P) (w:=w) (I:=I) (ρ:=ρ) (place:=fun i=>some (i*n,n)) (placeE:=fun i=>some (i*n,n)) (fun _ _ h=>h) parts c z cs arr r R Y (by rw [N,Z]) J (T w I ρ);have C:=qN.alloc w l el;obtain ⟨I1,G,g2,g3,W,g5,U⟩:=zK cs m m' I u _ s L K;obtain ⟨a,b⟩:=ad6 C G;refine ⟨.slice (some ⟨w.heap.size,0,none⟩) len len,_,_,_, ?_, ?_,a,g2.trans b,fun d y h=>by cases h⟩
  ·have e:=O w;simp only [Sem.run_bind,Sem.run_ite,Sem.run_pure] at e;by_cases p:len*n=0
   ·simp [p] at e;simp [azu,cR (iM o),iF B,p,F,e,newRow]
   ·simp only [p,if_false] at e;have g:¬ (16777216 < len*n):=by omega
    cases f:(zeroValue el).run P w with
    | halt x y=>rw [f] at e;simp at e
    | ok x y =>
     rw [f] at e;simp at e;obtain ⟨H,X⟩:=e;subst X;simp [azu,cR (iM o),iF B,p,g,f,H,F,newRow]
  ·simp only [id,VR];obtain ⟨fr,A⟩:=C.blk;refine ⟨_,0,len,rfl,.inr rfl,⟨aza _,aza _⟩,fun _=>rfl,U V, ?_⟩;exact iK (eN (b.keeps G) (fun _ _ h=>h) _ _ W) fun j _=>by rw [cell_of_row _ _ _ _ _ _ A,azq]
 ·cases h
end
def vH (P:Program) (d a:Bool) (m:aF) (t:TypeId) (x:AV):Option AV:=match d && a with
 | true=>(match x with | .tptr b cells=>qM P t cells b | _=>none)
 | false=>mH P m t x
def aem (a b:Option bL):Option bL:=match a with
 | some o=>some o
 | none=>b
def vI (P:Program) (d a:Bool) (m:aF) (t:TypeId) (len:Nat) (parts:List (Nat×AV)):Option bL:=match a,d with
 | true,true=>fY P m t len parts
 | true,false=>aem (fY P m t len parts) (zR P m t len parts)
 | false,_=>pR P m t len parts
def nL (P:Program) (a:Bool) (m:aF) (src dst:TypeId) (x:AV):Option bL:=match a,bO P dst,x with
 | true,some el,.val (.string s)=>if tR P el∧pQ P src∧bX P el=some 1 then bI (.tree s.size s.size (jA s) false) m else none
 | _,_,_=>nJ P m src dst x
theorem arJ {P:Program} {w:World} {I:Nat→Prop} {ρ:cA} {m:aF} (p:SR P w I ρ m) {e:Bool} {src dst:TypeId} {x:AV} {out:bL} (h:nL P e m src dst x=some out) (c:∀ b,m.next≤b→b < out.m.next→ρ b=none) {v:Value} (k:VR P w I ρ x v) (addr:Value) :
 iN P w I ρ m ((Go.convert src dst v).run P w) id out addr:=by
 unfold nL at h;split at h
 ·rename_i el s l;split at h
  ·rename_i z;obtain ⟨A,f,o⟩:=z;have g:=abo f;simp only [zag] at h;subst h;simp only [VR] at k;subst k;obtain ⟨cap,arr,w',r,u,q,D,t,B⟩:=ajr (P:=P) (w:=w) el s;obtain ⟨a,b⟩:=ad6 q p;refine ⟨.slice (some ⟨w.heap.size,0,none⟩) s.size cap,w',_,_, ?_, ?_,a,b,fun d y h=>by cases h⟩
   ·simp [Go.convert,cR g,cR (iM l),cR (agi A),r]
   ·simp only [id,VR];obtain ⟨C,i⟩:=q.blk;refine ⟨_,0,cap,rfl,.inr rfl,⟨aza _,u⟩,(fun h=>by cases h),agu s, ?_⟩;exact iK (agt s) fun j n=>by rw [cell_of_row _ _ _ _ _ _ i,azq];exact t j (by rw [agv] at n;exact n)
  ·cases h
 ·exact ajt p h c k addr
theorem arK {P:Program} {m:aF} {a:Bool} {src dst:TypeId} {x:AV} {out:bL} (h:nL P a m src dst x=some out):out.wb=none:=by
 unfold nL at h;split at h
 ·split at h
  ·simp only [zag] at h;subst h;rfl
  ·cases h
 ·unfold nJ at h;split at h
  ·split at h
   ·split at h
    ·simp only [zag] at h;subst h;rfl
    ·cases h
   ·cases h
  ·split at h
   ·split at h
    ·obtain ⟨_,_,h⟩:=ayS h;split at h
     ·obtain ⟨_,_,h⟩:=ayS h;simp only [zag] at h;subst h;rfl
     ·cases h
    ·cases h
   ·split at h
    ·obtain ⟨_,_,rfl⟩:=ayT h;rfl
    ·cases h
def pU (P:Program) (d a:Bool) (m:aF) (src dst:TypeId) (x:AV):Option bL:=match a && d with
 | true=>(match x with
  | .sl .. => none
  | _=>nL P a m src dst x)
 | false=>nL P a m src dst x
theorem ajY {P:Program} {d a:Bool} {m:aF} {src dst:TypeId} {x:AV} {out:bL} (h:pU P d a m src dst x=some out):nL P a m src dst x=some out:=by
 unfold pU at h;split at h
 ·split at h
  ·cases h
  ·exact h
 ·exact h
theorem arL {P:Program} {d a:Bool} {m:aF} {t:TypeId} {x b:AV} (h:vH P d a m t x=some b):mH P m t x=some b:=by
 unfold vH at h;split at h
 ·split at h
  ·exact h
  ·cases h
 ·exact h
def ac4 (P:Program) (m:aF) (t:TypeId) (x:AV) (lo hi mx:Option AV):Option bL:=if slOk P m t x then (dD lo).bind fun lo=>(dD hi).bind fun hi=>(dD mx).bind fun mx=>eV (kT P t lo hi mx x) m else none
def sliceX (P:Program) (d a:Bool) (m:aF) (t:TypeId) (x:AV) (lo hi mx:Option AV):Option bL:=match d && a with
 | true=>(match x with
  | .sl .. => none
  | _=>ac4 P m t x lo hi mx)
 | false=>ac4 P m t x lo hi mx
theorem arM {P:Program} {d a:Bool} {m:aF} {t:TypeId} {x:AV} {lo hi mx:Option AV} {out:bL} (h:sliceX P d a m t x lo hi mx=some out):ac4 P m t x lo hi mx=some out:=by
 unfold sliceX at h;split at h
 ·split at h
  ·cases h
  ·exact h
 ·exact h
def eO (r:Option bL) (K:bL→Prop):Prop:=match r with
 | some o=>K o
 | none=>False
def ajZ (P:Program) (f:FuncId) (args:List AV) (m:aF) (K:bL→Prop):Prop :=
 ∃ a r,dN 3 m args=some a∧aQ P f a r∧(kF args=false∨r.apart=true)∧K ⟨shift m.next r.v,eB P m r.rows,none⟩
def aj0 (P:Program) (f:FuncId) (args:List AV) (m:aF) (K:bL→Prop):Prop:=dV P f args m fun v m'=>K ⟨v,m',none⟩
def arN (P:Program) (f:FuncId) (args:List AV) (m:aF) (K:bL→Prop):Prop:=∃ r m',dV P f args m (fun v a=>v=r∧a=m')∧K ⟨r,m',none⟩
def aj1 (P:Program) (f:FuncId) (args:List AV) (m:aF) (K:bL→Prop):Prop :=
 ∃ a b r,fzs m args=some (a,b)∧aQ P f a r∧K ⟨shift b.next r.v,eB P b r.rows,none⟩
def aj2 (P:Program) (f:FuncId) (args:List AV) (m:aF) (K:bL→Prop):Prop:=∃ r,arg P f args m r∧K ⟨r,m,none⟩
def mU (P:Program) (d:Bool) (f:FuncId) (args:List AV) (m:aF) (K:bL→Prop):Prop:=ajZ P f args m K∨(d=false∧aj0 P f args m K)∨arN P f args m K∨aj2 P f args m K∨aj1 P f args m K
def aaM (P:Program) (f:FuncId) (args:List AV) (m:aF) (K:bL→Prop):Prop :=
 ∃ r,aQ P f args r∧r.rows=[]∧(∀ k m,dN k m args=some args)∧kF args=false∧(∀ k,shift k r.v=r.v)∧K ⟨r.v,m,none⟩
def oM (P:Program) (d b:Bool) (m:aF) (args:List AV) (K:bL→Prop):AV→Prop
 | .clo g a=>match b && d with
  | true=>aaM P g (args++a) m K
  | false=>mU P d g (args++a) m K
 | _=>False
theorem arO {P:Program} {d:Bool} {f:FuncId} {args:List AV} {m:aF} {K:bL→Prop} (h:aaM P f args m K):mU P d f args m K:=by
 obtain ⟨r,e,c,b,a,i,g⟩:=h;exact .inl ⟨args,r,b 3 m,e,.inl a,by rw [i,c];exact g⟩
theorem arP {P:Program} {d c:Bool} {f:FuncId} {args:List AV} {m:aF} {K:bL→Prop} (h:match c && d with | true=>aaM P f args m K | false=>mU P d f args m K):mU P d f args m K:=by
 split at h
 ·exact arO h
 ·exact h
def bZ (P:Program) (d c:Bool) (e:bC) (m:aF) (ty:TypeId) (K:bL→Prop):Op→Prop
 | .call ⟨.builtin b,args,ts⟩=>eO (tT P m ts ty (args.toList.map (opd e)) b) K
 | .call ⟨.value f,args,_⟩=>oM P d c m (args.toList.map (opd e)) K (opd e f)
 | .call _=>False
 | .buildSlice t len parts=>eO (vI P d c m t len (parts.toList.map fun p=>(p.1,opd e p.2))) K
 | .load t a=>eO (eV (vH P d c m t (opd e a)) m) K
 | .slice t x lo hi mx=>eO (sliceX P d c m t (opd e x) (lo.map (opd e)) (hi.map (opd e)) (mx.map (opd e))) K
 | .convert src dst x=>eO (pU P d c m src dst (opd e x)) K
 | .lookup t x k false=>eO (eV (xY P m t (opd e x) (opd e k)) m) K
 | .mapUpdate t x k v=>eO (vG P m t (opd e x) (opd e k) (opd e v)) K
 | .entry x=>eO (eV (ac0 m (opd e x)) m) K
 | .makeMap _ none=>d=false∧abC m K
 | .range t x=>d=false∧abD P m t (opd e x) K
 | .next x false=>d=false∧abE m (opd e x) K
 | op=>eO (cZ P c e m op) K
def wS (e:bC):Option (Nat×AV)→bC
 | some (d,y)=>e.set d y
 | none=>e
def abG (c:Bool):Op→Bool
 | .load .. | .slice .. | .buildSlice .. | .convert .. | .call ⟨.value _,_,_⟩=>c
 | .move _ | .assign _ | .build .. | .pick .. | .binOp .. | .unOp .. | .nilCheck _ | .extract .. | .field .. | .fieldAddr .. | .indexAddr .. | .index .. => true
 | .call ⟨.builtin .len,_,_⟩ | .call ⟨.builtin .min,_,_⟩ | .call ⟨.builtin .max,_,_⟩=>true
 | _=>false
def vJ (o:Oper):List Nat:=(o.after.toList.filter fun e=>Region.binds .any e).map (·.on)
def just (a:List Nat) (bs:List Nat):Nat:=bs.foldl (fun x b=>x ||| (2 ^ b ||| a.getD b 0)) 0
def aj3:List Oper→List Nat→List Nat
 | [],acc=>acc
 | o::l,acc=>aj3 l (acc++[just acc (vJ o)])
def lJ (a:Array Oper):List Nat:=aj3 a.toList []
def bef (a:List Nat) (j i:Nat):Bool:=(a.getD i 0).testBit j
def aen (b:Nat→Bool) (a:Array Oper) (i:Nat):Bool:=(aAp a.size).all fun k=>k == i || (match a[k]? with | some o=>abG (b (o.dst.getD 0)) o.op | none=>true) || bef (lJ a) k i || bef (lJ a) i k
def agK:Op→Option Nat
 | .move (.tmp z)=>some z
 | .nilCheck (.tmp z)=>some z
 | .fieldAddr _ (.tmp z) _=>some z
 | _=>none
def aeo (a:Array Oper):Nat→Nat→Bool
 | 0,y=>a.all fun o=>o.dst != some y
 | n+1,y=>a.all fun o=>o.dst != some y || (match agK o.op with | some z=>aeo a n z | none=>false)
def ac5 (a:Array Oper):Op→Bool
 | .load _ (.tmp t)=>aeo a 3 t
 | _=>false
def agL:Op→Bool
 | .load .. => true
 | _=>false
def xZ (b:Nat→Bool) (a:Array Oper) (i:Nat):Bool:=((aAp a.size).all fun k=>k == i || (match a[k]? with | some o=>abG (b (o.dst.getD 0)) o.op || (decide (k < i) && ac5 a o.op) | none=>true) || bef (lJ a) k i || bef (lJ a) i k) && (aAp i).all fun k=>match a[k]? with | some o=>abG (b (o.dst.getD 0)) o.op || agL o.op | none=>true
def drawn (b:Nat→Bool) (a:Array Oper) (k:Nat) (m:aF) (out:bL):Prop:=out.wb=none∧(aen b a (a.size - k)=true∨out.m=m∨(xZ b a (a.size - k)=true∧∃ x,out.m=m.push x))
def iO (P:Program) (a:Nat→Bool) (d:Bool) (b:Array Oper) (Q:bC→aF→Prop):List Oper→bC→aF→Prop
 | [],e,m=>Q e m
 | o::rest,e,m =>
  if sS b e o then bZ P d (a (o.dst.getD 0)) e m o.type (fun out=>(d=true→drawn a b (rest.length+1) m out)∧iO P a d b Q rest ((wS e out.wb).put o.dst out.v) out.m) o.op
  else iO P a d b Q rest (e.put o.dst eI) m
def sW (K:bC→aF→Prop) (Q:Ex→bC→aF→Prop):Ex→bC→aF→Prop
 | .normal,e,m=>K e m
 | x,e,m=>Q x e m
def qP (id:Nat) (Q:Ex→bC→aF→Prop):Ex→bC→aF→Prop
 | .exit id',e,m=>if id'=id then Q .normal e m else Q (.exit id') e m
 | x,e,m=>Q x e m
def abH (A B:Prop):AV→Prop
 | .val (.bool t)=>(t=true→A)∧(t=false→B)
 | _=>False
def aaN (a:(Ex→bC→aF→Prop)→bC→aF→Prop) (Q:Ex→bC→aF→Prop) (e:bC) (m:aF):Prop :=
 ∃ (J:Nat→bC→aF→Prop) (n:Nat),J n e m∧∀ n e m,J n e m→a (sW (fun e' m'=>∃ b,b < n∧J b e' m') Q) e m
def abI (n:Nat) (a:Array Oper):Bool:=a.all fun o=>match o.dst with
 | some d=>decide (d < n)
 | none=>true
section
variable {P:Program}
theorem aj4 {w:World} {I:Nat→Prop} {ρ:cA} {h:Array Oper} {e:bC} {a:Act} (n:ER P w I ρ e a) (o:Oper):Region.wanted o (yielded h a.tmps)=sS h e o:=by
 unfold Region.wanted sS;cases o.guard with
 | none=>rfl
 | some g =>
  obtain ⟨j,m⟩:=g;simp only [yielded];cases (h[j]?).bind (·.dst) with
  | none=>rfl
  | some d =>
   simp only [aAk];have f:=n d;rw [ayZ] at f;cases l:a.tmps[d]? with
   | none =>
    rw [l] at f;simp only [Option.getD_none] at f;have k:∀ b,e d ≠ .val (.bool b):=fun b i=>by rw [i] at f;simp [VR,undef] at f
    split
    ·rename_i c;cases c
    ·split
     ·rename_i b i;exact absurd i (k b)
     ·rfl
   | some v =>
    rw [l] at f;simp only [Option.getD_some] at f;cases v with
    | bool b =>
     have:=aqB f;rw [this];simp
    | _ =>
     simp only;split
     ·rename_i b i;rw [i] at f;simp [VR] at f
     ·rfl
def aj5 (P:Program) (w:World) (I:Nat→Prop) (ρ:cA) (m:aF) (a:Act) (o:Oper) (K:bL→Prop) (next:Act→World→Prop):Prop :=
 ∀ out v w' c ρ',K out→VR P w' c ρ' out.v v→SR P w' c ρ' out.m→cM w I ρ m w' c ρ' out.m→(∀ d y,out.wb=some (d,y)→VR P w' c ρ' y (a.tmps.getD d undef))→(∀ b,out.m.next≤b→ρ' b=none)→next (a.put o.dst v) w'
theorem aep {w w':World} {I a:Nat→Prop} {ρ ρ':cA} {m m':aF} (s:cM w I ρ m w' a ρ' m') (h:∀ b,m.next≤b→ρ b=none):∀ b,m'.next≤b→ρ' b=none:=by
 intro b d;cases c:ρ' b with
 | none=>rfl
 | some x =>
  have:=s.lo b (h b (Nat.le_trans s.next d)) (by rw [c];simp);omega
theorem tZ {w:World} {I:Nat→Prop} {ρ:cA} {m:aF} {a:Act} {o:Oper} {out:bL} {K:bL→Prop} {next:Act→World→Prop} {Q:Exit→Act→World→Prop} (h:fS P w I ρ m a ((execOp a.eval o).run P w) out) (l:K out)
 (c:∀ b,m.next≤b→ρ b=none) (k:aj5 P w I ρ m a o K next):o.wp P a w next Q:=by
 obtain ⟨v,w',f,ρ',d,i,g,e,n⟩:=h;have:=k out v w' f ρ' l i g e n (aep e c);unfold Oper.wp;rcases d with d | ⟨d,j⟩
 ·rw [d,Oper.upon_value];exact this
 ·rw [d,Oper.upon_skip,←j];exact this
theorem arQ {m:aF} {k:Nat} {cs a:List AV} (h:dN k m cs=some a):a.length=cs.length:=(abx k cs a h).1
theorem arR {w:World} {I:Nat→Prop} {ρ:cA} {e:bC} {a:Act} (i:ER P w I ρ e a) (args:Array Operand) {d:List AV} {b:Array Value} (m:bB P w I ρ d (fun j=>b[j]?)) (hs:b.size=d.length) :
 (args.map a.eval++b).size=(args.toList.map (opd e)++d).length∧bB P w I ρ (args.toList.map (opd e)++d) (fun j=>(args.map a.eval++b)[j]?):=by
 refine ⟨by simp [hs],lG.2 fun j c f => ?_⟩;rcases azX j args.size with h | h
 ·rw [List.getElem?_append_left (by simpa using h),azo] at f;obtain ⟨x,g,rfl⟩:=ayT f;refine ⟨a.eval x, ?_,dU i x⟩;rw [Array.getElem?_append_left (by simpa using h)];simp at g;simp [g]
 ·rw [List.getElem?_append_right (by simpa using h)] at f;obtain ⟨v,l,k⟩:=gW m f;refine ⟨v, ?_,k⟩;rw [Array.getElem?_append_right (by simpa using h)];simpa using l
theorem agM {w:World} {a:Act} {dst:Option Tmp} {ty:TypeId} {pos:String} {after:Array Edge} {guard:Option (Nat×Bool)} {f:Operand} {args:Array Operand} {ts:Array TypeId} {g:FuncId} {b:Array Value} {next:Act→World→Prop} {Q:Exit→Act→World→Prop}
 (p:a.eval f = .func (.func g) #[] b) (d:zM P g=true) (h:Calls P g (args.map a.eval++b) w fun e w'=>match e with | .returned v=>next (a.put dst v) w' | _=>False) :
 Oper.wp P { dst:=dst,op := .call { callee := .value f,args:=args,argTypes:=ts },type:=ty,pos:=pos,after:=after,guard:=guard } a w next Q:=by
 unfold zM at d;split at d
 ·rename_i k m;simp only [aAq,bne_iff_ne,ne_eq] at d;obtain ⟨o,n⟩:=d;have q:k.body.isNone=false:=by cases j:k.body <;> simp_all
  have i:(execOp a.eval { dst:=dst,op := .call { callee := .value f,args:=args,argTypes:=ts },type:=ty,pos:=pos,after:=after,guard:=guard }).run P w = .ok (.enter g (args.map a.eval++b)) w:=by
   have l:¬ k.body=none:=fun h=>by rw [h] at n;cases n
   simp [execOp,resolve,p,Deferred.ofValue,invoke,callFunc,m,o,l]
  unfold Oper.wp;rw [i,Oper.upon_enter];exact h.mono fun e w' j=>by
   cases e with
   | returned v=>exact j
   | panicked c=>exact j.elim
   | outgrown=>exact j.elim
 ·cases d
theorem arS {w:World} {I:Nat→Prop} {ρ:cA} {m:aF} (F:SR P w I ρ m) {e:bC} {a:Act} (u:ER P w I ρ e a) {b:Builtin} {args:Array Operand} {ts:Array TypeId} {ty:TypeId} {out:bL} (h:tT P m ts ty (args.toList.map (opd e)) b=some out)
 (q:∀ b,m.next≤b→b < out.m.next→ρ b=none) (C:Array Bool):fS P w I ρ m a ((builtin b ts ty C (args.map a.eval)).run P w) out:=by
 obtain ⟨args⟩:=args;obtain ⟨ts⟩:=ts;cases b <;> simp only [tT] at h <;> try (cases h;done)
 case append =>
  split at h
  ·rename_i t R s x i;obtain ⟨f,g,A⟩:∃ f g,args=[f,g]:=by
    match args,i with
    | [f,g],_=>exact ⟨f,g,rfl⟩
   subst A;simp only [aAr,aAs,aAe,and_true] at i;obtain ⟨rfl,rfl⟩:=i;split at h
   ·rename_i D;obtain ⟨el,l,h⟩:=ayS h;have E:=aq3 (ty:=ty) (addr:=undef) F l D h q (dU u f) (dU u g);have v:aAt a.eval ⟨[f,g]⟩ = #[a.eval f,a.eval g]:=by simp
    rw [v];refine fS.of_does (s:=azT #[t,R] ty #[a.eval f,a.eval g]) E (fun d y o => ?_);unfold fR at h;obtain ⟨_,_,h⟩:=ayS h;obtain ⟨_,_,h⟩:=ayS h;obtain ⟨_,_,h⟩:=ayS h;obtain ⟨_,_,h⟩:=ayS h;obtain ⟨_,_,h⟩:=ayS h;split at h
    ·split at h
     ·split at h
      ·simp only [zag] at h;subst h;cases o
      ·split at h
       ·simp only [zag] at h;subst h;cases o
       ·cases h
     ·split at h
      ·split at h
       ·simp only [zag] at h;subst h;cases o
       ·cases h
      ·split at h
       ·obtain ⟨_,_,h⟩:=ayS h;split at h
        ·simp only [zag] at h;subst h;cases o
        ·split at h
         ·simp only [zag] at h;subst h;cases o
         ·cases h
       ·cases h
    ·cases h
   ·obtain ⟨el,l,h⟩:=ayS h;split at h
    ·rename_i hi;obtain ⟨n,D,h⟩:=ayS h;have J:∃ k,opd e g = .val (.int k n):=by
      unfold kS at D;split at D
      ·rename_i k z Q;split at D
       ·rename_i L;simp only [ay0] at D;exact ⟨k,by rw [Q,←D,Int.toNat_of_nonneg L]⟩
       ·cases D
      ·cases D
     obtain ⟨k,J⟩:=J;have O:a.eval g = .int k n:=by have:=dU u g;rw [J] at this;simpa only [VR] using this
     have E:=aq6 (ty:=ty) (addr:=undef) (k:=k) F l hi h q (dU u f);have v:aAt a.eval ⟨[f,g]⟩ = #[a.eval f,.int k n]:=by simp [O]
     rw [v];refine fS.of_does (s:=azT #[t,R] ty #[a.eval f,.int k n]) E (fun d y o => ?_);unfold adZ at h;obtain ⟨_,_,h⟩:=ayS h;obtain ⟨_,_,h⟩:=ayS h;obtain ⟨_,_,h⟩:=ayS h;obtain ⟨_,_,h⟩:=ayS h;split at h
     ·simp only [zag] at h;subst h;cases o
     ·cases h
    ·cases h
  ·cases h
 case cap =>
  split at h
  ·rename_i t x i;obtain ⟨f,A⟩:∃ f,args=[f]:=by
    match args,i with
    | [f],_=>exact ⟨f,rfl⟩
   subst A;simp only [aAr,aAs,aAe,and_true] at i;subst i;obtain ⟨el,l,h⟩:=ayS h;obtain ⟨N,p,rfl⟩:=ayT h;have E:=aq7 (ty:=ty) (addr:=undef) F l p (dU u f);have v:aAt a.eval ⟨[f]⟩ = #[a.eval f]:=by simp
   rw [v];exact fS.of_does (s:=Builtin.cap_ #[t] ty #[a.eval f]) E (fun d y o=>by cases o)
  ·cases h
 case clear =>
  split at h
  ·rename_i t x i;obtain ⟨f,A⟩:∃ f,args=[f]:=by
    match args,i with
    | [f],_=>exact ⟨f,rfl⟩
   subst A;simp only [aAr,aAs,aAe,and_true] at i;subst i;obtain ⟨el,l,h⟩:=ayS h;have E:=aq8 (ty:=ty) (addr:=undef) F l h (dU u f);have v:aAt a.eval ⟨[f]⟩ = #[a.eval f]:=by simp
   rw [v];refine fS.of_does (s:=Builtin.clear_ #[t] ty #[a.eval f]) E (fun d y o => ?_);unfold ad0 at h;split at h
   ·simp only [zag] at h;subst h;cases o
   ·simp only [zag] at h;subst h;cases o
   ·split at h
    ·simp only [zag] at h;subst h;cases o
    ·obtain ⟨_,_,h⟩:=ayS h;obtain ⟨_,_,h⟩:=ayS h;obtain ⟨_,_,h⟩:=ayS h;split at h
     ·simp only [zag] at h;subst h;cases o
     ·cases h
   ·cases h
  ·cases h
 case copy =>
  split at h
  ·rename_i t r d x i;obtain ⟨f,g,A⟩:∃ f g,args=[f,g]:=by
    match args,i with
    | [f,g],_=>exact ⟨f,g,rfl⟩
   subst A;simp only [aAr,aAs,aAe,and_true] at i;obtain ⟨rfl,rfl⟩:=i;obtain ⟨el,l,h⟩:=ayS h;have E:=aq9 (ts:=r) (ty:=ty) (addr:=undef) F l h (dU u f) (dU u g);have v:aAt a.eval ⟨[f,g]⟩ = #[a.eval f,a.eval g]:=by simp
   rw [v];refine fS.of_does (s:=Builtin.copy_ (t::r).toArray ty #[a.eval f,a.eval g]) E (fun d y o => ?_);unfold sR at h;obtain ⟨_,_,h⟩:=ayS h;obtain ⟨_,_,h⟩:=ayS h;split at h
   ·obtain ⟨_,_,h⟩:=ayS h;split at h
    ·simp only [zag] at h;subst h;cases o
    ·cases h
   ·obtain ⟨_,_,h⟩:=ayS h;split at h
    ·simp only [zag] at h;subst h;cases o
    ·cases h
  ·cases h
 case len =>
  split at h
  ·rename_i t x i;obtain ⟨f,A⟩:∃ f,args=[f]:=by
    match args,i with
    | [f],_=>exact ⟨f,rfl⟩
   subst A;simp only [aAr,aAs,aAe,and_true] at i;subst i;have:=fS.of_pur (a:=a) (s:=Builtin.len_ #[t] ty #[a.eval f]) F h fun N p=>arc p (dU u f)
   have v:aAt a.eval ⟨[f]⟩ = #[a.eval f]:=by simp
   rw [v];exact this
  ·cases h
 case max =>
  obtain ⟨vs,G,h⟩:=ayS h;have M:=ad5 (P:=P) (w:=w) (I:=I) (ρ:=ρ) _ vs (fun j=>(args.map a.eval)[j]?) G (lG.2 fun j c K=>by
   rw [azo] at K;obtain ⟨x,J,rfl⟩:=ayT K;exact ⟨a.eval x,by simp [J],dU u x⟩)
  have H:vs=args.map a.eval:=by
   apply aAi;intro j;rcases azX j args.length with B | B
   ·rw [←M.2 j (by simpa using B)]
   ·rw [ay6 (by rw [M.1];simpa using B),ay6 (by simpa using B)]
  have:=fS.of_pur (a:=a) (s:=Builtin.max_ ⟨ts⟩ ty vs.toArray) F h fun N p=>by
   obtain ⟨z,L,rfl⟩:=ayT p;exact ⟨z,tW P _ _ L w,by simp only [VR]⟩
  rw [H] at this;have e:(List.map a.eval args).toArray=aAt a.eval ⟨args⟩:=by simp
  rw [e] at this;exact this
 case min =>
  obtain ⟨vs,G,h⟩:=ayS h;have M:=ad5 (P:=P) (w:=w) (I:=I) (ρ:=ρ) _ vs (fun j=>(args.map a.eval)[j]?) G (lG.2 fun j c K=>by
   rw [azo] at K;obtain ⟨x,J,rfl⟩:=ayT K;exact ⟨a.eval x,by simp [J],dU u x⟩)
  have H:vs=args.map a.eval:=by
   apply aAi;intro j;rcases azX j args.length with B | B
   ·rw [←M.2 j (by simpa using B)]
   ·rw [ay6 (by rw [M.1];simpa using B),ay6 (by simpa using B)]
  have:=fS.of_pur (a:=a) (s:=Builtin.min_ ⟨ts⟩ ty vs.toArray) F h fun N p=>by
   obtain ⟨z,L,rfl⟩:=ayT p;exact ⟨z,tW P _ _ L w,by simp only [VR]⟩
  rw [H] at this;have e:(List.map a.eval args).toArray=aAt a.eval ⟨args⟩:=by simp
  rw [e] at this;exact this
theorem aeq {w:World} {I:Nat→Prop} {ρ:cA} {m:aF} (A:SR P w I ρ m) {d N:Bool} {e:bC} {a:Act} (D:ER P w I ρ e a) {o:Oper} {K:bL→Prop} (h:bZ P d N e m o.type K o.op) (i:∀ b,m.next≤b→ρ b=none)
 {next:Act→World→Prop} {Q:Exit→Act→World→Prop} (u:aj5 P w I ρ m a o K next):o.wp P a w next Q:=by
 have plain:eO (cZ P N e m o.op) K→o.wp P a w next Q:=by
  intro h;unfold eO at h;split at h
  ·rename_i out l;exact tZ (arf A D l (fun b s _=>i b s)) h i u
  ·exact h.elim
 obtain ⟨dst,op,type,pos,after,guard⟩:=o;cases op <;> try (exact plain h)
 case lookup t x k ok =>
  cases ok with
  | true=>exact plain h
  | false =>
   simp only [bZ] at h;unfold eO at h;split at h
   ·rename_i out l;refine tZ ?_ h i u;exact fS.of_pur A l fun av R=>arE A R (dU D x) (dU D k)
   ·exact h.elim
 case entry x =>
  simp only [bZ] at h;unfold eO at h;split at h
  ·rename_i out l;refine tZ ?_ h i u;exact fS.of_pur A l fun av R=>art A R (dU D x)
  ·exact h.elim
 case mapUpdate t x k v =>
  simp only [bZ] at h;unfold eO at h;split at h
  ·rename_i out l;refine tZ ?_ h i u;obtain ⟨y,w',W,ρ',s,E,H,h4,h5⟩:=arF A l (dU D x) (dU D k) (dU D v) undef;refine ⟨undef,w',W,ρ',.inr ⟨by simp [execOp,s],rfl⟩,E,H,h4,fun d y C => ?_⟩;have:out.wb=none:=by
    exact arG l
   rw [this] at C;cases C
  ·exact h.elim
 case makeMap t r =>
  cases r with
  | some r=>exact plain h
  | none =>
   simp only [bZ] at h;obtain ⟨out,hK,J,hd⟩:=aru (t:=t) A h.2 undef;exact tZ (fS.of_does hd (fun d y C=>by rw [J] at C;cases C)) hK i u
 case range t x =>
  simp only [bZ] at h;obtain ⟨out,hK,J,hd⟩:=arv A h.2 (dU D x) undef;exact tZ (fS.of_does hd (fun d y C=>by rw [J] at C;cases C)) hK i u
 case next x ok =>
  cases ok with
  | true=>exact plain h
  | false =>
   simp only [bZ] at h;obtain ⟨out,hK,J,hd⟩:=arw (ty:=type) A h.2 (dU D x) undef;exact tZ (fS.of_does hd (fun d y C=>by rw [J] at C;cases C)) hK i u
 case buildSlice t len parts =>
  simp only [bZ] at h;have bT:∀ out,fY P m t len (parts.toList.map fun p=>(p.1,opd e p.2))=some out→(∀ b,m.next≤b→ρ b=none)→fS P w I ρ m a ((execOp a.eval ⟨dst,.buildSlice t len parts,type,pos,after,guard⟩).run P w) out:=by
   intro out l i;have:=arH A l (fun b s _=>i b s) (aeb (e:=e) (a:=a) parts) (aec D parts) undef;rw [←aed] at this;refine fS.of_does this (fun d y C => ?_);unfold fY at l;obtain ⟨_,_,l⟩:=ayS l;obtain ⟨_,_,l⟩:=ayS l;obtain ⟨_,_,l⟩:=ayS l;split at l
   ·obtain ⟨_,_,l⟩:=ayS l;split at l
    ·cases l
    simp only [zag] at l;subst l;cases C
   ·cases l
  have bF:∀ out,zR P m t len (parts.toList.map fun p=>(p.1,opd e p.2))=some out→(∀ b,m.next≤b→ρ b=none)→fS P w I ρ m a ((execOp a.eval ⟨dst,.buildSlice t len parts,type,pos,after,guard⟩).run P w) out:=by
   intro out l i;have:=arI A l (fun b s _=>i b s) (aeb (e:=e) (a:=a) parts) (aec D parts) undef;rw [←aed] at this;refine fS.of_does this (fun d y C => ?_);unfold zR at l;obtain ⟨_,_,l⟩:=ayS l;obtain ⟨_,_,l⟩:=ayS l;obtain ⟨_,_,l⟩:=ayS l;split at l
   ·obtain ⟨_,_,l⟩:=ayS l;obtain ⟨_,_,l⟩:=ayS l;simp only [zag] at l;subst l;cases C
   ·cases l
  unfold vI at h;split at h
  ·unfold eO at h;split at h
   ·rename_i out l;exact tZ (bT out l i) h i u
   ·exact h.elim
  ·unfold eO aem at h;split at h
   ·rename_i out l;split at l
    ·rename_i o hq;cases l;exact tZ (bT _ hq i) h i u
    ·exact tZ (bF out l i) h i u
   ·exact h.elim
  ·exact plain h
 case convert src dst x =>
  simp only [bZ] at h;unfold eO at h;split at h
  ·rename_i out l;refine tZ ?_ h i u;have:=arJ (addr:=undef) A (ajY l) (fun b s _=>i b s) (dU D x);exact fS.of_does this (fun d y C=>by rw [arK (ajY l)] at C;cases C)
  ·exact h.elim
 case slice t x lo hi mx =>
  simp only [bZ] at h;refine plain ?_;unfold eO at h;split at h
  ·rename_i out l;have hq:=arM l;unfold ac4 at hq;simp only [cZ,hq];exact h
  ·exact h.elim
 case load t x =>
  simp only [bZ] at h;refine plain ?_;unfold eO at h;split at h
  ·rename_i out l;obtain ⟨av,R,rfl⟩:=ayT l;simp only [cZ,arL R];exact h
  ·exact h.elim
 case call c =>
  obtain ⟨callee,args,ts⟩:=c;cases callee with
  | invoke r n=>exact h.elim
  | builtin b =>
   simp only [bZ] at h;unfold eO at h;split at h
   ·rename_i out l;refine tZ ?_ h i u;simp only [execOp,resolve,pure_bind,invoke];exact arS A D l (fun b s _=>i b s) _
   ·exact h.elim
  | value f =>
   simp only [bZ] at h;have Z:=dU D f;unfold oM at h;split at h
   ·rename_i g F b0;have h:=arP h;rw [b0] at Z;simp only [VR] at Z;obtain ⟨L,hf,a9,a8⟩:=Z;obtain ⟨O,z⟩:=arR D args a8 a9;have closed:∀ (X:Nat→Prop) (T:aF) (q:List AV) (r:fA),SR P w X ρ T→cM w I ρ m w X ρ T→(args.map a.eval++L).size=q.length→bB P w X dA q (fun j=>(args.map a.eval++L)[j]?)→aQ P g q r→K ⟨shift T.next r.v,eB P T r.rows,none⟩ →
     Oper.wp P { dst:=dst,op := .call { callee := .value f,args:=args,argTypes:=ts },type:=type,pos:=pos,after:=after,guard:=guard } a w next Q:=by
     intro X T q r a6 Y a5 U E h4;have G:=aep Y i;refine agM hf E.1 ?_;refine (E.2 w X _ a6.lt a5 U).mono ?_;rintro en w' ⟨v,W,ρ',rfl,q1,q2,S⟩;have a0:∀ g,¬ Wr dA aF.empty g:=by
      rintro g (⟨b,k,o,s,_⟩ | s)
      ·simp [aF.empty] at s
      ·exact zH s
     have M:∀ g,W g→X g∨w.heap.size≤g:=fun g u=>by
      rcases S.back g u with h | h | h
      ·exact .inl h
      ·exact absurd h (a0 g)
      ·exact .inr h
     obtain ⟨V,i1,i2,i3⟩:=ajG a6 (fun _ h=>h) (fun b hb _=>G b hb) q2 S (.inl M);refine u _ v w' V _ h4 ?_ i2 (Y.trans i3) (fun d y h=>by cases h) (aep i3 G);have hk:∀ b x,ρ' b=some x→b < r.rows.length:=fun b x h=>by
      have:=S.lo b rfl (by rw [h];simp);rw [aaL] at this;simp [aF.empty] at this;exact this
     refine rI (⟨fun g u=>(i1 g).2 ((M g u).imp id fun h=>⟨u,h⟩),fun _ _=>rfl,fun _ _ h=>h⟩:iL w' w' W V) (fun _ _ h=>h) _ _ (agB hk r.v v q1)
    have h:aj2 P g (args.toList.map (opd e)++F) m K∨aj1 P g (args.toList.map (opd e)++F) m K∨ajZ P g (args.toList.map (opd e)++F) m K∨aj0 P g (args.toList.map (opd e)++F) m K:=by
     rcases h with h | ⟨_,h⟩ | ⟨r,m',s,E⟩ | h | h
     rotate_left 3
     ·exact .inl h
     ·exact .inr (.inl h)
     all_goals refine .inr (.inr ?_)
     ·exact .inl h
     ·exact .inr h
     ·refine .inr ⟨s.1,fun w I ρ vs a1 a2 a3 a4=>(s.2 w I ρ vs a1 a2 a3 a4).mono ?_⟩;rintro en w' ⟨v,r',T,W,ρ',q0,⟨q1,q2⟩,S⟩;subst q1;subst q2;exact ⟨v,_,_,W,ρ',q0,E,S⟩
    rcases h with ⟨r,s,E⟩ | ⟨q,T,r,s,E,H⟩ | ⟨q,r,s,E,H,h4⟩ | h
    ·-- at N
     obtain ⟨v,a7,hv⟩:=s w I ρ _ A O z;unfold Oper.wp;have:(execOp a.eval { dst:=dst,op := .call { callee := .value f,args:=args,argTypes:=ts },type:=type,pos:=pos,after:=after,guard:=guard }).run P w = .ok (.value v) w:=by
      simp [execOp,resolve,hf,Deferred.ofValue,invoke,a7]
     rw [this,Oper.upon_value];exact u _ v w I ρ E hv A (cM.refl _ _ _ _) (fun d y h=>by cases h) i
    ·-- frozen
     obtain ⟨X,a1,b1,c1,d1,d2,d3⟩:=zK _ m T I q _ s A z;exact closed X T q r a1 b1 (by rw [O,d2]) d1 E H
    ·-- closed
     rcases H with H | H
     ·have B:=aaJ _ _ H z;have e1:=aef 3 _ _ H s;subst e1;exact closed I m _ r A (cM.refl _ _ _ _) O B E h4
     ·have B:=aby A 3 _ _ _ s z;simp only [fA.apart,aAq,aAu] at H;obtain ⟨H,h5⟩:=H;refine agM hf E.1 ?_;refine (E.2 w (qO w) _ (fun _ h=>h) (by rw [O,arQ s]) B).mono ?_;rintro en w' ⟨v,W,ρ',rfl,q1,q2,S⟩;obtain ⟨V,i1,i2,i3⟩:=ajG A (fun g u=>A.lt g u) (fun b hb _=>i b hb) q2 S (.inr h5);refine u _ v w' V _ h4 ?_ i2 i3 (fun d y h=>by cases h) (aep i3 i);have hk:∀ b x,ρ' b=some x→b < r.rows.length:=fun b x h=>by
       have:=S.lo b rfl (by rw [h];simp);rw [aaL] at this;simp [aF.empty] at this;exact this
      exact agB hk r.v v (ajF r.v v H q1)
    ·-- open
     refine agM hf h.1 ?_;refine (h.2 w I ρ _ A O z i).mono ?_;rintro en w' ⟨v,r,m',W,ρ',rfl,q0,q1,q2,S,q4⟩;exact u _ v w' W ρ' q0 q1 q2 S (fun d y h=>by cases h) q4
   ·exact h.elim
end
structure mK (P:Program) (w0:World) (I0:Nat→Prop) (ρ0:cA) (m0:aF) (n:Nat) (D:List Deferred) (e:bC) (m:aF) (a:Act) (w:World) (I:Nat→Prop) (ρ:cA):Prop where
 er:ER P w I ρ e a
 sr:SR P w I ρ m
 free:∀ b,m.next≤b→ρ b=none
 step:cM w0 I0 ρ0 m0 w I ρ m
 size:a.tmps.size=n
 defers:a.defers=D
section
variable {P:Program} {w0:World} {I0:Nat→Prop} {ρ0:cA} {m0:aF} {n:Nat} {D:List Deferred}
theorem agN (a:Act) (d:Option Tmp) (v:Value):(a.put d v).tmps.size=a.tmps.size:=by cases d <;> simp [Act.put]
theorem agO (a:Act) (d:Option Tmp) (v:Value):(a.put d v).defers=a.defers:=by cases d <;> rfl
theorem mK.next {e:bC} {m:aF} {a:Act} {w:World} {I:Nat→Prop} {ρ:cA} (h:mK P w0 I0 ρ0 m0 n D e m a w I ρ) {o:Oper} (r:∀ d,o.dst=some d→d < n) {out:bL} {v:Value} {w':World} {c:Nat→Prop} {ρ':cA}
 (l:VR P w' c ρ' out.v v) (k:SR P w' c ρ' out.m) (g:cM w I ρ m w' c ρ' out.m) (s:∀ d y,out.wb=some (d,y)→VR P w' c ρ' y (a.tmps.getD d undef)) (q:∀ b,out.m.next≤b→ρ' b=none) :
 mK P w0 I0 ρ0 m0 n D ((wS e out.wb).put o.dst out.v) out.m (a.put o.dst v) w' c ρ' where
 er:=by
  have j:ER P w' c ρ' (wS e out.wb) a:=by
   have i:=ajd g h.sr h.er;cases p:out.wb with
   | none=>exact i
   | some x =>
    obtain ⟨d,y⟩:=x;intro t;simp only [wS,bC.set];split
    ·rename_i f;subst f;exact s _ y p
    ·exact i t
  exact age j (fun t f=>by rw [h.size];exact r t f) l
 sr:=k
 free:=q
 step:=h.step.trans g
 size:=by rw [agN];exact h.size
 defers:=by rw [agO];exact h.defers
theorem aer {a:Array Oper} (h:abI n a=true) {i:Nat} {o:Oper} (c:a[i]? = some o):∀ d,o.dst=some d→d < n:=by
 intro d b;unfold abI at h;obtain ⟨hi,rfl⟩:=azB.1 c;have:=Array.all_eq_true.1 h i hi;rw [b] at this;simpa using this
theorem agP {d:Nat→Bool} {b:Array Oper} (f:abI n b=true) {Q:bC→aF→Prop} {Q':Exit→Act→World→Prop} (j:∀ e m a w I ρ,Q e m→mK P w0 I0 ρ0 m0 n D e m a w I ρ→Q' .normal a w) :
 ∀ (l:List Oper) (i:Nat) (e:bC) (m:aF) (a:Act) (w:World) (I:Nat→Prop) (ρ:cA),b.toList.drop i=l→iO P d false b Q l e m→mK P w0 I0 ρ0 m0 n D e m a w I ρ→wpOps P b Q' (List.range' i l.length) a w
 | [],i,e,m,a,w,I,ρ,hl,h,hR=>by
  simp only [iO] at h;simp only [List.length_nil,List.range'_zero,wpOps];exact j e m a w I ρ h hR
 | o::rest,i,e,m,a,w,I,ρ,hl,h,hR=>by
  have k:b[i]? = some o:=by
   have:(b.toList.drop i)[0]? = some o:=by rw [hl];rfl
   rw [aAv] at this;simpa using this
  have c:b.toList.drop (i+1)=rest:=by
   rw [←List.drop_drop,hl];rfl
  simp only [iO] at h;rw [List.length_cons,List.range'_succ];simp only [wpOps,k];rw [aj4 hR.er o];split at h
  ·rename_i g;rw [if_pos g];refine .inl (aeq hR.sr hR.er h hR.free ?_);intro out v w' z ρ' q s u x r p;exact agP f j rest (i+1) _ _ _ _ _ _ c q.2 (hR.next (aer f k) s u x r p)
  ·rename_i g;rw [if_neg g];refine agP f j rest (i+1) _ _ _ _ I ρ c h ⟨age hR.er (fun t y=>by rw [hR.size];exact aer f k t y) (by simp only [eI,undef,VR]),hR.sr,hR.free,hR.step,by rw [agN];exact hR.size,by rw [agO];exact hR.defers⟩
def lU (a:Array Oper) (i:Nat):Option Nat:=(a[i]?).bind (·.dst)
def agQ (a:Array Oper):Bool :=
 (aAp a.size).all fun i=>match a[i]? with
  | none=>true
  | some o=>(vJ o).all (fun b=>decide (b < i)) && (lJ a).getD i 0 == just (lJ a) (vJ o) &&
   (aAp a.size).all fun j=>match lU a j with
    | none=>true
    | some t=>(j == i || o.dst != some t) && (!(o.looksAt a).contains t || j == i || (match decide (j < i) with | true=>bef (lJ a) j i | false=>bef (lJ a) i j))
end
section
variable {P:Program}
theorem yA {r:Option bL} {K:bL→Prop} (h:eO r K):∃ out,r=some out∧K out:=by
 unfold eO at h;split at h
 ·rename_i o;exact ⟨o,rfl,h⟩
 ·exact h.elim
theorem arT {c:Bool} {e:bC} {m:aF} {ty:TypeId} {K:bL→Prop} {op:Op} (h:bZ P true c e m ty K op):∃ out,K out∧bZ P true c e m ty (fun x=>x=out) op:=by
 have o:eO (cZ P c e m op) K→∃ out,K out∧eO (cZ P c e m op) (fun x=>x=out):=by
  intro h;obtain ⟨out,d,a⟩:=yA h;exact ⟨out,a,by rw [d];rfl⟩
 cases op <;> try (exact o h)
 case lookup t x k ok =>
  cases ok with
  | true=>exact o h
  | false =>
   simp only [bZ] at h ⊢;obtain ⟨out,d,a⟩:=yA h;exact ⟨out,a,by rw [d];rfl⟩
 case entry x =>
  simp only [bZ] at h ⊢;obtain ⟨out,d,a⟩:=yA h;exact ⟨out,a,by rw [d];rfl⟩
 case mapUpdate t x k v =>
  simp only [bZ] at h ⊢;obtain ⟨out,d,a⟩:=yA h;exact ⟨out,a,by rw [d];rfl⟩
 case makeMap t r =>
  cases r with
  | some r=>exact o h
  | none=>cases h.1
 case range t x=>cases h.1
 case next x ok =>
  cases ok with
  | true=>exact o h
  | false=>cases h.1
 case buildSlice t len parts =>
  simp only [bZ] at h ⊢;obtain ⟨out,d,a⟩:=yA h;exact ⟨out,a,by rw [d];rfl⟩
 case slice t x lo hi mx =>
  simp only [bZ] at h ⊢;obtain ⟨out,d,a⟩:=yA h;exact ⟨out,a,by rw [d];rfl⟩
 case load t x =>
  simp only [bZ] at h ⊢;obtain ⟨out,d,a⟩:=yA h;exact ⟨out,a,by rw [d];rfl⟩
 case convert src dst x =>
  simp only [bZ] at h ⊢;obtain ⟨out,d,a⟩:=yA h;exact ⟨out,a,by rw [d];rfl⟩
 case call c =>
  obtain ⟨callee,args,ts⟩:=c;cases callee with
  | invoke r n=>exact h.elim
  | builtin b =>
   simp only [bZ] at h ⊢;obtain ⟨out,d,a⟩:=yA h;exact ⟨out,a,by rw [d];rfl⟩
  | value f =>
   simp only [bZ] at h ⊢;unfold oM at h;split at h
   ·rename_i g q j;cases c with
    | true =>
     obtain ⟨r,d,a,l,p,w,u⟩:=h;refine ⟨_,u, ?_⟩;simp only [j,oM];exact ⟨r,d,a,l,p,w,rfl⟩
    | false =>
    simp only [Bool.false_and] at h;rcases h with ⟨i,r,d,a,l,p⟩ | ⟨h,_⟩ | ⟨r,m',d,a⟩ | ⟨r,d,a⟩ | ⟨i,s,r,d,a,l⟩
    ·refine ⟨_,p, ?_⟩;simp only [j,oM];exact .inl ⟨i,r,d,a,l,rfl⟩
    ·cases h
    ·refine ⟨_,a, ?_⟩;simp only [j,oM];exact .inr (.inr (.inl ⟨r,m',d,rfl⟩))
    ·refine ⟨_,a, ?_⟩;simp only [j,oM];exact .inr (.inr (.inr (.inl ⟨r,d,rfl⟩)))
    ·refine ⟨_,l, ?_⟩;simp only [j,oM];exact .inr (.inr (.inr (.inr ⟨i,s,r,d,a,rfl⟩)))
   ·exact h.elim
theorem arU {e e':bC} {x:Operand} (h:∀ t,x = .tmp t→e' t=e t):opd e' x=opd e x:=by
 cases x with
 | tmp t=>exact h t rfl
 | const v=>rfl
 | global g=>rfl
 | func f=>rfl
theorem agR {e e':bC} {l:List Operand} (h:∀ x∈l,opd e' x=opd e x):l.map (opd e')=l.map (opd e):=aAw h
theorem aj6 {e e':bC} {l:List (Nat×Operand)} (h:∀ x∈l.map (·.2),opd e' x=opd e x):l.map (fun p=>(p.1,opd e' p.2))=l.map (fun p=>(p.1,opd e p.2)) :=
 aAw fun p a=>by rw [h p.2 (List.mem_map_of_mem a)]
theorem agS {e e':bC} {o:Option Operand} (h:∀ x,o=some x→opd e' x=opd e x):o.map (opd e')=o.map (opd e):=by
 cases o with
 | none=>rfl
 | some x=>simp [h x rfl]
theorem agT {d c:Bool} {e e':bC} {m:aF} {ty:TypeId} {K:bL→Prop} {op:Op} (h:∀ x∈op.operands.toList,opd e' x=opd e x) (hs:bZ P d c e m ty K op):bZ P d c e' m ty K op:=by
 cases op <;> simp only [Op.operands,Call.operands] at h <;> simp only [bZ,cZ] at hs ⊢
 case lookup t x k ok =>
  cases ok <;> simp only [bZ] at hs ⊢
  ·rw [h x (by simp),h k (by simp)];exact hs
  ·exact hs
 case makeMap t r =>
  cases r <;> simp only [bZ] at hs ⊢ <;> exact hs
 case next x ok =>
  cases ok <;> simp only [bZ] at hs ⊢
  ·rw [h x (by simp)];exact hs
  ·exact hs
 case call cl =>
  obtain ⟨callee,args,ts⟩:=cl;cases callee with
  | invoke r n=>exact hs.elim
  | builtin b =>
   simp only [bZ] at hs ⊢;rw [agR (fun x a=>h x (by simpa using a))];exact hs
  | value f =>
   simp only [bZ] at hs ⊢;rw [agR (fun x a=>h x (by simp at a ⊢;exact .inr a)),h f (by simp)];exact hs
 case build t parts=>rw [aj6 (fun x a=>h x (by simpa using a))];exact hs
 case buildSlice t n parts=>rw [aj6 (fun x a=>h x (by simpa using a))];exact hs
 case slice t x l hi mx =>
  rw [h x (by simp),agS (fun y g=>h y (by subst g;simp)),agS (o:=hi) (fun y g=>h y (by subst g;simp)),agS (o:=mx) (fun y g=>h y (by subst g;simp))];exact hs
 case makeFunc fn first caps =>
  cases fn <;> simp only [cZ] at hs ⊢
  case func f =>
   rw [agR (fun x a=>h x (by simp at a ⊢;exact .inr a))];exact hs
  all_goals exact hs
 all_goals first
  | exact hs
  | (simp at h;simp only [h];exact hs)
theorem aj7 {c:Bool} {e:bC} {m m':aF} {ty:TypeId} {op:Op} {out:bL} (o:abG c op=true) (h:bZ P true c e m ty (fun x=>x=out) op):out.m=m∧bZ P true c e m' ty (fun x=>x=⟨out.v,m',none⟩) op:=by
 have d:∀ x:Option AV,eO (eV x m) (fun x=>x=out)→out.m=m∧eO (eV x m') (fun y=>y=⟨out.v,m',none⟩):=by
  intro x h;cases x with
  | none=>exact h.elim
  | some v=>have h:(⟨v,m,none⟩:bL)=out:=h;subst h;exact ⟨rfl,rfl⟩
 have L:∀ (i:Option Nat) (f:Nat→Option AV),eO (i.bind fun k=>eV (f k) m) (fun x=>x=out)→out.m=m∧eO (i.bind fun k=>eV (f k) m') (fun y=>y=⟨out.v,m',none⟩):=by
  intro i f h;cases i with
  | none=>exact h.elim
  | some k=>exact d _ h
 cases op <;> simp only [abG,azA] at o <;> simp only [bZ,cZ] at h ⊢
 case call cl =>
  obtain ⟨callee,args,ts⟩:=cl;cases callee with
  | invoke r n=>cases o
  | value f =>
   subst o;simp only [bZ] at h ⊢;unfold oM at h ⊢;split at h
   ·obtain ⟨r,g,q,u,w,F,E⟩:=h;subst E;exact ⟨rfl,r,g,q,u,w,F,rfl⟩
   ·exact h.elim
  | builtin b =>
   simp only [bZ] at h ⊢;cases b <;> simp only [azA] at o <;> simp only [tT] at h ⊢
   case len =>
    split at h
    ·exact d _ h
    ·exact h.elim
   case max =>
    cases C:sM (args.toList.map (opd e)) with
    | none=>rw [C] at h;exact h.elim
    | some vs=>rw [C] at h ;exact d _ h
   case min =>
    cases C:sM (args.toList.map (opd e)) with
    | none=>rw [C] at h;exact h.elim
    | some vs=>rw [C] at h ;exact d _ h
 case slice t x lo hi mx =>
  subst o;unfold sliceX at h ⊢;simp only [aAx] at h ⊢;split at h
  ·exact h.elim
  ·rename_i A;have B:∀ m,slOk P m t (opd e x)=true:=fun m=>by
    generalize opd e x=y at A;cases y with
    | sl _ _ _ _ _=>exact absurd rfl (A _ _ _ _ _)
    | _=>rfl
   unfold ac4 at h ⊢;rw [B m,if_pos rfl] at h;rw [B m',if_pos rfl];have h:=h;have M:∀ (i j l:Option Nat) (f:Nat→Nat→Nat→Option AV),True:=fun _ _ _ _=>trivial
   generalize dD (lo.map (opd e))=a at *
   generalize dD (hi.map (opd e))=b at *
   generalize dD (mx.map (opd e))=c at *
   cases a with
   | none=>exact h.elim
   | some a =>
    cases b with
    | none=>exact h.elim
    | some b =>
     cases c with
     | none=>exact h.elim
     | some c=>exact d _ h
 case load t x =>
  subst o;unfold vH at h ⊢;simp only [aAx] at h ⊢;split at h
  ·exact d _ h
  ·exact h.elim
 case convert src dst x =>
  subst o;unfold pU at h ⊢;simp only [aAx] at h ⊢;split at h
  ·exact h.elim
  ·rename_i A;unfold nL nJ at h ⊢;cases D:bO P dst with
   | some el =>
    simp only [D] at h ⊢;split at h
    ·rename_i el' s g q;cases g;split at h
     ·rename_i J;rw [if_pos J];exact d (some _) h
     ·exact h.elim
    ·rename_i u;split at h
     ·rename_i s w;exact absurd w (u _ _ rfl rfl)
     ·exact h.elim
   | none =>
    simp only [D] at h ⊢;split at h
    ·rename_i el g q;split at h
     ·rename_i K;have G:dR .flat m' (opd e x)=dR .flat m (opd e x):=by
       generalize opd e x=y at A;cases y with
       | sl _ _ _ _ _=>exact absurd rfl (A _ _ _ _ _)
       | val v=>cases v with
        | slice a l c=>cases a <;> cases l <;> cases c <;> rfl
        | _=>rfl
       | _=>rfl
      rw [if_pos K,G];cases hs:dR .flat m (opd e x) with
      | none=>rw [hs] at h;exact h.elim
      | some r =>
       rw [hs] at h;simp only [aAk] at h ⊢;split at h
       ·rename_i I;rw [if_pos I];cases H:bytesOf (r.1.take r.2.1) with
        | none=>rw [H] at h;exact h.elim
        | some bs =>
         rw [H] at h;exact d (some _) h
       ·exact h.elim
     ·exact h.elim
    ·rename_i g;split at h
     ·exact d _ h
     ·exact h.elim
 case buildSlice t len parts =>
  subst o;unfold vI fY at h ⊢;simp only at h ⊢;cases g:bO P t with
  | none=>rw [g] at h;exact h.elim
  | some el =>
   rw [g] at h;simp only [aAk] at h ⊢;cases q:bX P el with
   | none=>rw [q] at h;exact h.elim
   | some n =>
    rw [q] at h;simp only [aAk] at h ⊢;cases u:iJ P el len with
    | none=>rw [u] at h;exact h.elim
    | some z =>
     rw [u] at h;simp only [aAk] at h ⊢;split at h
     ·rename_i F;rw [if_pos F];cases w:hU (fun i=>some (i*n,n)) z (parts.toList.map fun p=>(p.1,opd e p.2)) with
      | none=>rw [w] at h;exact h.elim
      | some cs =>
       rw [w] at h;simp only [aAk] at h ⊢;split at h
       ·exact h.elim
       ·rename_i E;rw [if_neg E];exact d (some _) h
     ·exact h.elim
 all_goals first
  | exact d (some _) h
  | exact d _ h
  | exact L _ _ h
theorem arV {a bs:List Nat} {j:Nat} (h:(just a bs).testBit j=true):∃ b∈bs,b=j∨(a.getD b 0).testBit j=true:=by
 have g:∀ (bs:List Nat) (x:Nat),(bs.foldl (fun x b=>x ||| (2 ^ b ||| a.getD b 0)) x).testBit j=true→x.testBit j=true∨∃ b∈bs,b=j∨(a.getD b 0).testBit j=true:=by
  intro bs
  induction bs with
  | nil=>intro x h;exact .inl h
  | cons b bs c =>
   intro x h;rcases c _ h with h | ⟨f,e,d⟩
   ·rw [Nat.testBit_or,Nat.testBit_or,Nat.testBit_two_pow,aAy,aAy,decide_eq_true_eq] at h;rcases h with h | h
    ·exact .inl h
    ·exact .inr ⟨b,by simp,h⟩
   ·exact .inr ⟨f,by simp [e],d⟩
 rcases g bs 0 h with h | h
 ·simp at h
 ·exact h
structure abJ (ops:Array Oper):Prop where
 lt:∀ i o,ops[i]? = some o→∀ b∈vJ o,b < i
 bit:∀ i o,ops[i]? = some o→∀ j,bef (lJ ops) j i=true→∃ b∈vJ o,b=j∨bef (lJ ops) j b=true
 dst:∀ i j t,lU ops i=some t→lU ops j=some t→i=j
 look:∀ i j o t,ops[i]? = some o→t∈o.looksAt ops→lU ops j=some t→j≠i→(j < i→bef (lJ ops) j i=true)∧(i < j→bef (lJ ops) i j=true)
theorem ac6 {a:Array Oper} {j t:Nat} (h:lU a j=some t):j < a.size:=by
 unfold lU at h;cases b:a[j]? with
 | none=>rw [b] at h;cases h
 | some o=>exact (azB.1 b).1
theorem arW {a:Array Oper} (h:agQ a=true):abJ a:=by
 have c:∀ i o,a[i]? = some o→((vJ o).all (fun b=>decide (b < i))=true∧(lJ a).getD i 0=just (lJ a) (vJ o)) ∧
  ∀ j t,lU a j=some t→(j=i∨o.dst≠some t)∧(t ∉ o.looksAt a∨j=i∨(match decide (j < i) with | true=>bef (lJ a) j i | false=>bef (lJ a) i j)=true):=by
  intro i o d;have hi:=(azB.1 d).1;have:=aAu.1 h i (aAz.2 hi);rw [d] at this;simp only [aAq,beq_iff_eq] at this;refine ⟨this.1,fun j t m => ?_⟩;have l:=aAu.1 this.2 j (aAz.2 (ac6 m));rw [m] at l;simp only [aAq,aAy,beq_iff_eq,bne_iff_ne,Bool.not_eq_true',or_assoc] at l;refine ⟨l.1, ?_⟩;rcases l.2 with k | k | k
  ·exact .inl (by intro p;rw [List.contains_iff_mem.2 p] at k;cases k)
  ·exact .inr (.inl k)
  ·exact .inr (.inr k)
 refine ⟨fun i o d b q => ?_,fun i o d j f => ?_,fun i j t hi f => ?_,fun i j o t d m f n => ?_⟩
 ·have:=aAu.1 (c i o d).1.1 b q;simpa using this
 ·unfold bef at f;rw [(c i o d).1.2] at f;exact arV f
 ·have g:=ac6 hi;unfold lU at hi;cases d:a[i]? with
  | none=>rw [d] at hi;cases hi
  | some o =>
   rw [d] at hi;rcases ((c i o d).2 j t f).1 with e | e
   ·exact e.symm
   ·exact absurd hi e
 ·rcases ((c i o d).2 j t f).2 with e | e | e
  ·exact absurd m e
  ·exact absurd e n
  ·constructor
   ·intro g;simpa [g] using e
   ·intro g;simpa [show ¬ j < i by omega] using e
theorem aj8 {a:Array Oper} (H:abJ a):∀ (i:Nat),i < a.size→∀ j,bef (lJ a) j i=true→j < i:=by
 intro i
 induction i using Nat.strongRecOn with
 | _ i d =>
  intro hi j e;obtain ⟨b,f,h⟩:=H.bit i a[i] (by simp [hi]) j e;have c:=H.lt i a[i] (by simp [hi]) b f;rcases h with rfl | h
  ·exact c
  ·have:=d b c (by omega) j h;omega
structure abK (P:Program) (once:Nat→Bool) (ops:Array Oper) (es:Nat→bC) (ms:Nat→aF) (vs:Nat→AV) (k:Nat) (o:Oper):Prop where
 env:es (k+1)=(es k).put o.dst (vs k)
 fixed:aen once ops k=true∨ms (k+1)=ms k∨(xZ once ops k=true∧∃ x,ms (k+1)=(ms k).push x)
 step:(sS ops (es k) o=true∧bZ P true (once (o.dst.getD 0)) (es k) (ms k) o.type (fun x=>x=⟨vs k,ms (k+1),none⟩) o.op)∨(sS ops (es k) o=false∧vs k=eI∧ms (k+1)=ms k)
theorem aj9 {b:Nat→Bool} {a:Array Oper} {Q:bC→aF→Prop}:∀ (l:List Oper) (i:Nat) (e:bC) (m:aF),a.toList.drop i=l→i+l.length=a.size→iO P b true a Q l e m →
 ∃ (d:Nat→bC) (f:Nat→aF) (vs:Nat→AV),d i=e∧f i=m∧Q (d a.size) (f a.size)∧∀ k o,i≤k→a[k]? = some o→abK P b a d f vs k o
 | [],i,e,m,hl,hi,h=>by
  refine ⟨fun _=>e,fun _=>m,fun _=>eI,rfl,rfl,h,fun k o J u => ?_⟩;have:=(azB.1 u).1;simp at hi;omega
 | o::rest,i,e,m,hl,hi,h=>by
  have u:a[i]? = some o:=by
   have:(a.toList.drop i)[0]? = some o:=by rw [hl];rfl
   rw [aAv] at this;simpa using this
  have y:a.toList.drop (i+1)=rest:=by
   rw [←List.drop_drop,hl];rfl
  have z:i+1+rest.length=a.size:=by simp only [List.length_cons] at hi;omega
  have n:∀ (v:AV) (m':aF),iO P b true a Q rest (e.put o.dst v) m'→(aen b a i=true∨m'=m∨(xZ b a i=true∧∃ x,m'=m.push x)) →
   ((sS a e o=true∧bZ P true (b (o.dst.getD 0)) e m o.type (fun x=>x=⟨v,m',none⟩) o.op)∨(sS a e o=false∧v=eI∧m'=m)) →
   ∃ (d:Nat→bC) (f:Nat→aF) (vs:Nat→AV),d i=e∧f i=m∧Q (d a.size) (f a.size)∧∀ k o,i≤k→a[k]? = some o→abK P b a d f vs k o:=by
   intro v m' q t w;obtain ⟨d,f,vs,I,B,G,H⟩:=aj9 rest (i+1) _ _ y z q;refine ⟨fun k=>if k=i then e else d k,fun k=>if k=i then m else f k,fun k=>if k=i then v else vs k,by simp,by simp, ?_,fun k C J g => ?_⟩
   ·simp only [if_neg (show ¬ a.size=i by omega)];exact G
   ·by_cases c:k=i
    ·subst c;have A:C=o:=by rw [u] at g;exact (Option.some.inj g).symm
     subst A;refine ⟨?_, ?_, ?_⟩
     ·simp only [if_neg (show ¬ k+1=k by omega),if_true];exact I
     ·simp only [if_neg (show ¬ k+1=k by omega),if_true,B];exact t
     ·simp only [if_neg (show ¬ k+1=k by omega),if_true,B];exact w
    ·obtain ⟨F,D,E⟩:=H k C (by omega) g;refine ⟨?_, ?_, ?_⟩
     ·simp only [if_neg (show ¬ k+1=i by omega),if_neg c];exact F
     ·simp only [if_neg (show ¬ k+1=i by omega),if_neg c];exact D
     ·simp only [if_neg (show ¬ k+1=i by omega),if_neg c];exact E
  simp only [iO] at h;split at h
  ·rename_i r;obtain ⟨out,⟨q,t⟩,w⟩:=arT h;obtain ⟨p,j⟩:=q trivial;obtain ⟨v,m',wb⟩:=out;simp only at p j;subst p;have s:a.size - (rest.length+1)=i:=by omega
   rw [s] at j;exact n v m' t j (.inl ⟨r,w⟩)
  ·rename_i r;exact n eI m h (.inr (.inl rfl)) (.inr ⟨by simpa using r,rfl,rfl⟩)
section
variable {once:Nat→Bool} {ops:Array Oper} {es:Nat→bC} {ms:Nat→aF} {vs:Nat→AV}
theorem abL {k:Nat} {o:Oper} (a:ops[k]? = some o):lU ops k=o.dst:=by unfold lU;rw [a];rfl
theorem abM (H:abJ ops) (T:∀ k o,ops[k]? = some o→abK P once ops es ms vs k o):∀ (k:Nat),k≤ops.size →
 (∀ j t,j < k→lU ops j=some t→es k t=vs j)∧(∀ t,(∀ j,j < k→lU ops j≠some t)→es k t=es 0 t)
 | 0,_=>⟨fun j t h=>by omega,fun _ _=>rfl⟩
 | k+1,hk=>by
  obtain ⟨l,i⟩:=abM H T k (by omega);have c:ops[k]? = some ops[k]:=by simp
  have f:=(T k _ c).env;have m:=abL c;have val:∀ t,es (k+1) t=if lU ops k=some t then vs k else es k t:=by
   intro t;rw [f,m];cases ops[k].dst with
   | none=>simp [bC.put]
   | some d =>
    simp only [bC.put,bC.set,ay0];by_cases h:t=d
    ·subst h;simp
    ·rw [if_neg h,if_neg (fun e=>h e.symm)]
  refine ⟨fun j t g a => ?_,fun t a => ?_⟩
  ·rw [val];by_cases b:j=k
   ·subst b;rw [if_pos a]
   ·rw [if_neg (fun h=>b (H.dst j k t a h))];exact l j t (by omega) a
  ·rw [val,if_neg (a k (by omega))];exact i t (fun j g=>a j (by omega))
theorem yB {i:Nat}:∀ (j:Nat),i≤j→(∀ c,i≤c→c < j→ms (c+1)=ms c)→ms j=ms i
 | 0,h,_=>by rw [show i=0 by omega]
 | j+1,h,hc=>by
  by_cases a:i=j+1
  ·rw [a]
  ·rw [hc j (by omega) (by omega)];exact yB j (by omega) (fun c b d=>hc c b (by omega))
structure nN (P:Program) (w0:World) (I0:Nat→Prop) (ρ0:cA) (m0:aF) (n:Nat) (D:List Deferred) (ops:Array Oper) (es:Nat→bC) (ms:Nat→aF) (vs:Nat→AV) (listed:Array Bool) (a:Act) (w:World) (e:bC) (j:Nat) (I:Nat→Prop) (ρ:cA):Prop where
 size:listed.size=ops.size
 rel:mK P w0 I0 ρ0 m0 n D e (ms j) a w I ρ
 le:j≤ops.size
 mem:∀ c,c < ops.size→ms (c+1)≠ms c→(listed.getD c false=true↔c < j)
 new:∀ k t,listed.getD k false=true→lU ops k=some t→e t=vs k
 old:∀ t,(∀ k,listed.getD k false=true→lU ops k≠some t)→e t=es 0 t
 closed:∀ i k,listed.getD i false=true→bef (lJ ops) k i=true→listed.getD k false=true
def vK (a:Array Bool):Nat→Nat
 | 0=>0
 | n+1=>vK a n+if a.getD n false=true then 0 else 1
theorem aka {a:Array Bool} {i:Nat} (hi:i < a.size) (g:a.getD i false=false):∀ n,vK (a.setIfInBounds i true) n+(if i < n then 1 else 0)=vK a n
 | 0=>by simp [vK]
 | n+1=>by
  have b:=aka hi g n;simp only [vK];by_cases h:n=i
  ·subst h;have j:(a.setIfInBounds n true).getD n false=true:=by simp [hi]
   rw [j,g];simp at b ⊢;omega
  ·rw [getD_set_ne false (fun e=>h e.symm)];by_cases f:i < n
   ·have d:(if i < n then 1 else 0)=1:=if_pos f;have c:(if i < n+1 then 1 else 0)=1:=if_pos (by omega);rw [d] at b;rw [c];omega
   ·have d:(if i < n then 1 else 0)=0:=if_neg f;have c:(if i < n+1 then 1 else 0)=0:=if_neg (by omega);rw [d] at b;rw [c];omega
theorem akb {a:Array Bool}:∀ n,vK a n=0→∀ k,k < n→a.getD k false=true
 | 0,_,k,hk=>by omega
 | n+1,h,k,hk=>by
  simp only [vK] at h;by_cases c:a.getD n false=true
  ·by_cases b:k=n
   ·subst b;exact c
   ·exact akb n (by omega) k (by omega)
  ·rw [if_neg c] at h;omega
theorem akc:∀ n s,vK (azK s false) n=n
 | 0,s=>rfl
 | n+1,s=>by
  simp only [vK,akc n s];have:¬ (azK s false).getD n false=true:=by
   rw [ayZ,aAA];split <;> simp
  rw [if_neg this]
theorem agU {a:Array Bool} {i:Nat} (hi:i < a.size):a.getD i true=a.getD i false:=by
 simp [hi]
theorem arX (H:abJ ops) {a:Array Bool} (hs:a.size=ops.size) (i:Region.ready .any ops a=[]):∀ (k:Nat),k < ops.size→a.getD k false=true:=by
 intro k
 induction k using Nat.strongRecOn with
 | _ k h =>
  intro f;cases g:a.getD k false with
  | true=>rfl
  | false =>
   have:k∈Region.ready .any ops a:=by
    rw [mem_ready];refine ⟨by rw [agU (by omega)];exact g,ops[k],by simp [f],fun e c j => ?_⟩;have d:e.on∈vJ ops[k]:=by
     unfold vJ;exact List.mem_map_of_mem (List.mem_filter.2 ⟨by simpa using c,j⟩)
    have b:=H.lt k ops[k] (by simp [f]) e.on d;exact h e.on b (by omega)
   rw [i] at this;cases this
variable {w0:World} {I0:Nat→Prop} {ρ0:cA} {m0:aF} {n:Nat} {D:List Deferred}
theorem arY {P:Program} {c:Bool} {e:bC} {m m':aF} {ty:TypeId} {op:Op} {z b i:Nat} {v:AV} (d:agK op=some z) (h:bZ P true c e m ty (fun x=>x=⟨v,m',none⟩) op) (k:v = .ptr b i):∃ g,e z = .ptr b g:=by
 unfold agK at d;split at d
 ·cases d;simp only [bZ,cZ,bI,eO,opd] at h;exact ⟨i,(congrArg bL.v h).trans k⟩
 ·cases d;simp only [bZ,cZ,eV,opd] at h;cases a:sQ (e z) with
  | none=>rw [a] at h;exact h.elim
  | some x =>
   rw [a] at h;have j:x=v:=congrArg bL.v h;subst j k;unfold sQ at a;split at a <;> cases a;exact ⟨_,‹_›⟩
 ·rename_i s y f;cases d;simp only [bZ,cZ,eV,opd] at h;cases a:aaC P s f (e z) with
  | none=>rw [a] at h;exact h.elim
  | some x =>
   rw [a] at h;have j:x=v:=congrArg bL.v h;subst j k;unfold aaC at a;obtain ⟨p,_,a⟩:=ayS a;split at a
   ·rename_i q o l;obtain ⟨n,_,a⟩:=ayS a;split at a
    ·cases a
    ·cases a;exact ⟨_,l⟩
   ·obtain ⟨n,_,a⟩:=ayS a;split at a <;> cases a
   ·cases a
 ·cases d
theorem arZ {P:Program} {q:Nat→Bool} {a:Array Oper} {s:Nat→bC} {B:Nat→aF} {vs:Nat→AV} (H:abJ a) (T:∀ k o,a[k]? = some o→abK P q a s B vs k o) {N:Nat} (g:∀ t b c,s 0 t = .ptr b c→b < N):∀ (n y i:Nat),i≤a.size→aeo a n y=true→∀ b c,s i y = .ptr b c→b < N:=by
 intro n
 induction n with
 | zero =>
  intro y i hi h b c f;rw [(abM H T i hi).2 y (fun j v e=>by
   have d:=ac6 e;have:=Array.all_eq_true.1 h j d;rw [abL (show a[j]? = some a[j] by simp [d])] at e;rw [e] at this;simp at this)] at f
  exact g y b c f
 | succ n x =>
  intro y i hi h b c f;by_cases m:∃ k,k < i∧lU a k=some y
  ·obtain ⟨k,D,e⟩:=m;rw [(abM H T i hi).1 k y D e] at f;have d:=ac6 e;have w:a[k]? = some a[k]:=by simp [d]
   have l:=Array.all_eq_true.1 h k d;rw [abL w] at e;rw [e] at l;simp only [bne_self_eq_false,Bool.false_or] at l;split at l
   ·rename_i z A;rcases (T k _ w).step with ⟨_,u⟩ | ⟨_,C,_⟩
    ·obtain ⟨p,r⟩:=arY A u f;exact x z k (by omega) l b p r
    ·rw [C] at f;cases f
   ·cases l
  ·rw [(abM H T i hi).2 y (fun j v e=>m ⟨j,v,e⟩)] at f;exact g y b c f
theorem ar0 {a:Array Oper} {op:Op} (h:ac5 a op=true):∃ t y,op = .load t (.tmp y)∧aeo a 3 y=true:=by
 unfold ac5 at h;split at h
 ·exact ⟨_,_,rfl,h⟩
 ·cases h
theorem akd {P:Program} {c:Bool} {e:bC} {m:aF} {ty:TypeId} {t:TypeId} {a:Operand} {out:bL} (h:bZ P true c e m ty (fun x=>x=out) (.load t a)):out.m=m∧vH P true c m t (opd e a)=some out.v∧out.wb=none:=by
 simp only [bZ] at h;cases b:vH P true c m t (opd e a) with
 | none=>rw [b] at h;exact h.elim
 | some v =>
  rw [b] at h;have h:(⟨v,m,none⟩:bL)=out:=h;subst h;exact ⟨rfl,rfl,rfl⟩
theorem ar1 {P:Program} {c:Bool} {e:bC} {m m':aF} {v:AV} {ty:TypeId} {op:Op} (a:agL op=true) (h:bZ P true c e m ty (fun x=>x=⟨v,m',none⟩) op):m'=m:=by
 unfold agL at a;split at a
 ·exact (akd h).1
 ·cases a
theorem ar2 {P:Program} {c:Bool} {e:bC} {m m' j:aF} {v:AV} {ty:TypeId} {t:TypeId} {y:Nat} (h:bZ P true c e m ty (fun x=>x=⟨v,j,none⟩) (.load t (.tmp y))) (i:∀ b a,e y = .ptr b a→m'.at_ b=m.at_ b):bZ P true c e m' ty (fun x=>x=⟨v,m',none⟩) (.load t (.tmp y)):=by
 have d:=(akd h).2.1;simp only at d;have g:vH P true c m' t (opd e (.tmp y))=some v:=by
  rw [←d];simp only [opd];unfold vH;split
  ·rfl
  ·unfold mH;split
   ·rename_i b a f;rw [i b a f]
   ·rfl
   ·rfl
 simp only [bZ,g];rfl
theorem ar3 (H:abJ ops) (hreg:abI n ops=true) (T:∀ k o,ops[k]? = some o→abK P once ops es ms vs k o) (hout:∀ t b off,es 0 t = .ptr b off→b < (ms 0).next) {Q':Exit→Act→World→Prop}
 (hQ:∀ a w I ρ,mK P w0 I0 ρ0 m0 n D (es ops.size) (ms ops.size) a w I ρ→Q' .normal a w) :
 ∀ (fuel:Nat) (listed:Array Bool) (a:Act) (w:World) (e:bC) (j:Nat) (I:Nat→Prop) (ρ:cA),vK listed ops.size≤fuel→nN P w0 I0 ρ0 m0 n D ops es ms vs listed a w e j I ρ→wpAny P .any ops Q' fuel listed a w:=by
 have done:∀ (listed:Array Bool) (a:Act) (w:World) (e:bC) (j:Nat) (I:Nat→Prop) (ρ:cA),(∀ k,k < ops.size→listed.getD k false=true)→nN P w0 I0 ρ0 m0 n D ops es ms vs listed a w e j I ρ→Q' .normal a w:=by
  intro listed a w e j I ρ hall V
  have he:e=es ops.size:=by
   funext t
   obtain ⟨h1,h2⟩:=abM H T ops.size (aza _)
   by_cases hex:∃ k,lU ops k=some t
   ·obtain ⟨k,hk⟩:=hex
    have hlt:=ac6 hk
    rw [V.new k t (hall k hlt) hk,h1 k t hlt hk]
   ·have hex:∀ k,lU ops k≠some t:=fun k hk=>hex ⟨k,hk⟩
    rw [V.old t (fun k _=>hex k),h2 t (fun k _=>hex k)]
  have hm:ms ops.size=ms j:=yB ops.size V.le (fun c h1 h2=>aAB fun hne=>by
   have:=(V.mem c h2 hne).1 (hall c h2)
   omega)
  have:=V.rel
  rw [he,←hm] at this
  exact hQ a w I ρ this
 intro fuel
 induction fuel with
 | zero =>
  intro listed a w e j I ρ hc V
  have hall:=akb ops.size (by omega:vK listed ops.size=0)
  refine ⟨?_,done listed a w e j I ρ hall V⟩
  cases hr:Region.ready .any ops listed with
  | nil=>rfl
  | cons i l =>
   have hi:i∈Region.ready .any ops listed:=by rw [hr];simp
   obtain ⟨h0,o,ho,_⟩:=mem_ready.1 hi
   have hlt:=(azB.1 ho).1
   have h1:=hall i hlt
   rw [agU (by rw [V.size];exact hlt)] at h0
   rw [h0] at h1
   cases h1
 | succ fuel ih =>
  intro listed a w e j I ρ hc V
  refine ⟨fun hr=>done listed a w e j I ρ (arX H V.size hr) V,fun i hi => ?_⟩
  obtain ⟨h0,o,ho,hall⟩:=mem_ready.1 hi
  have hlt:=(azB.1 ho).1
  have hls:i < listed.size:=by rw [V.size];exact hlt
  rw [agU hls] at h0
  have hbd:∀ b∈vJ o,listed.getD b false=true:=by
   intro b hb
   unfold vJ at hb
   obtain ⟨ed,hed,rfl⟩:=List.mem_map.1 hb
   obtain ⟨h1,h2⟩:=List.mem_filter.1 hed
   exact hall ed (by simpa using h1) h2
  have hbef:∀ k,bef (lJ ops) k i=true→listed.getD k false=true:=by
   intro k hk
   obtain ⟨b,hb,h⟩:=H.bit i o ho k hk
   rcases h with rfl | h
   ·exact hbd b hb
   ·exact V.closed b k (hbd b hb) h
  have hnot:∀ k,bef (lJ ops) i k=true→listed.getD k false=false:=by
   intro k hk
   cases hl:listed.getD k false with
   | false=>rfl
   | true =>
    have:=V.closed k i hl hk
    rw [h0] at this
    cases this
  obtain ⟨hes1,hes2⟩:=abM H T i (by omega)
  have hagree:∀ t∈o.looksAt ops,e t=es i t:=by
   intro t ht
   by_cases hex:∃ k,lU ops k=some t
   ·obtain ⟨k,hk⟩:=hex
    have huniq:∀ k',lU ops k'=some t→k'=k:=fun k' h'=>H.dst k' k t h' hk
    rcases Nat.lt_trichotomy k i with h | h | h
    ·have hb:=(H.look i k o t ho ht hk (by omega)).1 h
     rw [V.new k t (hbef k hb) hk,hes1 k t h hk]
    ·rw [V.old t (fun k' hl hk'=>by rw [huniq k' hk',h,h0] at hl;cases hl),hes2 t (fun k' hlt' hk'=>by have:=huniq k' hk';omega)]
    ·have hb:=(H.look i k o t ho ht hk (by omega)).2 h
     have hnl:=hnot k hb
     rw [V.old t (fun k' hl hk'=>by rw [huniq k' hk',hnl] at hl;cases hl),hes2 t (fun k' hlt' hk'=>by have:=huniq k' hk';omega)]
   ·have hex:∀ k,lU ops k≠some t:=fun k hk=>hex ⟨k,hk⟩
    rw [V.old t (fun k _=>hex k),hes2 t (fun k _=>hex k)]
  have hopd:∀ x∈o.op.operands.toList,opd e x=opd (es i) x:=by
   intro x hx
   refine arU fun t ht=>hagree t ?_
   unfold Oper.looksAt
   refine List.mem_append.2 (.inl (List.mem_filterMap.2 ⟨x,hx,by rw [ht]⟩))
  have hwant:sS ops e o=sS ops (es i) o:=by
   unfold sS
   cases hg:o.guard with
   | none=>rfl
   | some g =>
    obtain ⟨gi,want⟩:=g
    simp only
    cases hd:(ops[gi]?).bind (·.dst) with
    | none=>rfl
    | some d =>
     have:e d=es i d:=hagree d (by
      unfold Oper.looksAt
      rw [hg]
      simp [hd])
     simp only [this]
  obtain ⟨tenv,tfix,tstep⟩:=T i o ho
  -- the new state
  have next:∀ (v:Value) (w':World) (I':Nat→Prop) (ρ':cA) (j':Nat) (a':Act),j'≤ops.size →
   (∀ c,c < ops.size→ms (c+1)≠ms c→((listed.setIfInBounds i true).getD c false=true↔c < j')) →
   mK P w0 I0 ρ0 m0 n D (e.put o.dst (vs i)) (ms j') a' w' I' ρ'→wpAny P .any ops Q' fuel (listed.setIfInBounds i true) a' w':=by
   intro v w' I' ρ' j' a' hj' hmem hR
   refine ih (listed.setIfInBounds i true) a' w' (e.put o.dst (vs i)) j' I' ρ' ?_ ⟨by simp [V.size],hR,hj',hmem,fun k t hl hk => ?_,fun t ht => ?_,fun i2 k hl hb => ?_⟩
   ·have:=aka hls h0 ops.size
    rw [if_pos hlt] at this
    omega
   ·by_cases hki:k=i
    ·subst hki
     rw [abL ho] at hk
     rw [hk]
     simp [bC.put,bC.set]
    ·rw [getD_set_ne false (fun e=>hki e.symm)] at hl
     have hne:o.dst≠some t:=fun h=>hki (H.dst k i t hk (by rw [abL ho];exact h))
     have:(e.put o.dst (vs i)) t=e t:=by
      cases hd:o.dst with
      | none=>rfl
      | some d=>simp only [bC.put,bC.set];rw [if_neg (fun h=>hne (by rw [hd,h]))]
     rw [this]
     exact V.new k t hl hk
   ·have hne:o.dst≠some t:=by
     have:=ht i (by simp [hls])
     rwa [abL ho] at this
    have:(e.put o.dst (vs i)) t=e t:=by
     cases hd:o.dst with
     | none=>rfl
     | some d=>simp only [bC.put,bC.set];rw [if_neg (fun h=>hne (by rw [hd,h]))]
    rw [this]
    exact V.old t (fun k hl=>ht k (getD_set_true hl))
   ·by_cases hii:i2=i
    ·subst hii;exact getD_set_true (hbef k hb)
    ·rw [getD_set_ne false (fun e=>hii e.symm)] at hl
     exact getD_set_true (V.closed i2 k hl hb)
  have keepmem:ms (i+1)=ms i→∀ c,c < ops.size→ms (c+1)≠ms c→((listed.setIfInBounds i true).getD c false=true↔c < j):=by
   intro hsame c hc hne
   have hci:i≠c:=fun h=>hne (by rw [←h];exact hsame)
   rw [getD_set_ne false hci]
   exact V.mem c hc hne
  unfold wpOp
  rw [ho]
  simp only
  rw [aj4 V.rel.er o,hwant]
  rcases tstep with ⟨hw,hst⟩ | ⟨hw,hv,hsame⟩
  ·rw [hw]
   simp only [if_true]
   refine .inl ?_
   have hdlt:=aer (n:=n) hreg ho
   cases hp:abG (once (o.dst.getD 0)) o.op with
   | true =>
    obtain ⟨hsame,hst2⟩:=aj7 (m':=ms j) hp hst
    simp only at hsame
    have hst3:=agT (e':=e) hopd hst2
    refine aeq V.rel.sr V.rel.er hst3 V.rel.free ?_
    intro out v w' I' ρ' hK g2 g3 g4 g5 g6
    subst hK
    have hR:=V.rel.next hdlt g2 g3 g4 (fun d y hwb=>by cases hwb) g6
    exact next v w' I' ρ' j _ V.le (keepmem hsame) hR
   | false =>
    have hcmp3:∀ c,c < ops.size→ms (c+1)≠ms c→c≠i→(listed.getD c false=true↔c < i)∨(i < c∧ac5 ops o.op=true∧xZ once ops c=true∧∃ x,ms (c+1)=(ms c).push x):=by
     intro c hc hne hci
     have bf:bef (lJ ops) i c=true∨bef (lJ ops) c i=true→(listed.getD c false=true↔c < i):=by
      rintro (h | h)
      ·constructor
       ·intro hl;rw [hnot c h] at hl;cases hl
       ·intro hlt2;have:=aj8 H c hc i h;omega
      ·exact ⟨fun _=>aj8 H i hlt c h,fun _=>hbef c h⟩
     rcases (T c ops[c] (by simp [hc])).fixed with hf | hf | ⟨hf,hx⟩
     ·have:=aAu.1 hf i (aAz.2 hlt)
      rw [ho] at this
      simp only [hp,aAy,beq_iff_eq,azA,or_false] at this
      rcases this with (h | h) | h
      ·exact absurd h.symm hci
      ·exact .inl (bf (.inl h))
      ·exact .inl (bf (.inr h))
     ·exact absurd hf hne
     ·have hf':=hf
      unfold xZ at hf'
      have:=aAu.1 (Bool.and_eq_true_iff.1 hf').1 i (aAz.2 hlt)
      rw [ho] at this
      simp only [hp,aAy,beq_iff_eq,azA,false_or,aAq,decide_eq_true_eq] at this
      rcases this with ((h | h) | h) | h
      ·exact absurd h.symm hci
      ·exact .inr ⟨h.1,h.2,hf,hx⟩
      ·exact .inl (bf (.inl h))
      ·exact .inl (bf (.inr h))
    by_cases hpush:∃ c,c < ops.size∧i < c∧ac5 ops o.op=true∧xZ once ops c=true∧∃ x,ms (c+1)=(ms c).push x
    ·obtain ⟨c,hc,hic,hol,hpc,x,hx⟩:=hpush
     have hquiet:∀ c',xZ once ops c'=true→∀ k,k < c'→k < ops.size→ms (k+1)=ms k:=by
      intro c' hp' k hk hks
      unfold xZ at hp'
      have:=aAu.1 (Bool.and_eq_true_iff.1 hp').2 k (aAz.2 hk)
      have hok:ops[k]? = some ops[k]:=by simp [hks]
      rw [hok] at this
      simp only [aAy] at this
      rcases (T k ops[k] hok).step with ⟨_,hst'⟩ | ⟨_,_,h⟩
      ·rcases this with h | h
       ·exact (aj7 (m':=ms k) h hst').1
       ·exact ar1 h hst'
      ·exact h
     have h0c:ms c=ms 0:=yB c (aAC _) (fun k _ hk=>hquiet c hpc k hk (by omega))
     have h0i:ms i=ms 0:=yB i (aAC _) (fun k _ hk=>hquiet c hpc k (by omega) (by omega))
     have hsame:ms (i+1)=ms i:=hquiet c hpc i hic hlt
     have hxne:ms (c+1)≠ms c:=by
      rw [hx]
      intro h
      have:=congrArg aF.next h
      simp only [aF.push] at this
      omega
     have hjm:ms j=ms 0∨ms j=(ms 0).push x:=by
      by_cases hjc:j≤c
      ·exact .inl (yB j (aAC _) (fun k _ hk=>hquiet c hpc k (by omega) (by have:=V.le;omega)))
      ·refine .inr ?_
       rw [←h0c,←hx]
       have hle:=V.le
       refine yB j (by omega) fun c' h1 h2=>aAB fun hne => ?_
       have q1:=(V.mem c' (by omega) hne).2 h2
       rcases hcmp3 c' (by omega) hne (by omega) with h | ⟨_,_,h,_⟩
       ·have:=h.1 q1;omega
       ·exact hxne (hquiet c' h c (by omega) hc)
     obtain ⟨t,y,hop,hty⟩:=ar0 hol
     have hol':=hty
     rw [hop] at hst
     have hst2:bZ P true (once (o.dst.getD 0)) (es i) (ms j) o.type (fun x=>x=⟨vs i,ms j,none⟩) (.load t (.tmp y)):=by
      refine ar2 hst (fun b off he => ?_)
      have hb:=arZ H T hout 3 y i (by omega) hty b off he
      rw [h0i]
      rcases hjm with h | h
      ·rw [h]
      ·rw [h]
       simp only [aF.push]
       rw [if_neg (by omega)]
     rw [←hop] at hst2
     have hst3:=agT (e':=e) hopd hst2
     refine aeq V.rel.sr V.rel.er hst3 V.rel.free ?_
     intro out v w' I' ρ' hK g2 g3 g4 g5 g6
     subst hK
     have hR:=V.rel.next hdlt g2 g3 g4 (fun d y hwb=>by cases hwb) g6
     exact next v w' I' ρ' j _ V.le (keepmem hsame) hR
    have hcmp:∀ c,c < ops.size→ms (c+1)≠ms c→c≠i→(listed.getD c false=true↔c < i):=fun c hc hne hci=>(hcmp3 c hc hne hci).resolve_right fun ⟨a1,a2,a3,a4⟩=>hpush ⟨c,hc,a1,a2,a3,a4⟩
    have hji:ms j=ms i:=by
     by_cases hch:ms (i+1)=ms i
     ·rcases Nat.le_total j i with h | h
      ·refine (yB i h fun c h1 h2=>aAB fun hne => ?_).symm
       have q1:=(hcmp c (by omega) hne (by omega)).2 h2
       have q2:=(V.mem c (by omega) hne).1 q1
       omega
      ·refine yB j h fun c h1 h2=>aAB fun hne => ?_
       have hle:=V.le
       have hci:c≠i:=fun h=>hne (by rw [h];exact hch)
       have q1:=(V.mem c (by omega) hne).2 h2
       have q2:=(hcmp c (by omega) hne hci).1 q1
       omega
     ·have hij:j≤i:=by
       have q:=V.mem i hlt hch
       rw [h0] at q
       simp at q
       exact q
      refine (yB i hij fun c h1 h2=>aAB fun hne => ?_).symm
      have q1:=(hcmp c (by omega) hne (by omega)).2 h2
      have q2:=(V.mem c (by omega) hne).1 q1
      omega
    have hst3:=agT (e':=e) hopd hst
    rw [←hji] at hst3
    refine aeq V.rel.sr V.rel.er hst3 V.rel.free ?_
    intro out v w' I' ρ' hK g2 g3 g4 g5 g6
    subst hK
    have hR:=V.rel.next hdlt g2 g3 g4 (fun d y hwb=>by cases hwb) g6
    by_cases hch:ms (i+1)=ms i
    ·refine next v w' I' ρ' j _ V.le (keepmem hch) ?_
     rw [hji,←hch]
     exact hR
    ·refine next v w' I' ρ' (i+1) _ (by omega) (fun c hc hne => ?_) hR
     by_cases hci:c=i
     ·subst hci;simp [hls]
     ·rw [getD_set_ne false (fun h=>hci h.symm),hcmp c hc hne hci]
      omega
  ·rw [hw]
   simp only [azA,if_false]
   have hdlt:=aer (n:=n) hreg ho
   refine next undef w I ρ j _ V.le (keepmem hsame) ?_
   rw [hv]
   exact ⟨age V.rel.er (fun t ht=>by rw [V.rel.size];exact hdlt t ht) (by simp only [eI,undef,VR]),V.rel.sr,V.rel.free,V.rel.step,by rw [agN];exact V.rel.size,by rw [agO];exact V.rel.defers⟩
theorem ar4 {e:bC} {m:aF} {a:Act} {w:World} {I:Nat→Prop} {ρ:cA} (c:mK P w0 I0 ρ0 m0 n D e m a w I ρ) (k:Nat):mK P w0 I0 ρ0 m0 n D e m a { w with drawn:=k } I ρ:=by
 have st:cM w I ρ m { w with drawn:=k } I ρ m:=⟨rfl,rfl,rfl,aza _,fun _ _ _=>rfl,fun _ _ h=>h,fun _ h=>h,fun _ h => .inl h,fun _ _ h=>h,fun b f d=>absurd f d,fun _ h => .inl h,aza _⟩
 refine ⟨ajd st c.sr c.er,⟨fun b k g o f d => ?_,c.sr.inj,c.sr.lt,c.sr.mms.keep (st.keeps c.sr) (fun _ _ h=>h) (fun _ _=>⟨rfl,fun h=>h⟩)⟩,c.free,c.step.trans st,c.size,c.defers⟩;have x:=c.sr.blk b k g o f d;obtain ⟨arr,i,l,j⟩:=x.cells;exact ⟨x.one,⟨arr,i,l,eN (st.keeps c.sr) (fun _ _ h=>h) _ _ j⟩,x.wr,x.im,x.all1,x.nostr⟩
theorem ar5 (v:P.follows .mixedOrders=true) (x:abI n ops=true) (F:agQ ops=true) {Q:bC→aF→Prop} {Q':Exit→Act→World→Prop} (y:∀ e m a w I ρ,Q e m→mK P w0 I0 ρ0 m0 n D e m a w I ρ→Q' .normal a w)
 {id:Nat} {e:bC} {m:aF} {a:Act} {w:World} {I:Nat→Prop} {ρ:cA} (h:iO P once true ops Q ops.toList e m) (j:mK P w0 I0 ρ0 m0 n D e m a w I ρ):(Code.region id ops true).wp P Q' a w:=by
 have H:=arW F;obtain ⟨q,s,vs,u,p,A,E⟩:=aj9 ops.toList 0 e m rfl (by simp) h;have T:∀ k o,ops[k]? = some o→abK P once ops q s vs k o:=fun k o z=>E k o (by omega) z
 refine wp_region_any v ?_;have d:∀ k,(azK ops.size false).getD k false=false:=by
  intro k;rw [ayZ,aAA];split <;> simp
 have V:nN P w0 I0 ρ0 m0 n D ops q s vs (azK ops.size false) a { w with drawn:=w.drawn+1 } e 0 I ρ:=by
  refine ⟨by simp, ?_,by omega, ?_, ?_, ?_, ?_⟩
  ·rw [p];exact ar4 j _
  ·intro c J B;rw [d];simp
  ·intro k t f;rw [d] at f;cases f
  ·intro t _;rw [u]
  ·intro i k f;rw [d] at f;cases f
 exact ar3 H x T (fun t b G C=>aAB fun l=>by
  have h:=j.er t;rw [←u,C] at h;simp only [VR] at h;obtain ⟨g,o,r,_⟩:=h;rw [p] at l;rw [j.free b (by omega)] at r;cases r) (fun a w I ρ j=>y _ _ a w I ρ A j) ops.size _ a _ e 0 I ρ (by rw [akc];exact aza _) V
end
end
end Go.Tw