import Derived.Test.YtaekhhlgnbhnpaaGreatNzcG05
import Derived.Test.YtaekhhlgnbhnpaaGreatNzcG06
import Derived.Deep.LoopGhost
set_option linter.unusedVariables false
set_option linter.unusedSimpArgs false
open Array renaming getD_eq_getD_getElem?→ayW,map→aAq,getElem?_eq_some_iff→azy,replicate→azH,getElem?_replicate→aAx
open Bool renaming and_eq_true→aAn,false_eq_true→azx,and_self→aAu,or_eq_true→aAv
open Classical renaming byContradiction→aAy
open Go.Builtin renaming append_→azQ
open Go.Instr renaming buildSlice→azr
open List renaming range→aAm,getElem?_map→azl,map_cons→aAo,map_nil→aAp,ext_getElem?→aAf,getElem?_eq_none→ay3,all_eq_true→aAr,getElem?_drop→aAs,map_congr_left→aAt,mem_range→aAw
open List.cons renaming injEq→aAb
open Nat renaming le_refl→ay7,zero_add→azn,lt_or_ge→azU,zero_le→aAz
open Option renaming map_eq_some_iff→ayY,bind_some→aAh
open Option.some renaming injEq→ayX
namespace Go.Tw
open Go
def xU (P:Program) (m:aF) (t:TypeId) (len:Nat) (parts:List (Nat×AV)):Option bR :=
 (bZ P t).bind fun el=>(cE P el).bind fun n=>(jF P el len).bind fun z=>if len*n≤16777216 then
  (iR (fun i=>some (i*n,n)) z parts).bind fun cs=>(fzs m cs).bind fun r=>bL (.tree len len r.1 true) r.2
 else none
section
variable {P:Program} {w:World} {I:Nat→Prop} {ρ:cB} {m:aF}
theorem aq7 (C:SR P w I ρ m) {t:TypeId} {len:Nat} {parts:List (Nat×AV)} {out:bR} (h:gF P m t len parts=some out) (s:∀ b,m.next≤b→b < out.m.next→ρ b=none)
 {c:List (Nat×Value)} (O:c.length=parts.length) (G:∀ (j i:Nat) (D:AV) (E:Nat) (v:Value),parts[j]? = some (i,D)→c[j]? = some (E,v)→i=E∧VR P w I ρ D v) (addr:Value) :
 iK P w I ρ m ((azr t len c.toArray).run P w) id out addr:=by
 unfold gF at h;obtain ⟨el,g,h⟩:=ayQ h;obtain ⟨n,q,h⟩:=ayQ h;obtain ⟨z,Q,h⟩:=ayQ h;split at h
 ·rename_i K;obtain ⟨cs,r,h⟩:=ayQ h;split at h
  ·cases h
  rename_i u;simp only [zak] at h;subst h;obtain ⟨sz,o,arr,H,N,L,T,J⟩:=adF Q;rw [q,ayX] at o;subst o;obtain ⟨k,F,W,V,U,M⟩:=aaB (P:=P) (w:=w) (I:=I) (ρ:=ρ) (place:=fun i=>some (i*n,n)) (placeE:=fun i=>some (i*n,n)) (fun _ _ h=>h) parts c z cs arr r O G (by rw [N,L]) T (J w I ρ);have B:=o7.alloc w k el;obtain ⟨a,b⟩:=adD B C;refine ⟨.slice (some ⟨w.heap.size,0,none⟩) len len,_,_,_, ?_, ?_,a,b,fun d y h=>by cases h⟩
  ·have e:=H w;simp only [Sem.run_bind,Sem.run_ite,Sem.run_pure] at e;by_cases p:len*n=0
   ·simp [p] at e;simp [azr,cW (iJ g),iC q,p,F,e,newRow]
   ·simp only [p,if_false] at e;have l:¬ (16777216 < len*n):=by omega
    cases f:(zeroValue el).run P w with
    | halt x y=>rw [f] at e;simp at e
    | ok x y =>
     rw [f] at e;simp at e;obtain ⟨S,R⟩:=e;subst R;simp [azr,cW (iJ g),iC q,p,l,f,S,F,newRow]
  ·simp only [id,VR];obtain ⟨fr,A⟩:=B.blk;refine ⟨_,0,len,rfl,.inr rfl,⟨ay7 _,ay7 _⟩,fun _=>rfl,U, ?_⟩;exact iH (eL (b.keeps C) (fun _ _ h=>h) _ _ (zJ cs _ (by simpa using u) M)) fun j _=>by rw [cell_of_row _ _ _ _ _ _ A,azn]
 ·cases h
theorem aq8 (M:SR P w I ρ m) {t:TypeId} {len:Nat} {parts:List (Nat×AV)} {out:bR} (h:xU P m t len parts=some out) (A:∀ b,m.next≤b→b < out.m.next→ρ b=none)
 {c:List (Nat×Value)} (T:c.length=parts.length) (H:∀ (j i:Nat) (E:AV) (F:Nat) (v:Value),parts[j]? = some (i,E)→c[j]? = some (F,v)→i=F∧VR P w I ρ E v) (addr:Value) :
 iK P w I ρ m ((azr t len c.toArray).run P w) id out addr:=by
 unfold xU at h;obtain ⟨el,g,h⟩:=ayQ h;obtain ⟨n,r,h⟩:=ayQ h;obtain ⟨z,U,h⟩:=ayQ h;split at h
 ·rename_i O;obtain ⟨cs,u,h⟩:=ayQ h;obtain ⟨Y,q,h⟩:=ayQ h;obtain ⟨s,m'⟩:=Y;simp only [zak] at h;subst h;obtain ⟨sz,o,arr,K,S,Q,X,N⟩:=adF U;rw [r,ayX] at o;subst o;obtain ⟨k,G,f2,f3,f4,R⟩:=aaB (P:=P) (w:=w) (I:=I) (ρ:=ρ) (place:=fun i=>some (i*n,n)) (placeE:=fun i=>some (i*n,n)) (fun _ _ h=>h) parts c z cs arr u T H (by rw [S,Q]) X (N w I ρ);have D:=o7.alloc w k el;obtain ⟨I1,C,J,g3,L,g5,Z⟩:=xO cs m m' I s _ q M R;obtain ⟨a,b⟩:=adD D C;refine ⟨.slice (some ⟨w.heap.size,0,none⟩) len len,_,_,_, ?_, ?_,a,J.trans b,fun d y h=>by cases h⟩
  ·have e:=K w;simp only [Sem.run_bind,Sem.run_ite,Sem.run_pure] at e;by_cases p:len*n=0
   ·simp [p] at e;simp [azr,cW (iJ g),iC r,p,G,e,newRow]
   ·simp only [p,if_false] at e;have l:¬ (16777216 < len*n):=by omega
    cases f:(zeroValue el).run P w with
    | halt x y=>rw [f] at e;simp at e
    | ok x y =>
     rw [f] at e;simp at e;obtain ⟨W,V⟩:=e;subst V;simp [azr,cW (iJ g),iC r,p,l,f,W,G,newRow]
  ·simp only [id,VR];obtain ⟨fr,B⟩:=D.blk;refine ⟨_,0,len,rfl,.inr rfl,⟨ay7 _,ay7 _⟩,fun _=>rfl,Z f4, ?_⟩;exact iH (eL (b.keeps C) (fun _ _ h=>h) _ _ L) fun j _=>by rw [cell_of_row _ _ _ _ _ _ B,azn]
 ·cases h
end
def tY (P:Program) (d once:Bool) (m:aF) (t:TypeId) (x:AV):Option AV:=match d && once with
 | true=>(match x with | .tptr a cells=>oJ P t cells a | _=>none)
 | false=>lO P m t x
def adT (a b:Option bR):Option bR:=match a with
 | some o=>some o
 | none=>b
def tZ (P:Program) (d once:Bool) (m:aF) (t:TypeId) (len:Nat) (parts:List (Nat×AV)):Option bR:=match once,d with
 | true,true=>gF P m t len parts
 | true,false=>adT (gF P m t len parts) (xU P m t len parts)
 | false,_=>p6 P m t len parts
def mL (P:Program) (once:Bool) (m:aF) (src dst:TypeId) (x:AV):Option bR:=match once,bZ P dst,x with
 | true,some el,.val (.string s)=>if rX P el∧oH P src∧cE P el=some 1 then bL (.tree s.size s.size (fT s) false) m else none
 | _,_,_=>mJ P m src dst x
theorem aq9 {P:Program} {w:World} {I:Nat→Prop} {ρ:cB} {m:aF} (o:SR P w I ρ m) {once:Bool} {src dst:TypeId} {x:AV} {out:bR} (h:mL P once m src dst x=some out) (c:∀ b,m.next≤b→b < out.m.next→ρ b=none) {v:Value} (g:VR P w I ρ x v) (addr:Value) :
 iK P w I ρ m ((Go.convert src dst v).run P w) id out addr:=by
 unfold mL at h;split at h
 ·rename_i el s e;split at h
  ·rename_i u;obtain ⟨r,i,p⟩:=u;have f:=aax i;simp only [zak] at h;subst h;simp only [VR] at g;subst g;obtain ⟨cap,arr,w',t,z,l,A,q,B⟩:=ai7 (P:=P) (w:=w) el s;obtain ⟨a,b⟩:=adD l o;refine ⟨.slice (some ⟨w.heap.size,0,none⟩) s.size cap,w',_,_, ?_, ?_,a,b,fun d y h=>by cases h⟩
   ·simp [Go.convert,cW f,cW (iJ e),cW (af4 r),t]
   ·simp only [id,VR];obtain ⟨fr,k⟩:=l.blk;refine ⟨_,0,cap,rfl,.inr rfl,⟨ay7 _,z⟩,(fun h=>by cases h),agh s, ?_⟩;exact iH (agf s) fun j n=>by rw [cell_of_row _ _ _ _ _ _ k,azn];exact q j (by rw [agi] at n;exact n)
  ·cases h
 ·exact ai9 o h c g addr
theorem ara {P:Program} {m:aF} {once:Bool} {src dst:TypeId} {x:AV} {out:bR} (h:mL P once m src dst x=some out):out.wb=none:=by
 unfold mL at h;split at h
 ·split at h
  ·simp only [zak] at h;subst h;rfl
  ·cases h
 ·unfold mJ at h;split at h
  ·split at h
   ·split at h
    ·simp only [zak] at h;subst h;rfl
    ·cases h
   ·cases h
  ·split at h
   ·split at h
    ·obtain ⟨_,_,h⟩:=ayQ h;split at h
     ·obtain ⟨_,_,h⟩:=ayQ h;simp only [zak] at h;subst h;rfl
     ·cases h
    ·cases h
   ·split at h
    ·obtain ⟨_,_,rfl⟩:=ayR h;rfl
    ·cases h
def mM (P:Program) (d once:Bool) (m:aF) (src dst:TypeId) (x:AV):Option bR:=match once && d with
 | true=>(match x with
  | .sl .. => none
  | _=>mL P once m src dst x)
 | false=>mL P once m src dst x
theorem ajE {P:Program} {d once:Bool} {m:aF} {src dst:TypeId} {x:AV} {out:bR} (h:mM P d once m src dst x=some out):mL P once m src dst x=some out:=by
 unfold mM at h;split at h
 ·split at h
  ·cases h
  ·exact h
 ·exact h
theorem arb {P:Program} {d once:Bool} {m:aF} {t:TypeId} {x a:AV} (h:tY P d once m t x=some a):lO P m t x=some a:=by
 unfold tY at h;split at h
 ·split at h
  ·exact h
  ·cases h
 ·exact h
def act (P:Program) (m:aF) (t:TypeId) (x:AV) (lo hi mx:Option AV):Option bR:=if slOk P m t x then (dB lo).bind fun lo=>(dB hi).bind fun hi=>(dB mx).bind fun mx=>eX (mH P t lo hi mx x) m else none
def sliceX (P:Program) (d once:Bool) (m:aF) (t:TypeId) (x:AV) (lo hi mx:Option AV):Option bR:=match d && once with
 | true=>(match x with
  | .sl .. => none
  | _=>act P m t x lo hi mx)
 | false=>act P m t x lo hi mx
theorem arc {P:Program} {d once:Bool} {m:aF} {t:TypeId} {x:AV} {lo hi mx:Option AV} {out:bR} (h:sliceX P d once m t x lo hi mx=some out):act P m t x lo hi mx=some out:=by
 unfold sliceX at h;split at h
 ·split at h
  ·cases h
  ·exact h
 ·exact h
def eO (r:Option bR) (K:bR→Prop):Prop:=match r with
 | some o=>K o
 | none=>False
def ajF (P:Program) (f:FuncId) (args:List AV) (m:aF) (K:bR→Prop):Prop :=
 ∃ a r,d9 3 m args=some a∧aR P f a r∧(j5 args=false∨r.apart=true)∧K ⟨shift m.next r.v,dT P m r.rows,none⟩
def ajG (P:Program) (f:FuncId) (args:List AV) (m:aF) (K:bR→Prop):Prop:=fH P f args m fun v m'=>K ⟨v,m',none⟩
def ard (P:Program) (f:FuncId) (args:List AV) (m:aF) (K:bR→Prop):Prop:=∃ r m',fH P f args m (fun v a=>v=r∧a=m')∧K ⟨r,m',none⟩
def ajH (P:Program) (f:FuncId) (args:List AV) (m:aF) (K:bR→Prop):Prop :=
 ∃ a b r,fzs m args=some (a,b)∧aR P f a r∧K ⟨shift b.next r.v,dT P b r.rows,none⟩
def ajI (P:Program) (f:FuncId) (args:List AV) (m:aF) (K:bR→Prop):Prop:=∃ r,aqH P f args m r∧K ⟨r,m,none⟩
def nO (P:Program) (d:Bool) (f:FuncId) (args:List AV) (m:aF) (K:bR→Prop):Prop:=ajF P f args m K∨(d=false∧ajG P f args m K)∨ard P f args m K∨ajI P f args m K∨ajH P f args m K
def zM (P:Program) (f:FuncId) (args:List AV) (m:aF) (K:bR→Prop):Prop :=
 ∃ r,aR P f args r∧r.rows=[]∧(∀ k m,d9 k m args=some args)∧j5 args=false∧(∀ k,shift k r.v=r.v)∧K ⟨r.v,m,none⟩
def nP (P:Program) (d once:Bool) (m:aF) (args:List AV) (K:bR→Prop):AV→Prop
 | .clo g a=>match once && d with
  | true=>zM P g (args++a) m K
  | false=>nO P d g (args++a) m K
 | _=>False
theorem are {P:Program} {d:Bool} {f:FuncId} {args:List AV} {m:aF} {K:bR→Prop} (h:zM P f args m K):nO P d f args m K:=by
 obtain ⟨r,i,g,b,c,a,e⟩:=h;exact .inl ⟨args,r,b 3 m,i,.inl c,by rw [a,g];exact e⟩
theorem arf {P:Program} {d c:Bool} {f:FuncId} {args:List AV} {m:aF} {K:bR→Prop} (h:match c && d with | true=>zM P f args m K | false=>nO P d f args m K):nO P d f args m K:=by
 split at h
 ·exact are h
 ·exact h
def cC (P:Program) (d once:Bool) (e:bB) (m:aF) (ty:TypeId) (K:bR→Prop):Op→Prop
 | .call ⟨.builtin b,args,ts⟩=>eO (r6 P m ts ty (args.toList.map (opd e)) b) K
 | .call ⟨.value f,args,_⟩=>nP P d once m (args.toList.map (opd e)) K (opd e f)
 | .call _=>False
 | .buildSlice t len parts=>eO (tZ P d once m t len (parts.toList.map fun p=>(p.1,opd e p.2))) K
 | .load t a=>eO (eX (tY P d once m t (opd e a)) m) K
 | .slice t x lo hi mx=>eO (sliceX P d once m t (opd e x) (lo.map (opd e)) (hi.map (opd e)) (mx.map (opd e))) K
 | .convert src dst x=>eO (mM P d once m src dst (opd e x)) K
 | .lookup t x k false=>eO (eX (vW P m t (opd e x) (opd e k)) m) K
 | .mapUpdate t x k v=>eO (tW P m t (opd e x) (opd e k) (opd e v)) K
 | .entry x=>eO (eX (acp m (opd e x)) m) K
 | .makeMap _ none=>d=false∧aaK m K
 | .range t x=>d=false∧aaL P m t (opd e x) K
 | .next x false=>d=false∧aaM m (opd e x) K
 | op=>eO (dG P once e m op) K
def t6 (e:bB):Option (Nat×AV)→bB
 | some (d,y)=>e.set d y
 | none=>e
def aaO (c:Bool):Op→Bool
 | .load .. | .slice .. | .buildSlice .. | .convert .. | .call ⟨.value _,_,_⟩=>c
 | .move _ | .assign _ | .build .. | .pick .. | .binOp .. | .unOp .. | .nilCheck _ | .extract .. | .field .. | .fieldAddr .. | .indexAddr .. | .index .. => true
 | .call ⟨.builtin .len,_,_⟩ | .call ⟨.builtin .min,_,_⟩ | .call ⟨.builtin .max,_,_⟩=>true
 | _=>false
def t7 (o:Oper):List Nat:=(o.after.toList.filter fun e=>Region.binds .any e).map (·.on)
def just (a:List Nat) (bs:List Nat):Nat:=bs.foldl (fun x b=>x ||| (2 ^ b ||| a.getD b 0)) 0
def ajJ:List Oper→List Nat→List Nat
 | [],acc=>acc
 | o::l,acc=>ajJ l (acc++[just acc (t7 o)])
def lD (a:Array Oper):List Nat:=ajJ a.toList []
def bef (a:List Nat) (j i:Nat):Bool:=(a.getD i 0).testBit j
def adU (once:Nat→Bool) (a:Array Oper) (i:Nat):Bool:=(aAm a.size).all fun k=>k == i || (match a[k]? with | some o=>aaO (once (o.dst.getD 0)) o.op | none=>true) || bef (lD a) k i || bef (lD a) i k
def acu (a:Array Oper):Op→Bool
 | .load _ (.tmp t)=>a.all fun o=>o.dst != some t
 | _=>false
def agx:Op→Bool
 | .load .. => true
 | _=>false
def vX (once:Nat→Bool) (a:Array Oper) (i:Nat):Bool:=((aAm a.size).all fun k=>k == i || (match a[k]? with | some o=>aaO (once (o.dst.getD 0)) o.op || (decide (k < i) && acu a o.op) | none=>true) || bef (lD a) k i || bef (lD a) i k) && (aAm i).all fun k=>match a[k]? with | some o=>aaO (once (o.dst.getD 0)) o.op || agx o.op | none=>true
def drawn (once:Nat→Bool) (a:Array Oper) (k:Nat) (m:aF) (out:bR):Prop:=out.wb=none∧(adU once a (a.size - k)=true∨out.m=m∨(vX once a (a.size - k)=true∧∃ x,out.m=m.push x))
def iL (P:Program) (once:Nat→Bool) (d:Bool) (a:Array Oper) (Q:bB→aF→Prop):List Oper→bB→aF→Prop
 | [],e,m=>Q e m
 | o::rest,e,m =>
  if q8 a e o then cC P d (once (o.dst.getD 0)) e m o.type (fun out=>(d=true→drawn once a (rest.length+1) m out)∧iL P once d a Q rest ((t6 e out.wb).put o.dst out.v) out.m) o.op
  else iL P once d a Q rest (e.put o.dst eN) m
def qB (K:bB→aF→Prop) (Q:Ex→bB→aF→Prop):Ex→bB→aF→Prop
 | .normal,e,m=>K e m
 | x,e,m=>Q x e m
def o8 (id:Nat) (Q:Ex→bB→aF→Prop):Ex→bB→aF→Prop
 | .exit id',e,m=>if id'=id then Q .normal e m else Q (.exit id') e m
 | x,e,m=>Q x e m
def aaP (A B:Prop):AV→Prop
 | .val (.bool t)=>(t=true→A)∧(t=false→B)
 | _=>False
def zN (a:(Ex→bB→aF→Prop)→bB→aF→Prop) (Q:Ex→bB→aF→Prop) (e:bB) (m:aF):Prop :=
 ∃ (J:Nat→bB→aF→Prop) (n:Nat),J n e m∧∀ n e m,J n e m→a (qB (fun e' m'=>∃ b,b < n∧J b e' m') Q) e m
def aaQ (n:Nat) (a:Array Oper):Bool:=a.all fun o=>match o.dst with
 | some d=>decide (d < n)
 | none=>true
section
variable {P:Program}
theorem ajK {w:World} {I:Nat→Prop} {ρ:cB} {h:Array Oper} {e:bB} {a:Act} (n:ER P w I ρ e a) (o:Oper):Region.wanted o (yielded h a.tmps)=q8 h e o:=by
 unfold Region.wanted q8;cases o.guard with
 | none=>rfl
 | some g =>
  obtain ⟨j,l⟩:=g;simp only [yielded];cases (h[j]?).bind (·.dst) with
  | none=>rfl
  | some d =>
   simp only [aAh];have f:=n d;rw [ayW] at f;cases m:a.tmps[d]? with
   | none =>
    rw [m] at f;simp only [Option.getD_none] at f;have k:∀ b,e d ≠ .val (.bool b):=fun b i=>by rw [i] at f;simp [VR,undef] at f
    split
    ·rename_i c;cases c
    ·split
     ·rename_i b i;exact absurd i (k b)
     ·rfl
   | some v =>
    rw [m] at f;simp only [Option.getD_some] at f;cases v with
    | bool b =>
     have:=ap1 f;rw [this];simp
    | _ =>
     simp only;split
     ·rename_i b i;rw [i] at f;simp [VR] at f
     ·rfl
def ajL (P:Program) (w:World) (I:Nat→Prop) (ρ:cB) (m:aF) (a:Act) (o:Oper) (K:bR→Prop) (next:Act→World→Prop):Prop :=
 ∀ out v w' c ρ',K out→VR P w' c ρ' out.v v→SR P w' c ρ' out.m→cL w I ρ m w' c ρ' out.m→(∀ d y,out.wb=some (d,y)→VR P w' c ρ' y (a.tmps.getD d undef))→(∀ b,out.m.next≤b→ρ' b=none)→next (a.put o.dst v) w'
theorem adV {w w':World} {I a:Nat→Prop} {ρ ρ':cB} {m m':aF} (s:cL w I ρ m w' a ρ' m') (h:∀ b,m.next≤b→ρ b=none):∀ b,m'.next≤b→ρ' b=none:=by
 intro b c;cases d:ρ' b with
 | none=>rfl
 | some x =>
  have:=s.lo b (h b (Nat.le_trans s.next c)) (by rw [d];simp);omega
theorem sG {w:World} {I:Nat→Prop} {ρ:cB} {m:aF} {a:Act} {o:Oper} {out:bR} {K:bR→Prop} {next:Act→World→Prop} {Q:Exit→Act→World→Prop} (h:fG P w I ρ m a ((execOp a.eval o).run P w) out) (n:K out)
 (c:∀ b,m.next≤b→ρ b=none) (g:ajL P w I ρ m a o K next):o.wp P a w next Q:=by
 obtain ⟨v,w',i,ρ',d,l,j,e,f⟩:=h;have:=g out v w' i ρ' n l j e f (adV e c);unfold Oper.wp;rcases d with d | ⟨d,k⟩
 ·rw [d,Oper.upon_value];exact this
 ·rw [d,Oper.upon_skip,←k];exact this
theorem arg {m:aF} {k:Nat} {cs a:List AV} (h:d9 k m cs=some a):a.length=cs.length:=(aaF k cs a h).1
theorem arh {w:World} {I:Nat→Prop} {ρ:cB} {e:bB} {a:Act} (k:ER P w I ρ e a) (args:Array Operand) {d:List AV} {b:Array Value} (i:bC P w I ρ d (fun j=>b[j]?)) (hs:b.size=d.length) :
 (args.map a.eval++b).size=(args.toList.map (opd e)++d).length∧bC P w I ρ (args.toList.map (opd e)++d) (fun j=>(args.map a.eval++b)[j]?):=by
 refine ⟨by simp [hs],j6.2 fun j c f => ?_⟩;rcases azU j args.size with h | h
 ·rw [List.getElem?_append_left (by simpa using h),azl] at f;obtain ⟨x,g,rfl⟩:=ayR f;refine ⟨a.eval x, ?_,d7 k x⟩;rw [Array.getElem?_append_left (by simpa using h)];simp at g;simp [g]
 ·rw [List.getElem?_append_right (by simpa using h)] at f;obtain ⟨v,m,l⟩:=gQ i f;refine ⟨v, ?_,l⟩;rw [Array.getElem?_append_right (by simpa using h)];simpa using m
theorem agy {w:World} {a:Act} {dst:Option Tmp} {ty:TypeId} {pos:String} {after:Array Edge} {guard:Option (Nat×Bool)} {f:Operand} {args:Array Operand} {ts:Array TypeId} {g:FuncId} {b:Array Value} {next:Act→World→Prop} {Q:Exit→Act→World→Prop}
 (o:a.eval f = .func (.func g) #[] b) (i:sF P g=true) (h:Calls P g (args.map a.eval++b) w fun e w'=>match e with | .returned v=>next (a.put dst v) w' | _=>False) :
 Oper.wp P { dst:=dst,op := .call { callee := .value f,args:=args,argTypes:=ts },type:=ty,pos:=pos,after:=after,guard:=guard } a w next Q:=by
 unfold sF at i;split at i
 ·rename_i k l;simp only [aAn,bne_iff_ne,ne_eq] at i;obtain ⟨p,n⟩:=i;have q:k.body.isNone=false:=by cases j:k.body <;> simp_all
  have d:(execOp a.eval { dst:=dst,op := .call { callee := .value f,args:=args,argTypes:=ts },type:=ty,pos:=pos,after:=after,guard:=guard }).run P w = .ok (.enter g (args.map a.eval++b)) w:=by
   have m:¬ k.body=none:=fun h=>by rw [h] at n;cases n
   simp [execOp,resolve,o,Deferred.ofValue,invoke,callFunc,l,p,m]
  unfold Oper.wp;rw [d,Oper.upon_enter];exact h.mono fun e w' j=>by
   cases e with
   | returned v=>exact j
   | panicked c=>exact j.elim
   | outgrown=>exact j.elim
 ·cases i
theorem ari {w:World} {I:Nat→Prop} {ρ:cB} {m:aF} (F:SR P w I ρ m) {e:bB} {a:Act} (v:ER P w I ρ e a) {b:Builtin} {args:Array Operand} {ts:Array TypeId} {ty:TypeId} {out:bR} (h:r6 P m ts ty (args.toList.map (opd e)) b=some out)
 (u:∀ b,m.next≤b→b < out.m.next→ρ b=none) (D:Array Bool):fG P w I ρ m a ((builtin b ts ty D (args.map a.eval)).run P w) out:=by
 obtain ⟨args⟩:=args;obtain ⟨ts⟩:=ts;cases b <;> simp only [r6] at h <;> try (cases h;done)
 case append =>
  split at h
  ·rename_i t R s x l;obtain ⟨f,g,C⟩:∃ f g,args=[f,g]:=by
    match args,l with
    | [f,g],_=>exact ⟨f,g,rfl⟩
   subst C;simp only [aAo,aAp,aAb,and_true] at l;obtain ⟨rfl,rfl⟩:=l;split at h
   ·rename_i A;obtain ⟨el,i,h⟩:=ayQ h;have B:=aqu (ty:=ty) (addr:=undef) F i A h u (d7 v f) (d7 v g);have q:aAq a.eval ⟨[f,g]⟩ = #[a.eval f,a.eval g]:=by simp
    rw [q];refine fG.of_does (s:=azQ #[t,R] ty #[a.eval f,a.eval g]) B (fun d y o => ?_);unfold gA at h;obtain ⟨_,_,h⟩:=ayQ h;obtain ⟨_,_,h⟩:=ayQ h;obtain ⟨_,_,h⟩:=ayQ h;obtain ⟨_,_,h⟩:=ayQ h;obtain ⟨_,_,h⟩:=ayQ h;split at h
    ·split at h
     ·split at h
      ·simp only [zak] at h;subst h;cases o
      ·split at h
       ·simp only [zak] at h;subst h;cases o
       ·cases h
     ·split at h
      ·split at h
       ·simp only [zak] at h;subst h;cases o
       ·cases h
      ·split at h
       ·obtain ⟨_,_,h⟩:=ayQ h;split at h
        ·simp only [zak] at h;subst h;cases o
        ·split at h
         ·simp only [zak] at h;subst h;cases o
         ·cases h
       ·cases h
    ·cases h
   ·obtain ⟨el,i,h⟩:=ayQ h;split at h
    ·rename_i hi;obtain ⟨n,A,h⟩:=ayQ h;have H:∃ k,opd e g = .val (.int k n):=by
      unfold jW at A;split at A
      ·rename_i k z Q;split at A
       ·rename_i M;simp only [ayX] at A;exact ⟨k,by rw [Q,←A,Int.toNat_of_nonneg M]⟩
       ·cases A
      ·cases A
     obtain ⟨k,H⟩:=H;have O:a.eval g = .int k n:=by have:=d7 v g;rw [H] at this;simpa only [VR] using this
     have B:=aqx (ty:=ty) (addr:=undef) (k:=k) F i hi h u (d7 v f);have q:aAq a.eval ⟨[f,g]⟩ = #[a.eval f,.int k n]:=by simp [O]
     rw [q];refine fG.of_does (s:=azQ #[t,R] ty #[a.eval f,.int k n]) B (fun d y o => ?_);unfold adw at h;obtain ⟨_,_,h⟩:=ayQ h;obtain ⟨_,_,h⟩:=ayQ h;obtain ⟨_,_,h⟩:=ayQ h;obtain ⟨_,_,h⟩:=ayQ h;split at h
     ·simp only [zak] at h;subst h;cases o
     ·cases h
    ·cases h
  ·cases h
 case cap =>
  split at h
  ·rename_i t x l;obtain ⟨f,C⟩:∃ f,args=[f]:=by
    match args,l with
    | [f],_=>exact ⟨f,rfl⟩
   subst C;simp only [aAo,aAp,aAb,and_true] at l;subst l;obtain ⟨el,i,h⟩:=ayQ h;obtain ⟨N,p,rfl⟩:=ayR h;have B:=aqy (ty:=ty) (addr:=undef) F i p (d7 v f);have q:aAq a.eval ⟨[f]⟩ = #[a.eval f]:=by simp
   rw [q];exact fG.of_does (s:=Builtin.cap_ #[t] ty #[a.eval f]) B (fun d y o=>by cases o)
  ·cases h
 case clear =>
  split at h
  ·rename_i t x l;obtain ⟨f,C⟩:∃ f,args=[f]:=by
    match args,l with
    | [f],_=>exact ⟨f,rfl⟩
   subst C;simp only [aAo,aAp,aAb,and_true] at l;subst l;obtain ⟨el,i,h⟩:=ayQ h;have B:=aqz (ty:=ty) (addr:=undef) F i h (d7 v f);have q:aAq a.eval ⟨[f]⟩ = #[a.eval f]:=by simp
   rw [q];refine fG.of_does (s:=Builtin.clear_ #[t] ty #[a.eval f]) B (fun d y o => ?_);unfold adx at h;split at h
   ·simp only [zak] at h;subst h;cases o
   ·simp only [zak] at h;subst h;cases o
   ·split at h
    ·simp only [zak] at h;subst h;cases o
    ·obtain ⟨_,_,h⟩:=ayQ h;obtain ⟨_,_,h⟩:=ayQ h;obtain ⟨_,_,h⟩:=ayQ h;split at h
     ·simp only [zak] at h;subst h;cases o
     ·cases h
   ·cases h
  ·cases h
 case copy =>
  split at h
  ·rename_i t r d x l;obtain ⟨f,g,C⟩:∃ f g,args=[f,g]:=by
    match args,l with
    | [f,g],_=>exact ⟨f,g,rfl⟩
   subst C;simp only [aAo,aAp,aAb,and_true] at l;obtain ⟨rfl,rfl⟩:=l;obtain ⟨el,i,h⟩:=ayQ h;have B:=aqA (ts:=r) (ty:=ty) (addr:=undef) F i h (d7 v f) (d7 v g);have q:aAq a.eval ⟨[f,g]⟩ = #[a.eval f,a.eval g]:=by simp
   rw [q];refine fG.of_does (s:=Builtin.copy_ (t::r).toArray ty #[a.eval f,a.eval g]) B (fun d y o => ?_);unfold p7 at h;obtain ⟨_,_,h⟩:=ayQ h;obtain ⟨_,_,h⟩:=ayQ h;split at h
   ·obtain ⟨_,_,h⟩:=ayQ h;split at h
    ·simp only [zak] at h;subst h;cases o
    ·cases h
   ·obtain ⟨_,_,h⟩:=ayQ h;split at h
    ·simp only [zak] at h;subst h;cases o
    ·cases h
  ·cases h
 case len =>
  split at h
  ·rename_i t x l;obtain ⟨f,C⟩:∃ f,args=[f]:=by
    match args,l with
    | [f],_=>exact ⟨f,rfl⟩
   subst C;simp only [aAo,aAp,aAb,and_true] at l;subst l;have:=fG.of_pur (a:=a) (s:=Builtin.len_ #[t] ty #[a.eval f]) F h fun N p=>aqD p (d7 v f)
   have q:aAq a.eval ⟨[f]⟩ = #[a.eval f]:=by simp
   rw [q];exact this
  ·cases h
 case max =>
  obtain ⟨vs,J,h⟩:=ayQ h;have L:=adC (P:=P) (w:=w) (I:=I) (ρ:=ρ) _ vs (fun j=>(args.map a.eval)[j]?) J (j6.2 fun j c K=>by
   rw [azl] at K;obtain ⟨x,H,rfl⟩:=ayR K;exact ⟨a.eval x,by simp [H],d7 v x⟩)
  have G:vs=args.map a.eval:=by
   apply aAf;intro j;rcases azU j args.length with E | E
   ·rw [←L.2 j (by simpa using E)]
   ·rw [ay3 (by rw [L.1];simpa using E),ay3 (by simpa using E)]
  have:=fG.of_pur (a:=a) (s:=Builtin.max_ ⟨ts⟩ ty vs.toArray) F h fun N p=>by
   obtain ⟨z,M,rfl⟩:=ayR p;exact ⟨z,sA P _ _ M w,by simp only [VR]⟩
  rw [G] at this;have e:(List.map a.eval args).toArray=aAq a.eval ⟨args⟩:=by simp
  rw [e] at this;exact this
 case min =>
  obtain ⟨vs,J,h⟩:=ayQ h;have L:=adC (P:=P) (w:=w) (I:=I) (ρ:=ρ) _ vs (fun j=>(args.map a.eval)[j]?) J (j6.2 fun j c K=>by
   rw [azl] at K;obtain ⟨x,H,rfl⟩:=ayR K;exact ⟨a.eval x,by simp [H],d7 v x⟩)
  have G:vs=args.map a.eval:=by
   apply aAf;intro j;rcases azU j args.length with E | E
   ·rw [←L.2 j (by simpa using E)]
   ·rw [ay3 (by rw [L.1];simpa using E),ay3 (by simpa using E)]
  have:=fG.of_pur (a:=a) (s:=Builtin.min_ ⟨ts⟩ ty vs.toArray) F h fun N p=>by
   obtain ⟨z,M,rfl⟩:=ayR p;exact ⟨z,sA P _ _ M w,by simp only [VR]⟩
  rw [G] at this;have e:(List.map a.eval args).toArray=aAq a.eval ⟨args⟩:=by simp
  rw [e] at this;exact this
theorem acv {w:World} {I:Nat→Prop} {ρ:cB} {m:aF} (A:SR P w I ρ m) {d once:Bool} {e:bB} {a:Act} (D:ER P w I ρ e a) {o:Oper} {K:bR→Prop} (h:cC P d once e m o.type K o.op) (i:∀ b,m.next≤b→ρ b=none)
 {next:Act→World→Prop} {Q:Exit→Act→World→Prop} (z:ajL P w I ρ m a o K next):o.wp P a w next Q:=by
 have plain:eO (dG P once e m o.op) K→o.wp P a w next Q:=by
  intro h;unfold eO at h;split at h
  ·rename_i out l;exact sG (aqG A D l (fun b s _=>i b s)) h i z
  ·exact h.elim
 obtain ⟨dst,op,type,pos,after,guard⟩:=o;cases op <;> try (exact plain h)
 case lookup t x k ok =>
  cases ok with
  | true=>exact plain h
  | false =>
   simp only [cC] at h;unfold eO at h;split at h
   ·rename_i out l;refine sG ?_ h i z;exact fG.of_pur A l fun av O=>aq4 A O (d7 D x) (d7 D k)
   ·exact h.elim
 case entry x =>
  simp only [cC] at h;unfold eO at h;split at h
  ·rename_i out l;refine sG ?_ h i z;exact fG.of_pur A l fun av O=>aqT A O (d7 D x)
  ·exact h.elim
 case mapUpdate t x k v =>
  simp only [cC] at h;unfold eO at h;split at h
  ·rename_i out l;refine sG ?_ h i z;obtain ⟨y,w',U,ρ',s,G,H,h4,h5⟩:=aq5 A l (d7 D x) (d7 D k) (d7 D v) undef;refine ⟨undef,w',U,ρ',.inr ⟨by simp [execOp,s],rfl⟩,G,H,h4,fun d y C => ?_⟩;have:out.wb=none:=by
    exact aq6 l
   rw [this] at C;cases C
  ·exact h.elim
 case makeMap t r =>
  cases r with
  | some r=>exact plain h
  | none =>
   simp only [cC] at h;obtain ⟨out,hK,M,hd⟩:=aqU (t:=t) A h.2 undef;exact sG (fG.of_does hd (fun d y C=>by rw [M] at C;cases C)) hK i z
 case range t x =>
  simp only [cC] at h;obtain ⟨out,hK,M,hd⟩:=aqV A h.2 (d7 D x) undef;exact sG (fG.of_does hd (fun d y C=>by rw [M] at C;cases C)) hK i z
 case next x ok =>
  cases ok with
  | true=>exact plain h
  | false =>
   simp only [cC] at h;obtain ⟨out,hK,M,hd⟩:=aqW (ty:=type) A h.2 (d7 D x) undef;exact sG (fG.of_does hd (fun d y C=>by rw [M] at C;cases C)) hK i z
 case buildSlice t len parts =>
  simp only [cC] at h;have bT:∀ out,gF P m t len (parts.toList.map fun p=>(p.1,opd e p.2))=some out→(∀ b,m.next≤b→ρ b=none)→fG P w I ρ m a ((execOp a.eval ⟨dst,.buildSlice t len parts,type,pos,after,guard⟩).run P w) out:=by
   intro out l i;have:=aq7 A l (fun b s _=>i b s) (adI (e:=e) (a:=a) parts) (adJ D parts) undef;rw [←adK] at this;refine fG.of_does this (fun d y C => ?_);unfold gF at l;obtain ⟨_,_,l⟩:=ayQ l;obtain ⟨_,_,l⟩:=ayQ l;obtain ⟨_,_,l⟩:=ayQ l;split at l
   ·obtain ⟨_,_,l⟩:=ayQ l;split at l
    ·cases l
    simp only [zak] at l;subst l;cases C
   ·cases l
  have bF:∀ out,xU P m t len (parts.toList.map fun p=>(p.1,opd e p.2))=some out→(∀ b,m.next≤b→ρ b=none)→fG P w I ρ m a ((execOp a.eval ⟨dst,.buildSlice t len parts,type,pos,after,guard⟩).run P w) out:=by
   intro out l i;have:=aq8 A l (fun b s _=>i b s) (adI (e:=e) (a:=a) parts) (adJ D parts) undef;rw [←adK] at this;refine fG.of_does this (fun d y C => ?_);unfold xU at l;obtain ⟨_,_,l⟩:=ayQ l;obtain ⟨_,_,l⟩:=ayQ l;obtain ⟨_,_,l⟩:=ayQ l;split at l
   ·obtain ⟨_,_,l⟩:=ayQ l;obtain ⟨_,_,l⟩:=ayQ l;simp only [zak] at l;subst l;cases C
   ·cases l
  unfold tZ at h;split at h
  ·unfold eO at h;split at h
   ·rename_i out l;exact sG (bT out l i) h i z
   ·exact h.elim
  ·unfold eO adT at h;split at h
   ·rename_i out l;split at l
    ·rename_i o hq;cases l;exact sG (bT _ hq i) h i z
    ·exact sG (bF out l i) h i z
   ·exact h.elim
  ·exact plain h
 case convert src dst x =>
  simp only [cC] at h;unfold eO at h;split at h
  ·rename_i out l;refine sG ?_ h i z;have:=aq9 (addr:=undef) A (ajE l) (fun b s _=>i b s) (d7 D x);exact fG.of_does this (fun d y C=>by rw [ara (ajE l)] at C;cases C)
  ·exact h.elim
 case slice t x lo hi mx =>
  simp only [cC] at h;refine plain ?_;unfold eO at h;split at h
  ·rename_i out l;have hq:=arc l;unfold act at hq;simp only [dG,hq];exact h
  ·exact h.elim
 case load t x =>
  simp only [cC] at h;refine plain ?_;unfold eO at h;split at h
  ·rename_i out l;obtain ⟨av,O,rfl⟩:=ayR l;simp only [dG,arb O];exact h
  ·exact h.elim
 case call c =>
  obtain ⟨callee,args,ts⟩:=c;cases callee with
  | invoke r n=>exact h.elim
  | builtin b =>
   simp only [cC] at h;unfold eO at h;split at h
   ·rename_i out l;refine sG ?_ h i z;simp only [execOp,resolve,pure_bind,invoke];exact ari A D l (fun b s _=>i b s) _
   ·exact h.elim
  | value f =>
   simp only [cC] at h;have Z:=d7 D f;unfold nP at h;split at h
   ·rename_i g E b0;have h:=arf h;rw [b0] at Z;simp only [VR] at Z;obtain ⟨L,hf,a9,b2⟩:=Z;obtain ⟨J,u⟩:=arh D args b2 a9;have closed:∀ (W:Nat→Prop) (T:aF) (q:List AV) (r:fF),SR P w W ρ T→cL w I ρ m w W ρ T→(args.map a.eval++L).size=q.length→bC P w W cZ q (fun j=>(args.map a.eval++L)[j]?)→aR P g q r→K ⟨shift T.next r.v,dT P T r.rows,none⟩ →
     Oper.wp P { dst:=dst,op := .call { callee := .value f,args:=args,argTypes:=ts },type:=type,pos:=pos,after:=after,guard:=guard } a w next Q:=by
     intro W T q r a5 X a7 S G h4;have F:=adV X i;refine agy hf G.1 ?_;refine (G.2 w W _ a5.lt a7 S).mono ?_;rintro en w' ⟨v,U,ρ',rfl,Y,q2,R⟩;have a0:∀ g,¬ Wr cZ aF.empty g:=by
      rintro g (⟨b,k,o,s,_⟩ | s)
      ·simp [aF.empty] at s
      ·exact q9 s
     have N:∀ g,U g→W g∨w.heap.size≤g:=fun g z=>by
      rcases R.back g z with h | h | h
      ·exact .inl h
      ·exact absurd h (a0 g)
      ·exact .inr h
     obtain ⟨V,i1,i2,i3⟩:=ajm a5 (fun _ h=>h) (fun b hb _=>F b hb) q2 R (.inl N);refine z _ v w' V _ h4 ?_ i2 (X.trans i3) (fun d y h=>by cases h) (adV i3 F);have hk:∀ b x,ρ' b=some x→b < r.rows.length:=fun b x h=>by
      have:=R.lo b rfl (by rw [h];simp);rw [zL] at this;simp [aF.empty] at this;exact this
     refine p9 (⟨fun g z=>(i1 g).2 ((N g z).imp id fun h=>⟨z,h⟩),fun _ _=>rfl,fun _ _ h=>h⟩:iI w' w' U V) (fun _ _ h=>h) _ _ (ago hk r.v v Y)
    have h:ajI P g (args.toList.map (opd e)++E) m K∨ajH P g (args.toList.map (opd e)++E) m K∨ajF P g (args.toList.map (opd e)++E) m K∨ajG P g (args.toList.map (opd e)++E) m K:=by
     rcases h with h | ⟨_,h⟩ | ⟨r,m',s,G⟩ | h | h
     rotate_left 3
     ·exact .inl h
     ·exact .inr (.inl h)
     all_goals refine .inr (.inr ?_)
     ·exact .inl h
     ·exact .inr h
     ·refine .inr ⟨s.1,fun w I ρ vs a1 a2 a3 a4=>(s.2 w I ρ vs a1 a2 a3 a4).mono ?_⟩;rintro en w' ⟨v,r',T,U,ρ',q0,⟨Y,q2⟩,R⟩;subst Y;subst q2;exact ⟨v,_,_,U,ρ',q0,G,R⟩
    rcases h with ⟨r,s,G⟩ | ⟨q,T,r,s,G,H⟩ | ⟨q,r,s,G,H,h4⟩ | h
    ·-- at once
     obtain ⟨v,a6,hv⟩:=s w I ρ _ A J u;unfold Oper.wp;have:(execOp a.eval { dst:=dst,op := .call { callee := .value f,args:=args,argTypes:=ts },type:=type,pos:=pos,after:=after,guard:=guard }).run P w = .ok (.value v) w:=by
      simp [execOp,resolve,hf,Deferred.ofValue,invoke,a6]
     rw [this,Oper.upon_value];exact z _ v w I ρ G hv A (cL.refl _ _ _ _) (fun d y h=>by cases h) i
    ·-- frozen
     obtain ⟨W,a1,b1,c1,d1,d2,d3⟩:=xO _ m T I q _ s A u;exact closed W T q r a1 b1 (by rw [J,d2]) d1 G H
    ·-- closed
     rcases H with H | H
     ·have B:=zJ _ _ H u;have e1:=adM 3 _ _ H s;subst e1;exact closed I m _ r A (cL.refl _ _ _ _) J B G h4
     ·have B:=aaG A 3 _ _ _ s u;simp only [fF.apart,aAn,aAr] at H;obtain ⟨H,h5⟩:=H;refine agy hf G.1 ?_;refine (G.2 w (qA w) _ (fun _ h=>h) (by rw [J,arg s]) B).mono ?_;rintro en w' ⟨v,U,ρ',rfl,Y,q2,R⟩;obtain ⟨V,i1,i2,i3⟩:=ajm A (fun g z=>A.lt g z) (fun b hb _=>i b hb) q2 R (.inr h5);refine z _ v w' V _ h4 ?_ i2 i3 (fun d y h=>by cases h) (adV i3 i);have hk:∀ b x,ρ' b=some x→b < r.rows.length:=fun b x h=>by
       have:=R.lo b rfl (by rw [h];simp);rw [zL] at this;simp [aF.empty] at this;exact this
      exact ago hk r.v v (ajl r.v v H Y)
    ·-- open
     refine agy hf h.1 ?_;refine (h.2 w I ρ _ A J u i).mono ?_;rintro en w' ⟨v,r,m',U,ρ',rfl,q0,Y,q2,R,q4⟩;exact z _ v w' U ρ' q0 Y q2 R (fun d y h=>by cases h) q4
   ·exact h.elim
end
structure lR (P:Program) (w0:World) (I0:Nat→Prop) (ρ0:cB) (m0:aF) (n:Nat) (D:List Deferred) (e:bB) (m:aF) (a:Act) (w:World) (I:Nat→Prop) (ρ:cB):Prop where
 er:ER P w I ρ e a
 sr:SR P w I ρ m
 free:∀ b,m.next≤b→ρ b=none
 step:cL w0 I0 ρ0 m0 w I ρ m
 size:a.tmps.size=n
 defers:a.defers=D
section
variable {P:Program} {w0:World} {I0:Nat→Prop} {ρ0:cB} {m0:aF} {n:Nat} {D:List Deferred}
theorem agz (a:Act) (d:Option Tmp) (v:Value):(a.put d v).tmps.size=a.tmps.size:=by cases d <;> simp [Act.put]
theorem agA (a:Act) (d:Option Tmp) (v:Value):(a.put d v).defers=a.defers:=by cases d <;> rfl
theorem lR.next {e:bB} {m:aF} {a:Act} {w:World} {I:Nat→Prop} {ρ:cB} (h:lR P w0 I0 ρ0 m0 n D e m a w I ρ) {o:Oper} (r:∀ d,o.dst=some d→d < n) {out:bR} {v:Value} {w':World} {c:Nat→Prop} {ρ':cB}
 (q:VR P w' c ρ' out.v v) (l:SR P w' c ρ' out.m) (g:cL w I ρ m w' c ρ' out.m) (j:∀ d y,out.wb=some (d,y)→VR P w' c ρ' y (a.tmps.getD d undef)) (p:∀ b,out.m.next≤b→ρ' b=none) :
 lR P w0 I0 ρ0 m0 n D ((t6 e out.wb).put o.dst out.v) out.m (a.put o.dst v) w' c ρ' where
 er:=by
  have s:ER P w' c ρ' (t6 e out.wb) a:=by
   have i:=af0 g h.sr h.er;cases k:out.wb with
   | none=>exact i
   | some x =>
    obtain ⟨d,y⟩:=x;intro t;simp only [t6,bB.set];split
    ·rename_i f;subst f;exact j _ y k
    ·exact i t
  exact af1 s (fun t f=>by rw [h.size];exact r t f) q
 sr:=l
 free:=p
 step:=h.step.trans g
 size:=by rw [agz];exact h.size
 defers:=by rw [agA];exact h.defers
theorem adW {a:Array Oper} (h:aaQ n a=true) {i:Nat} {o:Oper} (b:a[i]? = some o):∀ d,o.dst=some d→d < n:=by
 intro d c;unfold aaQ at h;obtain ⟨hi,rfl⟩:=azy.1 b;have:=Array.all_eq_true.1 h i hi;rw [c] at this;simpa using this
theorem agB {once:Nat→Bool} {b:Array Oper} (d:aaQ n b=true) {Q:bB→aF→Prop} {Q':Exit→Act→World→Prop} (j:∀ e m a w I ρ,Q e m→lR P w0 I0 ρ0 m0 n D e m a w I ρ→Q' .normal a w) :
 ∀ (l:List Oper) (i:Nat) (e:bB) (m:aF) (a:Act) (w:World) (I:Nat→Prop) (ρ:cB),b.toList.drop i=l→iL P once false b Q l e m→lR P w0 I0 ρ0 m0 n D e m a w I ρ→wpOps P b Q' (List.range' i l.length) a w
 | [],i,e,m,a,w,I,ρ,hl,h,hR=>by
  simp only [iL] at h;simp only [List.length_nil,List.range'_zero,wpOps];exact j e m a w I ρ h hR
 | o::rest,i,e,m,a,w,I,ρ,hl,h,hR=>by
  have g:b[i]? = some o:=by
   have:(b.toList.drop i)[0]? = some o:=by rw [hl];rfl
   rw [aAs] at this;simpa using this
  have c:b.toList.drop (i+1)=rest:=by
   rw [←List.drop_drop,hl];rfl
  simp only [iL] at h;rw [List.length_cons,List.range'_succ];simp only [wpOps,g];rw [ajK hR.er o];split at h
  ·rename_i f;rw [if_pos f];refine .inl (acv hR.sr hR.er h hR.free ?_);intro out v w' y ρ' r x s q k u;exact agB d j rest (i+1) _ _ _ _ _ _ c r.2 (hR.next (adW d g) x s q k u)
  ·rename_i f;rw [if_neg f];refine agB d j rest (i+1) _ _ _ _ I ρ c h ⟨af1 hR.er (fun t p=>by rw [hR.size];exact adW d g t p) (by simp only [eN,undef,VR]),hR.sr,hR.free,hR.step,by rw [agz];exact hR.size,by rw [agA];exact hR.defers⟩
def lS (a:Array Oper) (i:Nat):Option Nat:=(a[i]?).bind (·.dst)
def agC (a:Array Oper):Bool :=
 (aAm a.size).all fun i=>match a[i]? with
  | none=>true
  | some o=>(t7 o).all (fun b=>decide (b < i)) && (lD a).getD i 0 == just (lD a) (t7 o) &&
   (aAm a.size).all fun j=>match lS a j with
    | none=>true
    | some t=>(j == i || o.dst != some t) && (!(o.looksAt a).contains t || j == i || (match decide (j < i) with | true=>bef (lD a) j i | false=>bef (lD a) i j))
end
section
variable {P:Program}
theorem vY {r:Option bR} {K:bR→Prop} (h:eO r K):∃ out,r=some out∧K out:=by
 unfold eO at h;split at h
 ·rename_i o;exact ⟨o,rfl,h⟩
 ·exact h.elim
theorem arj {c:Bool} {e:bB} {m:aF} {ty:TypeId} {K:bR→Prop} {op:Op} (h:cC P true c e m ty K op):∃ out,K out∧cC P true c e m ty (fun x=>x=out) op:=by
 have o:eO (dG P c e m op) K→∃ out,K out∧eO (dG P c e m op) (fun x=>x=out):=by
  intro h;obtain ⟨out,d,a⟩:=vY h;exact ⟨out,a,by rw [d];rfl⟩
 cases op <;> try (exact o h)
 case lookup t x k ok =>
  cases ok with
  | true=>exact o h
  | false =>
   simp only [cC] at h ⊢;obtain ⟨out,d,a⟩:=vY h;exact ⟨out,a,by rw [d];rfl⟩
 case entry x =>
  simp only [cC] at h ⊢;obtain ⟨out,d,a⟩:=vY h;exact ⟨out,a,by rw [d];rfl⟩
 case mapUpdate t x k v =>
  simp only [cC] at h ⊢;obtain ⟨out,d,a⟩:=vY h;exact ⟨out,a,by rw [d];rfl⟩
 case makeMap t r =>
  cases r with
  | some r=>exact o h
  | none=>cases h.1
 case range t x=>cases h.1
 case next x ok =>
  cases ok with
  | true=>exact o h
  | false=>cases h.1
 case buildSlice t len parts =>
  simp only [cC] at h ⊢;obtain ⟨out,d,a⟩:=vY h;exact ⟨out,a,by rw [d];rfl⟩
 case slice t x lo hi mx =>
  simp only [cC] at h ⊢;obtain ⟨out,d,a⟩:=vY h;exact ⟨out,a,by rw [d];rfl⟩
 case load t x =>
  simp only [cC] at h ⊢;obtain ⟨out,d,a⟩:=vY h;exact ⟨out,a,by rw [d];rfl⟩
 case convert src dst x =>
  simp only [cC] at h ⊢;obtain ⟨out,d,a⟩:=vY h;exact ⟨out,a,by rw [d];rfl⟩
 case call c =>
  obtain ⟨callee,args,ts⟩:=c;cases callee with
  | invoke r n=>exact h.elim
  | builtin b =>
   simp only [cC] at h ⊢;obtain ⟨out,d,a⟩:=vY h;exact ⟨out,a,by rw [d];rfl⟩
  | value f =>
   simp only [cC] at h ⊢;unfold nP at h;split at h
   ·rename_i g q j;cases c with
    | true =>
     obtain ⟨r,d,a,l,p,s,u⟩:=h;refine ⟨_,u, ?_⟩;simp only [j,nP];exact ⟨r,d,a,l,p,s,rfl⟩
    | false =>
    simp only [Bool.false_and] at h;rcases h with ⟨i,r,d,a,l,p⟩ | ⟨h,_⟩ | ⟨r,m',d,a⟩ | ⟨r,d,a⟩ | ⟨i,w,r,d,a,l⟩
    ·refine ⟨_,p, ?_⟩;simp only [j,nP];exact .inl ⟨i,r,d,a,l,rfl⟩
    ·cases h
    ·refine ⟨_,a, ?_⟩;simp only [j,nP];exact .inr (.inr (.inl ⟨r,m',d,rfl⟩))
    ·refine ⟨_,a, ?_⟩;simp only [j,nP];exact .inr (.inr (.inr (.inl ⟨r,d,rfl⟩)))
    ·refine ⟨_,l, ?_⟩;simp only [j,nP];exact .inr (.inr (.inr (.inr ⟨i,w,r,d,a,rfl⟩)))
   ·exact h.elim
theorem ark {e e':bB} {x:Operand} (h:∀ t,x = .tmp t→e' t=e t):opd e' x=opd e x:=by
 cases x with
 | tmp t=>exact h t rfl
 | const v=>rfl
 | global g=>rfl
 | func f=>rfl
theorem agD {e e':bB} {l:List Operand} (h:∀ x∈l,opd e' x=opd e x):l.map (opd e')=l.map (opd e):=aAt h
theorem ajM {e e':bB} {l:List (Nat×Operand)} (h:∀ x∈l.map (·.2),opd e' x=opd e x):l.map (fun p=>(p.1,opd e' p.2))=l.map (fun p=>(p.1,opd e p.2)) :=
 aAt fun p a=>by rw [h p.2 (List.mem_map_of_mem a)]
theorem agE {e e':bB} {o:Option Operand} (h:∀ x,o=some x→opd e' x=opd e x):o.map (opd e')=o.map (opd e):=by
 cases o with
 | none=>rfl
 | some x=>simp [h x rfl]
theorem agF {d c:Bool} {e e':bB} {m:aF} {ty:TypeId} {K:bR→Prop} {op:Op} (h:∀ x∈op.operands.toList,opd e' x=opd e x) (hs:cC P d c e m ty K op):cC P d c e' m ty K op:=by
 cases op <;> simp only [Op.operands,Call.operands] at h <;> simp only [cC,dG] at hs ⊢
 case lookup t x k ok =>
  cases ok <;> simp only [cC] at hs ⊢
  ·rw [h x (by simp),h k (by simp)];exact hs
  ·exact hs
 case makeMap t r =>
  cases r <;> simp only [cC] at hs ⊢ <;> exact hs
 case next x ok =>
  cases ok <;> simp only [cC] at hs ⊢
  ·rw [h x (by simp)];exact hs
  ·exact hs
 case call cl =>
  obtain ⟨callee,args,ts⟩:=cl;cases callee with
  | invoke r n=>exact hs.elim
  | builtin b =>
   simp only [cC] at hs ⊢;rw [agD (fun x a=>h x (by simpa using a))];exact hs
  | value f =>
   simp only [cC] at hs ⊢;rw [agD (fun x a=>h x (by simp at a ⊢;exact .inr a)),h f (by simp)];exact hs
 case build t parts=>rw [ajM (fun x a=>h x (by simpa using a))];exact hs
 case buildSlice t n parts=>rw [ajM (fun x a=>h x (by simpa using a))];exact hs
 case slice t x l hi mx =>
  rw [h x (by simp),agE (fun y g=>h y (by subst g;simp)),agE (o:=hi) (fun y g=>h y (by subst g;simp)),agE (o:=mx) (fun y g=>h y (by subst g;simp))];exact hs
 case makeFunc fn first caps =>
  cases fn <;> simp only [dG] at hs ⊢
  case func f =>
   rw [agD (fun x a=>h x (by simp at a ⊢;exact .inr a))];exact hs
  all_goals exact hs
 all_goals first
  | exact hs
  | (simp at h;simp only [h];exact hs)
theorem ajN {c:Bool} {e:bB} {m m':aF} {ty:TypeId} {op:Op} {out:bR} (g:aaO c op=true) (h:cC P true c e m ty (fun x=>x=out) op):out.m=m∧cC P true c e m' ty (fun x=>x=⟨out.v,m',none⟩) op:=by
 have d:∀ x:Option AV,eO (eX x m) (fun x=>x=out)→out.m=m∧eO (eX x m') (fun y=>y=⟨out.v,m',none⟩):=by
  intro x h;cases x with
  | none=>exact h.elim
  | some v=>have h:(⟨v,m,none⟩:bR)=out:=h;subst h;exact ⟨rfl,rfl⟩
 have J:∀ (i:Option Nat) (f:Nat→Option AV),eO (i.bind fun k=>eX (f k) m) (fun x=>x=out)→out.m=m∧eO (i.bind fun k=>eX (f k) m') (fun y=>y=⟨out.v,m',none⟩):=by
  intro i f h;cases i with
  | none=>exact h.elim
  | some k=>exact d _ h
 cases op <;> simp only [aaO,azx] at g <;> simp only [cC,dG] at h ⊢
 case call cl =>
  obtain ⟨callee,args,ts⟩:=cl;cases callee with
  | invoke r n=>cases g
  | value f =>
   subst g;simp only [cC] at h ⊢;unfold nP at h ⊢;split at h
   ·obtain ⟨r,o,w,u,q,E,F⟩:=h;subst F;exact ⟨rfl,r,o,w,u,q,E,rfl⟩
   ·exact h.elim
  | builtin b =>
   simp only [cC] at h ⊢;cases b <;> simp only [azx] at g <;> simp only [r6] at h ⊢
   case len =>
    split at h
    ·exact d _ h
    ·exact h.elim
   case max =>
    cases B:pY (args.toList.map (opd e)) with
    | none=>rw [B] at h;exact h.elim
    | some vs=>rw [B] at h ;exact d _ h
   case min =>
    cases B:pY (args.toList.map (opd e)) with
    | none=>rw [B] at h;exact h.elim
    | some vs=>rw [B] at h ;exact d _ h
 case slice t x lo hi mx =>
  subst g;unfold sliceX at h ⊢;simp only [aAu] at h ⊢;split at h
  ·exact h.elim
  ·rename_i D;have C:∀ m,slOk P m t (opd e x)=true:=fun m=>by
    generalize opd e x=y at D;cases y with
    | sl _ _ _ _ _=>exact absurd rfl (D _ _ _ _ _)
    | _=>rfl
   unfold act at h ⊢;rw [C m,if_pos rfl] at h;rw [C m',if_pos rfl];have h:=h;have M:∀ (i j l:Option Nat) (f:Nat→Nat→Nat→Option AV),True:=fun _ _ _ _=>trivial
   generalize dB (lo.map (opd e))=a at *
   generalize dB (hi.map (opd e))=b at *
   generalize dB (mx.map (opd e))=c at *
   cases a with
   | none=>exact h.elim
   | some a =>
    cases b with
    | none=>exact h.elim
    | some b =>
     cases c with
     | none=>exact h.elim
     | some c=>exact d _ h
 case load t x =>
  subst g;unfold tY at h ⊢;simp only [aAu] at h ⊢;split at h
  ·exact d _ h
  ·exact h.elim
 case convert src dst x =>
  subst g;unfold mM at h ⊢;simp only [aAu] at h ⊢;split at h
  ·exact h.elim
  ·rename_i D;unfold mL mJ at h ⊢;cases A:bZ P dst with
   | some el =>
    simp only [A] at h ⊢;split at h
    ·rename_i el' s o w;cases o;split at h
     ·rename_i L;rw [if_pos L];exact d (some _) h
     ·exact h.elim
    ·rename_i u;split at h
     ·rename_i s q;exact absurd q (u _ _ rfl rfl)
     ·exact h.elim
   | none =>
    simp only [A] at h ⊢;split at h
    ·rename_i el o w;split at h
     ·rename_i I;have G:eE .flat m' (opd e x)=eE .flat m (opd e x):=by
       generalize opd e x=y at D;cases y with
       | sl _ _ _ _ _=>exact absurd rfl (D _ _ _ _ _)
       | val v=>cases v with
        | slice a l c=>cases a <;> cases l <;> cases c <;> rfl
        | _=>rfl
       | _=>rfl
      rw [if_pos I,G];cases hs:eE .flat m (opd e x) with
      | none=>rw [hs] at h;exact h.elim
      | some r =>
       rw [hs] at h;simp only [aAh] at h ⊢;split at h
       ·rename_i K;rw [if_pos K];cases H:bytesOf (r.1.take r.2.1) with
        | none=>rw [H] at h;exact h.elim
        | some bs =>
         rw [H] at h;exact d (some _) h
       ·exact h.elim
     ·exact h.elim
    ·rename_i o;split at h
     ·exact d _ h
     ·exact h.elim
 case buildSlice t len parts =>
  subst g;unfold tZ gF at h ⊢;simp only at h ⊢;cases o:bZ P t with
  | none=>rw [o] at h;exact h.elim
  | some el =>
   rw [o] at h;simp only [aAh] at h ⊢;cases w:cE P el with
   | none=>rw [w] at h;exact h.elim
   | some n =>
    rw [w] at h;simp only [aAh] at h ⊢;cases u:jF P el len with
    | none=>rw [u] at h;exact h.elim
    | some z =>
     rw [u] at h;simp only [aAh] at h ⊢;split at h
     ·rename_i E;rw [if_pos E];cases q:iR (fun i=>some (i*n,n)) z (parts.toList.map fun p=>(p.1,opd e p.2)) with
      | none=>rw [q] at h;exact h.elim
      | some cs =>
       rw [q] at h;simp only [aAh] at h ⊢;split at h
       ·exact h.elim
       ·rename_i F;rw [if_neg F];exact d (some _) h
     ·exact h.elim
 all_goals first
  | exact d (some _) h
  | exact d _ h
  | exact J _ _ h
theorem arl {a bs:List Nat} {j:Nat} (h:(just a bs).testBit j=true):∃ b∈bs,b=j∨(a.getD b 0).testBit j=true:=by
 have c:∀ (bs:List Nat) (x:Nat),(bs.foldl (fun x b=>x ||| (2 ^ b ||| a.getD b 0)) x).testBit j=true→x.testBit j=true∨∃ b∈bs,b=j∨(a.getD b 0).testBit j=true:=by
  intro bs
  induction bs with
  | nil=>intro x h;exact .inl h
  | cons b bs d =>
   intro x h;rcases d _ h with h | ⟨e,g,f⟩
   ·rw [Nat.testBit_or,Nat.testBit_or,Nat.testBit_two_pow,aAv,aAv,decide_eq_true_eq] at h;rcases h with h | h
    ·exact .inl h
    ·exact .inr ⟨b,by simp,h⟩
   ·exact .inr ⟨e,by simp [g],f⟩
 rcases c bs 0 h with h | h
 ·simp at h
 ·exact h
structure acw (ops:Array Oper):Prop where
 lt:∀ i o,ops[i]? = some o→∀ b∈t7 o,b < i
 bit:∀ i o,ops[i]? = some o→∀ j,bef (lD ops) j i=true→∃ b∈t7 o,b=j∨bef (lD ops) j b=true
 dst:∀ i j t,lS ops i=some t→lS ops j=some t→i=j
 look:∀ i j o t,ops[i]? = some o→t∈o.looksAt ops→lS ops j=some t→j≠i→(j < i→bef (lD ops) j i=true)∧(i < j→bef (lD ops) i j=true)
theorem adX {a:Array Oper} {j t:Nat} (h:lS a j=some t):j < a.size:=by
 unfold lS at h;cases b:a[j]? with
 | none=>rw [b] at h;cases h
 | some o=>exact (azy.1 b).1
theorem arm {a:Array Oper} (h:agC a=true):acw a:=by
 have c:∀ i o,a[i]? = some o→((t7 o).all (fun b=>decide (b < i))=true∧(lD a).getD i 0=just (lD a) (t7 o)) ∧
  ∀ j t,lS a j=some t→(j=i∨o.dst≠some t)∧(t ∉ o.looksAt a∨j=i∨(match decide (j < i) with | true=>bef (lD a) j i | false=>bef (lD a) i j)=true):=by
  intro i o d;have hi:=(azy.1 d).1;have:=aAr.1 h i (aAw.2 hi);rw [d] at this;simp only [aAn,beq_iff_eq] at this;refine ⟨this.1,fun j t l => ?_⟩;have m:=aAr.1 this.2 j (aAw.2 (adX l));rw [l] at m;simp only [aAn,aAv,beq_iff_eq,bne_iff_ne,Bool.not_eq_true',or_assoc] at m;refine ⟨m.1, ?_⟩;rcases m.2 with k | k | k
  ·exact .inl (by intro q;rw [List.contains_iff_mem.2 q] at k;cases k)
  ·exact .inr (.inl k)
  ·exact .inr (.inr k)
 refine ⟨fun i o d b p => ?_,fun i o d j g => ?_,fun i j t hi g => ?_,fun i j o t d l g n => ?_⟩
 ·have:=aAr.1 (c i o d).1.1 b p;simpa using this
 ·unfold bef at g;rw [(c i o d).1.2] at g;exact arl g
 ·have f:=adX hi;unfold lS at hi;cases d:a[i]? with
  | none=>rw [d] at hi;cases hi
  | some o =>
   rw [d] at hi;rcases ((c i o d).2 j t g).1 with e | e
   ·exact e.symm
   ·exact absurd hi e
 ·rcases ((c i o d).2 j t g).2 with e | e | e
  ·exact absurd l e
  ·exact absurd e n
  ·constructor
   ·intro f;simpa [f] using e
   ·intro f;simpa [show ¬ j < i by omega] using e
theorem ajO {a:Array Oper} (H:acw a):∀ (i:Nat),i < a.size→∀ j,bef (lD a) j i=true→j < i:=by
 intro i
 induction i using Nat.strongRecOn with
 | _ i e =>
  intro hi j d;obtain ⟨b,f,h⟩:=H.bit i a[i] (by simp [hi]) j d;have c:=H.lt i a[i] (by simp [hi]) b f;rcases h with rfl | h
  ·exact c
  ·have:=e b c (by omega) j h;omega
structure acx (P:Program) (once:Nat→Bool) (ops:Array Oper) (es:Nat→bB) (ms:Nat→aF) (vs:Nat→AV) (k:Nat) (o:Oper):Prop where
 env:es (k+1)=(es k).put o.dst (vs k)
 fixed:adU once ops k=true∨ms (k+1)=ms k∨(vX once ops k=true∧∃ x,ms (k+1)=(ms k).push x)
 step:(q8 ops (es k) o=true∧cC P true (once (o.dst.getD 0)) (es k) (ms k) o.type (fun x=>x=⟨vs k,ms (k+1),none⟩) o.op)∨(q8 ops (es k) o=false∧vs k=eN∧ms (k+1)=ms k)
theorem ajP {once:Nat→Bool} {a:Array Oper} {Q:bB→aF→Prop}:∀ (l:List Oper) (i:Nat) (e:bB) (m:aF),a.toList.drop i=l→i+l.length=a.size→iL P once true a Q l e m →
 ∃ (d:Nat→bB) (c:Nat→aF) (vs:Nat→AV),d i=e∧c i=m∧Q (d a.size) (c a.size)∧∀ k o,i≤k→a[k]? = some o→acx P once a d c vs k o
 | [],i,e,m,hl,hi,h=>by
  refine ⟨fun _=>e,fun _=>m,fun _=>eN,rfl,rfl,h,fun k o F t => ?_⟩;have:=(azy.1 t).1;simp at hi;omega
 | o::rest,i,e,m,hl,hi,h=>by
  have t:a[i]? = some o:=by
   have:(a.toList.drop i)[0]? = some o:=by rw [hl];rfl
   rw [aAs] at this;simpa using this
  have s:a.toList.drop (i+1)=rest:=by
   rw [←List.drop_drop,hl];rfl
  have q:i+1+rest.length=a.size:=by simp only [List.length_cons] at hi;omega
  have j:∀ (v:AV) (m':aF),iL P once true a Q rest (e.put o.dst v) m'→(adU once a i=true∨m'=m∨(vX once a i=true∧∃ x,m'=m.push x)) →
   ((q8 a e o=true∧cC P true (once (o.dst.getD 0)) e m o.type (fun x=>x=⟨v,m',none⟩) o.op)∨(q8 a e o=false∧v=eN∧m'=m)) →
   ∃ (d:Nat→bB) (c:Nat→aF) (vs:Nat→AV),d i=e∧c i=m∧Q (d a.size) (c a.size)∧∀ k o,i≤k→a[k]? = some o→acx P once a d c vs k o:=by
   intro v m' y z r;obtain ⟨d,c,vs,E,A,C,D⟩:=ajP rest (i+1) _ _ s q y;refine ⟨fun k=>if k=i then e else d k,fun k=>if k=i then m else c k,fun k=>if k=i then v else vs k,by simp,by simp, ?_,fun k B F g => ?_⟩
   ·simp only [if_neg (show ¬ a.size=i by omega)];exact C
   ·by_cases b:k=i
    ·subst b;have w:B=o:=by rw [t] at g;exact (Option.some.inj g).symm
     subst w;refine ⟨?_, ?_, ?_⟩
     ·simp only [if_neg (show ¬ k+1=k by omega),if_true];exact E
     ·simp only [if_neg (show ¬ k+1=k by omega),if_true,A];exact z
     ·simp only [if_neg (show ¬ k+1=k by omega),if_true,A];exact r
    ·obtain ⟨I,H,G⟩:=D k B (by omega) g;refine ⟨?_, ?_, ?_⟩
     ·simp only [if_neg (show ¬ k+1=i by omega),if_neg b];exact I
     ·simp only [if_neg (show ¬ k+1=i by omega),if_neg b];exact H
     ·simp only [if_neg (show ¬ k+1=i by omega),if_neg b];exact G
  simp only [iL] at h;split at h
  ·rename_i p;obtain ⟨out,⟨y,z⟩,r⟩:=arj h;obtain ⟨n,f⟩:=y trivial;obtain ⟨v,m',wb⟩:=out;simp only at n f;subst n;have u:a.size - (rest.length+1)=i:=by omega
   rw [u] at f;exact j v m' z f (.inl ⟨p,r⟩)
  ·rename_i p;exact j eN m h (.inr (.inl rfl)) (.inr ⟨by simpa using p,rfl,rfl⟩)
section
variable {once:Nat→Bool} {ops:Array Oper} {es:Nat→bB} {ms:Nat→aF} {vs:Nat→AV}
theorem adY {k:Nat} {o:Oper} (a:ops[k]? = some o):lS ops k=o.dst:=by unfold lS;rw [a];rfl
theorem agG (H:acw ops) (T:∀ k o,ops[k]? = some o→acx P once ops es ms vs k o):∀ (k:Nat),k≤ops.size →
 (∀ j t,j < k→lS ops j=some t→es k t=vs j)∧(∀ t,(∀ j,j < k→lS ops j≠some t)→es k t=es 0 t)
 | 0,_=>⟨fun j t h=>by omega,fun _ _=>rfl⟩
 | k+1,hk=>by
  obtain ⟨m,i⟩:=agG H T k (by omega);have c:ops[k]? = some ops[k]:=by simp
  have g:=(T k _ c).env;have l:=adY c;have val:∀ t,es (k+1) t=if lS ops k=some t then vs k else es k t:=by
   intro t;rw [g,l];cases ops[k].dst with
   | none=>simp [bB.put]
   | some d =>
    simp only [bB.put,bB.set,ayX];by_cases h:t=d
    ·subst h;simp
    ·rw [if_neg h,if_neg (fun e=>h e.symm)]
  refine ⟨fun j t f a => ?_,fun t a => ?_⟩
  ·rw [val];by_cases b:j=k
   ·subst b;rw [if_pos a]
   ·rw [if_neg (fun h=>b (H.dst j k t a h))];exact m j t (by omega) a
  ·rw [val,if_neg (a k (by omega))];exact i t (fun j f=>a j (by omega))
theorem vZ {i:Nat}:∀ (j:Nat),i≤j→(∀ c,i≤c→c < j→ms (c+1)=ms c)→ms j=ms i
 | 0,h,_=>by rw [show i=0 by omega]
 | j+1,h,hc=>by
  by_cases a:i=j+1
  ·rw [a]
  ·rw [hc j (by omega) (by omega)];exact vZ j (by omega) (fun c b d=>hc c b (by omega))
structure oM (P:Program) (w0:World) (I0:Nat→Prop) (ρ0:cB) (m0:aF) (n:Nat) (D:List Deferred) (ops:Array Oper) (es:Nat→bB) (ms:Nat→aF) (vs:Nat→AV) (listed:Array Bool) (a:Act) (w:World) (e:bB) (j:Nat) (I:Nat→Prop) (ρ:cB):Prop where
 size:listed.size=ops.size
 rel:lR P w0 I0 ρ0 m0 n D e (ms j) a w I ρ
 le:j≤ops.size
 mem:∀ c,c < ops.size→ms (c+1)≠ms c→(listed.getD c false=true↔c < j)
 new:∀ k t,listed.getD k false=true→lS ops k=some t→e t=vs k
 old:∀ t,(∀ k,listed.getD k false=true→lS ops k≠some t)→e t=es 0 t
 closed:∀ i k,listed.getD i false=true→bef (lD ops) k i=true→listed.getD k false=true
def t8 (a:Array Bool):Nat→Nat
 | 0=>0
 | n+1=>t8 a n+if a.getD n false=true then 0 else 1
theorem ajQ {a:Array Bool} {i:Nat} (hi:i < a.size) (f:a.getD i false=false):∀ n,t8 (a.setIfInBounds i true) n+(if i < n then 1 else 0)=t8 a n
 | 0=>by simp [t8]
 | n+1=>by
  have c:=ajQ hi f n;simp only [t8];by_cases h:n=i
  ·subst h;have j:(a.setIfInBounds n true).getD n false=true:=by simp [hi]
   rw [j,f];simp at c ⊢;omega
  ·rw [getD_set_ne false (fun e=>h e.symm)];by_cases g:i < n
   ·have b:(if i < n then 1 else 0)=1:=if_pos g;have d:(if i < n+1 then 1 else 0)=1:=if_pos (by omega);rw [b] at c;rw [d];omega
   ·have b:(if i < n then 1 else 0)=0:=if_neg g;have d:(if i < n+1 then 1 else 0)=0:=if_neg (by omega);rw [b] at c;rw [d];omega
theorem ajR {a:Array Bool}:∀ n,t8 a n=0→∀ k,k < n→a.getD k false=true
 | 0,_,k,hk=>by omega
 | n+1,h,k,hk=>by
  simp only [t8] at h;by_cases c:a.getD n false=true
  ·by_cases b:k=n
   ·subst b;exact c
   ·exact ajR n (by omega) k (by omega)
  ·rw [if_neg c] at h;omega
theorem ajS:∀ n s,t8 (azH s false) n=n
 | 0,s=>rfl
 | n+1,s=>by
  simp only [t8,ajS n s];have:¬ (azH s false).getD n false=true:=by
   rw [ayW,aAx];split <;> simp
  rw [if_neg this]
theorem agH {a:Array Bool} {i:Nat} (hi:i < a.size):a.getD i true=a.getD i false:=by
 simp [hi]
theorem arn (H:acw ops) {a:Array Bool} (hs:a.size=ops.size) (i:Region.ready .any ops a=[]):∀ (k:Nat),k < ops.size→a.getD k false=true:=by
 intro k
 induction k using Nat.strongRecOn with
 | _ k g =>
  intro f;cases j:a.getD k false with
  | true=>rfl
  | false =>
   have:k∈Region.ready .any ops a:=by
    rw [mem_ready];refine ⟨by rw [agH (by omega)];exact j,ops[k],by simp [f],fun c e h => ?_⟩;have d:c.on∈t7 ops[k]:=by
     unfold t7;exact List.mem_map_of_mem (List.mem_filter.2 ⟨by simpa using e,h⟩)
    have b:=H.lt k ops[k] (by simp [f]) c.on d;exact g c.on b (by omega)
   rw [i] at this;cases this
variable {w0:World} {I0:Nat→Prop} {ρ0:cB} {m0:aF} {n:Nat} {D:List Deferred}
theorem aro {a:Array Oper} {op:Op} (h:acu a op=true):∃ t y,op = .load t (.tmp y)∧(a.all fun o=>o.dst != some y)=true:=by
 unfold acu at h;split at h
 ·exact ⟨_,_,rfl,h⟩
 ·cases h
theorem ajT {P:Program} {c:Bool} {e:bB} {m:aF} {ty:TypeId} {t:TypeId} {a:Operand} {out:bR} (h:cC P true c e m ty (fun x=>x=out) (.load t a)):out.m=m∧tY P true c m t (opd e a)=some out.v∧out.wb=none:=by
 simp only [cC] at h;cases b:tY P true c m t (opd e a) with
 | none=>rw [b] at h;exact h.elim
 | some v =>
  rw [b] at h;have h:(⟨v,m,none⟩:bR)=out:=h;subst h;exact ⟨rfl,rfl,rfl⟩
theorem arp {P:Program} {c:Bool} {e:bB} {m m':aF} {v:AV} {ty:TypeId} {op:Op} (a:agx op=true) (h:cC P true c e m ty (fun x=>x=⟨v,m',none⟩) op):m'=m:=by
 unfold agx at a;split at a
 ·exact (ajT h).1
 ·cases a
theorem arq {P:Program} {c:Bool} {e:bB} {m m' g:aF} {v:AV} {ty:TypeId} {t:TypeId} {y:Nat} (h:cC P true c e m ty (fun x=>x=⟨v,g,none⟩) (.load t (.tmp y))) (f:∀ b a,e y = .ptr b a→m'.at_ b=m.at_ b):cC P true c e m' ty (fun x=>x=⟨v,m',none⟩) (.load t (.tmp y)):=by
 have d:=(ajT h).2.1;simp only at d;have j:tY P true c m' t (opd e (.tmp y))=some v:=by
  rw [←d];simp only [opd];unfold tY;split
  ·rfl
  ·unfold lO;split
   ·rename_i b a i;rw [f b a i]
   ·rfl
   ·rfl
 simp only [cC,j];rfl
theorem ars (H:acw ops) (hreg:aaQ n ops=true) (T:∀ k o,ops[k]? = some o→acx P once ops es ms vs k o) (hout:∀ t b off,es 0 t = .ptr b off→b < (ms 0).next) {Q':Exit→Act→World→Prop}
 (hQ:∀ a w I ρ,lR P w0 I0 ρ0 m0 n D (es ops.size) (ms ops.size) a w I ρ→Q' .normal a w) :
 ∀ (fuel:Nat) (listed:Array Bool) (a:Act) (w:World) (e:bB) (j:Nat) (I:Nat→Prop) (ρ:cB),t8 listed ops.size≤fuel→oM P w0 I0 ρ0 m0 n D ops es ms vs listed a w e j I ρ→wpAny P .any ops Q' fuel listed a w:=by
 have done:∀ (listed:Array Bool) (a:Act) (w:World) (e:bB) (j:Nat) (I:Nat→Prop) (ρ:cB),(∀ k,k < ops.size→listed.getD k false=true)→oM P w0 I0 ρ0 m0 n D ops es ms vs listed a w e j I ρ→Q' .normal a w:=by
  intro listed a w e j I ρ hall V
  have he:e=es ops.size:=by
   funext t
   obtain ⟨h1,h2⟩:=agG H T ops.size (ay7 _)
   by_cases hex:∃ k,lS ops k=some t
   ·obtain ⟨k,hk⟩:=hex
    have hlt:=adX hk
    rw [V.new k t (hall k hlt) hk,h1 k t hlt hk]
   ·have hex:∀ k,lS ops k≠some t:=fun k hk=>hex ⟨k,hk⟩
    rw [V.old t (fun k _=>hex k),h2 t (fun k _=>hex k)]
  have hm:ms ops.size=ms j:=vZ ops.size V.le (fun c h1 h2=>aAy fun hne=>by
   have:=(V.mem c h2 hne).1 (hall c h2)
   omega)
  have:=V.rel
  rw [he,←hm] at this
  exact hQ a w I ρ this
 intro fuel
 induction fuel with
 | zero =>
  intro listed a w e j I ρ hc V
  have hall:=ajR ops.size (by omega:t8 listed ops.size=0)
  refine ⟨?_,done listed a w e j I ρ hall V⟩
  cases hr:Region.ready .any ops listed with
  | nil=>rfl
  | cons i l =>
   have hi:i∈Region.ready .any ops listed:=by rw [hr];simp
   obtain ⟨h0,o,ho,_⟩:=mem_ready.1 hi
   have hlt:=(azy.1 ho).1
   have h1:=hall i hlt
   rw [agH (by rw [V.size];exact hlt)] at h0
   rw [h0] at h1
   cases h1
 | succ fuel ih =>
  intro listed a w e j I ρ hc V
  refine ⟨fun hr=>done listed a w e j I ρ (arn H V.size hr) V,fun i hi => ?_⟩
  obtain ⟨h0,o,ho,hall⟩:=mem_ready.1 hi
  have hlt:=(azy.1 ho).1
  have hls:i < listed.size:=by rw [V.size];exact hlt
  rw [agH hls] at h0
  have hbd:∀ b∈t7 o,listed.getD b false=true:=by
   intro b hb
   unfold t7 at hb
   obtain ⟨ed,hed,rfl⟩:=List.mem_map.1 hb
   obtain ⟨h1,h2⟩:=List.mem_filter.1 hed
   exact hall ed (by simpa using h1) h2
  have hbef:∀ k,bef (lD ops) k i=true→listed.getD k false=true:=by
   intro k hk
   obtain ⟨b,hb,h⟩:=H.bit i o ho k hk
   rcases h with rfl | h
   ·exact hbd b hb
   ·exact V.closed b k (hbd b hb) h
  have hnot:∀ k,bef (lD ops) i k=true→listed.getD k false=false:=by
   intro k hk
   cases hl:listed.getD k false with
   | false=>rfl
   | true =>
    have:=V.closed k i hl hk
    rw [h0] at this
    cases this
  obtain ⟨hes1,hes2⟩:=agG H T i (by omega)
  have hagree:∀ t∈o.looksAt ops,e t=es i t:=by
   intro t ht
   by_cases hex:∃ k,lS ops k=some t
   ·obtain ⟨k,hk⟩:=hex
    have huniq:∀ k',lS ops k'=some t→k'=k:=fun k' h'=>H.dst k' k t h' hk
    rcases Nat.lt_trichotomy k i with h | h | h
    ·have hb:=(H.look i k o t ho ht hk (by omega)).1 h
     rw [V.new k t (hbef k hb) hk,hes1 k t h hk]
    ·rw [V.old t (fun k' hl hk'=>by rw [huniq k' hk',h,h0] at hl;cases hl),hes2 t (fun k' hlt' hk'=>by have:=huniq k' hk';omega)]
    ·have hb:=(H.look i k o t ho ht hk (by omega)).2 h
     have hnl:=hnot k hb
     rw [V.old t (fun k' hl hk'=>by rw [huniq k' hk',hnl] at hl;cases hl),hes2 t (fun k' hlt' hk'=>by have:=huniq k' hk';omega)]
   ·have hex:∀ k,lS ops k≠some t:=fun k hk=>hex ⟨k,hk⟩
    rw [V.old t (fun k _=>hex k),hes2 t (fun k _=>hex k)]
  have hopd:∀ x∈o.op.operands.toList,opd e x=opd (es i) x:=by
   intro x hx
   refine ark fun t ht=>hagree t ?_
   unfold Oper.looksAt
   refine List.mem_append.2 (.inl (List.mem_filterMap.2 ⟨x,hx,by rw [ht]⟩))
  have hwant:q8 ops e o=q8 ops (es i) o:=by
   unfold q8
   cases hg:o.guard with
   | none=>rfl
   | some g =>
    obtain ⟨gi,want⟩:=g
    simp only
    cases hd:(ops[gi]?).bind (·.dst) with
    | none=>rfl
    | some d =>
     have:e d=es i d:=hagree d (by
      unfold Oper.looksAt
      rw [hg]
      simp [hd])
     simp only [this]
  obtain ⟨tenv,tfix,tstep⟩:=T i o ho
  -- the new state
  have next:∀ (v:Value) (w':World) (I':Nat→Prop) (ρ':cB) (j':Nat) (a':Act),j'≤ops.size →
   (∀ c,c < ops.size→ms (c+1)≠ms c→((listed.setIfInBounds i true).getD c false=true↔c < j')) →
   lR P w0 I0 ρ0 m0 n D (e.put o.dst (vs i)) (ms j') a' w' I' ρ'→wpAny P .any ops Q' fuel (listed.setIfInBounds i true) a' w':=by
   intro v w' I' ρ' j' a' hj' hmem hR
   refine ih (listed.setIfInBounds i true) a' w' (e.put o.dst (vs i)) j' I' ρ' ?_ ⟨by simp [V.size],hR,hj',hmem,fun k t hl hk => ?_,fun t ht => ?_,fun i2 k hl hb => ?_⟩
   ·have:=ajQ hls h0 ops.size
    rw [if_pos hlt] at this
    omega
   ·by_cases hki:k=i
    ·subst hki
     rw [adY ho] at hk
     rw [hk]
     simp [bB.put,bB.set]
    ·rw [getD_set_ne false (fun e=>hki e.symm)] at hl
     have hne:o.dst≠some t:=fun h=>hki (H.dst k i t hk (by rw [adY ho];exact h))
     have:(e.put o.dst (vs i)) t=e t:=by
      cases hd:o.dst with
      | none=>rfl
      | some d=>simp only [bB.put,bB.set];rw [if_neg (fun h=>hne (by rw [hd,h]))]
     rw [this]
     exact V.new k t hl hk
   ·have hne:o.dst≠some t:=by
     have:=ht i (by simp [hls])
     rwa [adY ho] at this
    have:(e.put o.dst (vs i)) t=e t:=by
     cases hd:o.dst with
     | none=>rfl
     | some d=>simp only [bB.put,bB.set];rw [if_neg (fun h=>hne (by rw [hd,h]))]
    rw [this]
    exact V.old t (fun k hl=>ht k (getD_set_true hl))
   ·by_cases hii:i2=i
    ·subst hii;exact getD_set_true (hbef k hb)
    ·rw [getD_set_ne false (fun e=>hii e.symm)] at hl
     exact getD_set_true (V.closed i2 k hl hb)
  have keepmem:ms (i+1)=ms i→∀ c,c < ops.size→ms (c+1)≠ms c→((listed.setIfInBounds i true).getD c false=true↔c < j):=by
   intro hsame c hc hne
   have hci:i≠c:=fun h=>hne (by rw [←h];exact hsame)
   rw [getD_set_ne false hci]
   exact V.mem c hc hne
  unfold wpOp
  rw [ho]
  simp only
  rw [ajK V.rel.er o,hwant]
  rcases tstep with ⟨hw,hst⟩ | ⟨hw,hv,hsame⟩
  ·rw [hw]
   simp only [if_true]
   refine .inl ?_
   have hdlt:=adW (n:=n) hreg ho
   cases hp:aaO (once (o.dst.getD 0)) o.op with
   | true =>
    obtain ⟨hsame,hst2⟩:=ajN (m':=ms j) hp hst
    simp only at hsame
    have hst3:=agF (e':=e) hopd hst2
    refine acv V.rel.sr V.rel.er hst3 V.rel.free ?_
    intro out v w' I' ρ' hK g2 g3 g4 g5 g6
    subst hK
    have hR:=V.rel.next hdlt g2 g3 g4 (fun d y hwb=>by cases hwb) g6
    exact next v w' I' ρ' j _ V.le (keepmem hsame) hR
   | false =>
    have hcmp3:∀ c,c < ops.size→ms (c+1)≠ms c→c≠i→(listed.getD c false=true↔c < i)∨(i < c∧acu ops o.op=true∧vX once ops c=true∧∃ x,ms (c+1)=(ms c).push x):=by
     intro c hc hne hci
     have bf:bef (lD ops) i c=true∨bef (lD ops) c i=true→(listed.getD c false=true↔c < i):=by
      rintro (h | h)
      ·constructor
       ·intro hl;rw [hnot c h] at hl;cases hl
       ·intro hlt2;have:=ajO H c hc i h;omega
      ·exact ⟨fun _=>ajO H i hlt c h,fun _=>hbef c h⟩
     rcases (T c ops[c] (by simp [hc])).fixed with hf | hf | ⟨hf,hx⟩
     ·have:=aAr.1 hf i (aAw.2 hlt)
      rw [ho] at this
      simp only [hp,aAv,beq_iff_eq,azx,or_false] at this
      rcases this with (h | h) | h
      ·exact absurd h.symm hci
      ·exact .inl (bf (.inl h))
      ·exact .inl (bf (.inr h))
     ·exact absurd hf hne
     ·have hf':=hf
      unfold vX at hf'
      have:=aAr.1 (Bool.and_eq_true_iff.1 hf').1 i (aAw.2 hlt)
      rw [ho] at this
      simp only [hp,aAv,beq_iff_eq,azx,false_or,aAn,decide_eq_true_eq] at this
      rcases this with ((h | h) | h) | h
      ·exact absurd h.symm hci
      ·exact .inr ⟨h.1,h.2,hf,hx⟩
      ·exact .inl (bf (.inl h))
      ·exact .inl (bf (.inr h))
    by_cases hpush:∃ c,c < ops.size∧i < c∧acu ops o.op=true∧vX once ops c=true∧∃ x,ms (c+1)=(ms c).push x
    ·obtain ⟨c,hc,hic,hol,hpc,x,hx⟩:=hpush
     have hquiet:∀ c',vX once ops c'=true→∀ k,k < c'→k < ops.size→ms (k+1)=ms k:=by
      intro c' hp' k hk hks
      unfold vX at hp'
      have:=aAr.1 (Bool.and_eq_true_iff.1 hp').2 k (aAw.2 hk)
      have hok:ops[k]? = some ops[k]:=by simp [hks]
      rw [hok] at this
      simp only [aAv] at this
      rcases (T k ops[k] hok).step with ⟨_,hst'⟩ | ⟨_,_,h⟩
      ·rcases this with h | h
       ·exact (ajN (m':=ms k) h hst').1
       ·exact arp h hst'
      ·exact h
     have h0c:ms c=ms 0:=vZ c (aAz _) (fun k _ hk=>hquiet c hpc k hk (by omega))
     have h0i:ms i=ms 0:=vZ i (aAz _) (fun k _ hk=>hquiet c hpc k (by omega) (by omega))
     have hsame:ms (i+1)=ms i:=hquiet c hpc i hic hlt
     have hxne:ms (c+1)≠ms c:=by
      rw [hx]
      intro h
      have:=congrArg aF.next h
      simp only [aF.push] at this
      omega
     have hjm:ms j=ms 0∨ms j=(ms 0).push x:=by
      by_cases hjc:j≤c
      ·exact .inl (vZ j (aAz _) (fun k _ hk=>hquiet c hpc k (by omega) (by have:=V.le;omega)))
      ·refine .inr ?_
       rw [←h0c,←hx]
       have hle:=V.le
       refine vZ j (by omega) fun c' h1 h2=>aAy fun hne => ?_
       have q1:=(V.mem c' (by omega) hne).2 h2
       rcases hcmp3 c' (by omega) hne (by omega) with h | ⟨_,_,h,_⟩
       ·have:=h.1 q1;omega
       ·exact hxne (hquiet c' h c (by omega) hc)
     obtain ⟨t,y,hop,hty⟩:=aro hol
     have hol':=hty
     rw [hop] at hst
     have hst2:cC P true (once (o.dst.getD 0)) (es i) (ms j) o.type (fun x=>x=⟨vs i,ms j,none⟩) (.load t (.tmp y)):=by
      refine arq hst (fun b off he => ?_)
      have hy:=hes2 y (fun k hk hd=>by
       have hlt2:=adX hd
       have:=Array.all_eq_true.1 hty k hlt2
       unfold lS at hd
       rw [show ops[k]? = some ops[k] by simp [hlt2]] at hd
       simp only [aAh] at hd
       rw [hd] at this
       simp at this)
      rw [hy] at he
      have hb:=hout y b off he
      rw [h0i]
      rcases hjm with h | h
      ·rw [h]
      ·rw [h]
       simp only [aF.push]
       rw [if_neg (by omega)]
     rw [←hop] at hst2
     have hst3:=agF (e':=e) hopd hst2
     refine acv V.rel.sr V.rel.er hst3 V.rel.free ?_
     intro out v w' I' ρ' hK g2 g3 g4 g5 g6
     subst hK
     have hR:=V.rel.next hdlt g2 g3 g4 (fun d y hwb=>by cases hwb) g6
     exact next v w' I' ρ' j _ V.le (keepmem hsame) hR
    have hcmp:∀ c,c < ops.size→ms (c+1)≠ms c→c≠i→(listed.getD c false=true↔c < i):=fun c hc hne hci=>(hcmp3 c hc hne hci).resolve_right fun ⟨a1,a2,a3,a4⟩=>hpush ⟨c,hc,a1,a2,a3,a4⟩
    have hji:ms j=ms i:=by
     by_cases hch:ms (i+1)=ms i
     ·rcases Nat.le_total j i with h | h
      ·refine (vZ i h fun c h1 h2=>aAy fun hne => ?_).symm
       have q1:=(hcmp c (by omega) hne (by omega)).2 h2
       have q2:=(V.mem c (by omega) hne).1 q1
       omega
      ·refine vZ j h fun c h1 h2=>aAy fun hne => ?_
       have hle:=V.le
       have hci:c≠i:=fun h=>hne (by rw [h];exact hch)
       have q1:=(V.mem c (by omega) hne).2 h2
       have q2:=(hcmp c (by omega) hne hci).1 q1
       omega
     ·have hij:j≤i:=by
       have q:=V.mem i hlt hch
       rw [h0] at q
       simp at q
       exact q
      refine (vZ i hij fun c h1 h2=>aAy fun hne => ?_).symm
      have q1:=(hcmp c (by omega) hne (by omega)).2 h2
      have q2:=(V.mem c (by omega) hne).1 q1
      omega
    have hst3:=agF (e':=e) hopd hst
    rw [←hji] at hst3
    refine acv V.rel.sr V.rel.er hst3 V.rel.free ?_
    intro out v w' I' ρ' hK g2 g3 g4 g5 g6
    subst hK
    have hR:=V.rel.next hdlt g2 g3 g4 (fun d y hwb=>by cases hwb) g6
    by_cases hch:ms (i+1)=ms i
    ·refine next v w' I' ρ' j _ V.le (keepmem hch) ?_
     rw [hji,←hch]
     exact hR
    ·refine next v w' I' ρ' (i+1) _ (by omega) (fun c hc hne => ?_) hR
     by_cases hci:c=i
     ·subst hci;simp [hls]
     ·rw [getD_set_ne false (fun h=>hci h.symm),hcmp c hc hne hci]
      omega
  ·rw [hw]
   simp only [azx,if_false]
   have hdlt:=adW (n:=n) hreg ho
   refine next undef w I ρ j _ V.le (keepmem hsame) ?_
   rw [hv]
   exact ⟨af1 V.rel.er (fun t ht=>by rw [V.rel.size];exact hdlt t ht) (by simp only [eN,undef,VR]),V.rel.sr,V.rel.free,V.rel.step,by rw [agz];exact V.rel.size,by rw [agA];exact V.rel.defers⟩
theorem art {e:bB} {m:aF} {a:Act} {w:World} {I:Nat→Prop} {ρ:cB} (c:lR P w0 I0 ρ0 m0 n D e m a w I ρ) (k:Nat):lR P w0 I0 ρ0 m0 n D e m a { w with drawn:=k } I ρ:=by
 have st:cL w I ρ m { w with drawn:=k } I ρ m:=⟨rfl,rfl,rfl,ay7 _,fun _ _ _=>rfl,fun _ _ h=>h,fun _ h=>h,fun _ h => .inl h,fun _ _ h=>h,fun b f d=>absurd f d,fun _ h => .inl h,ay7 _⟩
 refine ⟨af0 st c.sr c.er,⟨fun b k g o f d => ?_,c.sr.inj,c.sr.lt,c.sr.mms.keep (st.keeps c.sr) (fun _ _ h=>h) (fun _ _=>⟨rfl,fun h=>h⟩)⟩,c.free,c.step.trans st,c.size,c.defers⟩;have x:=c.sr.blk b k g o f d;obtain ⟨arr,fr,i,j⟩:=x.cells;exact ⟨x.one,⟨arr,fr,i,eL (st.keeps c.sr) (fun _ _ h=>h) _ _ j⟩,x.wr,x.im,x.all1,x.nostr⟩
theorem aru (E:P.follows .mixedOrders=true) (C:aaQ n ops=true) (y:agC ops=true) {Q:bB→aF→Prop} {Q':Exit→Act→World→Prop} (F:∀ e m a w I ρ,Q e m→lR P w0 I0 ρ0 m0 n D e m a w I ρ→Q' .normal a w)
 {id:Nat} {e:bB} {m:aF} {a:Act} {w:World} {I:Nat→Prop} {ρ:cB} (h:iL P once true ops Q ops.toList e m) (f:lR P w0 I0 ρ0 m0 n D e m a w I ρ):(Code.region id ops true).wp P Q' a w:=by
 have H:=arm y;obtain ⟨s,q,vs,p,r,v,z⟩:=ajP ops.toList 0 e m rfl (by simp) h;have T:∀ k o,ops[k]? = some o→acx P once ops s q vs k o:=fun k o A=>z k o (by omega) A
 refine wp_region_any E ?_;have d:∀ k,(azH ops.size false).getD k false=false:=by
  intro k;rw [ayW,aAx];split <;> simp
 have V:oM P w0 I0 ρ0 m0 n D ops s q vs (azH ops.size false) a { w with drawn:=w.drawn+1 } e 0 I ρ:=by
  refine ⟨by simp, ?_,by omega, ?_, ?_, ?_, ?_⟩
  ·rw [r];exact art f _
  ·intro c J x;rw [d];simp
  ·intro k t j;rw [d] at j;cases j
  ·intro t _;rw [p]
  ·intro i k j;rw [d] at j;cases j
 exact ars H C T (fun t b G B=>aAy fun l=>by
  have h:=f.er t;rw [←p,B] at h;simp only [VR] at h;obtain ⟨g,o,u,_⟩:=h;rw [r] at l;rw [f.free b (by omega)] at u;cases u) (fun a w I ρ f=>F _ _ a w I ρ v f) ops.size _ a _ e 0 I ρ (by rw [ajS];exact ay7 _) V
end
end
end Go.Tw