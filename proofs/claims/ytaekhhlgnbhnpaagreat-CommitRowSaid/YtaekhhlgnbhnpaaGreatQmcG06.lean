import Derived.Test.YtaekhhlgnbhnpaaGreatQmcG05
import Derived.Maps.RangeRun
set_option linter.unusedVariables false
set_option linter.unusedSimpArgs false
open Array renaming getElem?_push→aAa,getElem?_eq_getElem→azn,getElem?_toList→aAl
open Go.Instr renaming sameNow→az9,findNow→aAd,sameBits→aAf,checkKey→aAg,lookup→aAh,findKey→aAj,mapUpdate→aAm
open Go.MapEntry renaming key→aAb
open List renaming ext_getElem?→aAi,getElem?_eq_some_iff→ay8,getElem?_map→azo,getElem?_append_right→azh,getElem?_append_left→azg,getElem?_eq_none→ay6,getElem?_set→aAn
open List.cons renaming injEq→aAe
open Nat renaming le_refl→aza
open Option renaming ne_none_iff_exists'→ayX,map_eq_some_iff→ay1,map_some→az6,bind_some→aAk,isSome_iff_exists→aAo
open Option.some renaming injEq→ay0
open Prod renaming fst→aAc
namespace Go.Tw
open Go
open Go.ChangeMaps (setBlock)
open Go.MapKept (bytes_beq)
def aF.setM (m:aF) (mm:Maps):aF:=⟨m.next,m.at_,mm⟩
def Maps.set (mm:Maps) (g:Nat) (c:List (Value×AV)):Maps:=⟨fun j=>if j=g then some c else mm.maps j,fun _=>none⟩
def Maps.walk (mm:Maps) (r:Nat) (x:Nat×List Nat):Maps:=⟨mm.maps,fun j=>if j=r then some x else mm.iters j⟩
def vE (kd:TypeDesc) (k:Value):List (Value×AV)→Option (Option Nat)
 | []=>some none
 | (k',_)::c=>match az9 kd k k' with
  | some true=>some (some 0)
  | some false=>(vE kd k c).map fun r=>r.map (·+1)
  | none=>none
def acZ:TypeDesc→Bool
 | .int _ | .string | .bool=>true
 | _=>false
def abz (P:Program) (t:TypeId):Option AV:=((P.info? t).bind (·.zero)).bind fun z=>if vA z=true then some (.val z) else none
def zN (P:Program) (t:TypeId):Option (TypeDesc×AV):=match P.underlying t with
 | some (.map k e)=>(P.underlying k).bind fun kd=>if acZ kd=true then (abz P e).map fun z=>(kd,z) else none
 | _=>none
def sU (m:aF):AV→Option (Nat×List (Value×AV))
 | .val (.map (some g))=>(m.mm.maps g).map fun c=>(g,c)
 | _=>none
def abA (P:Program) (m:aF) (t:TypeId) (x k:AV):Option AV :=
 (zN P t).bind fun ty=>(sU m x).bind fun a=>(jO k).bind fun b=>(vE ty.1 b a.2).bind fun r=>match r with
  | some i=>(a.2[i]?).map (·.2)
  | none=>some ty.2
def zO (P:Program) (m:aF) (t:TypeId) (x k v:AV):Option bL :=
 (zN P t).bind fun ty=>(sU m x).bind fun a=>(jO k).bind fun b=>(vE ty.1 b a.2).bind fun r=>match r with
  | some i=>bI eI (m.setM (m.mm.set a.1 (a.2.set i (b,v))))
  | none=>bI eI (m.setM (m.mm.set a.1 (a.2++[(b,v)])))
def abB (m:aF):AV→Option (Nat×(Nat×List Nat)×List (Value×AV))
 | .val (.pointer (some ⟨r,0,none⟩))=>(m.mm.iters r).bind fun x=>(m.mm.maps x.1).map fun c=>(r,x,c)
 | _=>none
def ac0 (m:aF) (x:AV):Option AV:=(abB m x).bind fun i=>(i.2.1.2.getLast?).bind fun j=>(i.2.2[j]?).map fun e => .tup [.val e.1,e.2]
section
variable {P:Program} {w:World} {I:Nat→Prop} {ρ:cA} {m:aF}
theorem arn {w:World} {g:Nat} {o:Obj} (h:w.heap[g]? = some o) (c:∀ arr ty a,o ≠ .cells arr ty a):w.shape? g=none:=by
 unfold World.shape?;rw [h];split
 ·rename_i b;cases b;exact absurd rfl (c _ _ _)
 ·rfl
theorem zP {w:World} {g x:Nat} {o:Obj} (h:x≠g):(setBlock w g o).heap[x]? = w.heap[x]? := by
 simp only [setBlock,Array.getElem?_setIfInBounds];rw [if_neg (fun e=>h e.symm)]
theorem agD {w:World} {g:Nat} {o:Obj} (h:g < w.heap.size):(setBlock w g o).heap[g]? = some o:=by
 simp [setBlock,h]
theorem kG.obj {mm:Maps} (h:kG P w I ρ mm) {g:Nat} (a:mm.has g):∃ o,w.heap[g]? = some o∧∀ arr ty e,o ≠ .cells arr ty e:=by
 rcases a with a | a
 ·obtain ⟨c,b⟩:=ayX.1 a;obtain ⟨_,j,i,_⟩:=h.mp g c b;exact ⟨_,i,fun _ _ _ h=>by cases h⟩
 ·obtain ⟨x,d⟩:=ayX.1 a;obtain ⟨_,c,_,f,_⟩:=h.it g x d;exact ⟨_,f,fun _ _ _ h=>by cases h⟩
theorem aej (c:SR P w I ρ m) {g:Nat} (b:m.mm.has g) (o:Obj) (j:∀ arr ty d,o ≠ .cells arr ty d):iL w (setBlock w g o) I I:=by
 obtain ⟨k,f,i⟩:=c.mms.obj b;refine ⟨fun _ h=>h,fun x a=>zP (by rintro rfl;exact c.mms.im b a),fun x y a => ?_⟩;by_cases e:x=g
 ·subst e;rw [arn f i] at a;cases a
 ·rw [xW (zP e)];exact a
theorem agE (e:SR P w I ρ m) {g:Nat} (j:m.mm.has g) (o:Obj) (u:∀ arr ty p,o ≠ .cells arr ty p) {mm':Maps} (n:kG P (setBlock w g o) I ρ mm') (f:∀ x,mm'.has x→m.mm.has x):SR P (setBlock w g o) I ρ (m.setM mm')∧cM w I ρ m (setBlock w g o) I ρ (m.setM mm'):=by
 have q:=aej e j o u;refine ⟨⟨fun b k x y d c => ?_,e.inj,fun x a=>by simpa [setBlock] using e.lt x a,n⟩,⟨rfl,rfl,rfl,by simp [setBlock],fun x a s=>zP (by rintro rfl;exact s (.inr j)),q.shape,fun _ h=>h,fun _ h => .inl h,fun _ _ h=>h,fun b d c=>absurd d c,fun x a => ?_,aza _⟩⟩
 ·have l:=e.blk b k x y d c;refine tY q (fun _ _ h=>h) l (zP ?_) (fun t=>(l.wr t).1);rintro rfl;obtain ⟨arr,p,i,_⟩:=l.cells;exact e.mms.not_cells j i
 ·rcases a with ⟨b,k,r,d,c,i⟩ | a
  ·exact .inl (.inl ⟨b,k,r,d,c,i⟩)
  ·exact .inl (.inr (f x a))
theorem ajM (i:SR P w I ρ m) (o:Obj) {mm':Maps} (n:kG P (w.alloc o) I ρ mm') (f:∀ x,mm'.has x→m.mm.has x∨x=w.heap.size):SR P (w.alloc o) I ρ (m.setM mm')∧cM w I ρ m (w.alloc o) I ρ (m.setM mm'):=by
 have a:∀ g,g < w.heap.size→(w.alloc o).heap[g]? = w.heap[g]? := fun g t=>by
  show (w.heap.push o)[g]? = _;rw [aAa,if_neg (by omega)]
 have p:iL w (w.alloc o) I I:=⟨fun _ h=>h,fun x c=>a x (i.lt x c),fun x y c=>by rw [xW (a x (acP c))];exact c⟩
 refine ⟨⟨fun b k x y e d => ?_,i.inj,fun x c=>by have:=i.lt x c;simp;omega,n⟩,⟨rfl,rfl,rfl,by simp,fun x c _=>a x c,p.shape,fun _ h=>h,fun _ h => .inl h,fun _ _ h=>h,fun b e d=>absurd e d,fun x c => ?_,aza _⟩⟩
 ·have l:=i.blk b k x y e d;obtain ⟨arr,s,j,_⟩:=l.cells;exact tY p (fun _ _ h=>h) l (a x (zI j)) (fun r=>(l.wr r).1)
 ·rcases c with ⟨b,k,q,e,d,j⟩ | c
  ·exact .inl (.inl ⟨b,k,q,e,d,j⟩)
  ·rcases f x c with h | h
   ·exact .inl (.inr h)
   ·exact .inr (by omega)
theorem agF (kd:TypeDesc) (k:Value):∀ (a:List MapEntry) (c:List (Value×AV)) (i:Nat),a.map aAb=c.map aAc→∀ r,vE kd k c=some r→aAd kd k a i=some (r.bind fun j=>(a[j]?).map fun e=>(i+j,e.val))
 | [],[],i,_,r,h=>by simp [vE] at h;subst h;rfl
 | e::a,(k',v)::c,i,hk,r,h=>by
  simp only [List.map_cons,aAe] at hk;obtain ⟨d,b⟩:=hk;unfold vE at h;unfold aAd;rw [d];split at h
  ·rename_i hs;rw [hs];cases h;simp
  ·rename_i hs;rw [hs];obtain ⟨g,f,rfl⟩:=ayT h;rw [agF kd k a c (i+1) b g f];cases g with
   | none=>rfl
   | some j=>simp [Nat.add_assoc,Nat.add_comm 1 j]
  ·cases h
 | [],_::_,i,hk,r,h=>by simp at hk
 | _::_,[],i,hk,r,h=>by simp at hk
theorem ajN {kd:TypeDesc} {k:Value}:∀ {c:List (Value×AV)} {i:Nat},vE kd k c=some (some i)→∃ a,c[i]? = some a∧az9 kd k a.1=some true
 | [],i,h=>by simp [vE] at h
 | (k',v)::c,i,h=>by
  unfold vE at h;split at h
  ·rename_i hs;cases h;exact ⟨_,rfl,hs⟩
  ·obtain ⟨g,d,b⟩:=ayT h;cases g with
   | none=>simp at b
   | some j =>
    simp at b;subst b;obtain ⟨a,f,e⟩:=ajN d;exact ⟨a,by simpa using f,e⟩
  ·cases h
theorem aro {kd:TypeDesc} {a b:Value} (h:az9 kd a b=some true):a=b∧aAf 10000 b a=true:=by
 unfold az9 at h;split at h
 ·split at h
  ·rename_i c;subst c;simp at h;subst h;exact ⟨rfl,by simp [aAf]⟩
  ·cases h
 ·rename_i a b;have h:(a == b)=true:=by simpa using h
  have e:a=b:=(bytes_beq a b).1 h;subst e;exact ⟨rfl,by simp [aAf,(bytes_beq a a).2 rfl]⟩
 ·simp at h;subst h;exact ⟨rfl,by simp [aAf]⟩
 ·cases h
theorem agG {t:TypeId} {ty:TypeDesc×AV} (h:zN P t=some ty):∃ k e,P.underlying t=some (.map k e)∧P.underlying k=some ty.1∧acZ ty.1=true∧abz P e=some ty.2:=by
 unfold zN at h;split at h
 ·rename_i k e c;obtain ⟨kd,a,h⟩:=ayS h;split at h
  ·rename_i d;obtain ⟨z,b,rfl⟩:=ayT h;exact ⟨k,e,c,a,d,b⟩
  ·cases h
 ·cases h
theorem ac1 {x:AV} {a:Nat×List (Value×AV)} (h:sU m x=some a):x = .val (.map (some a.1))∧m.mm.maps a.1=some a.2:=by
 unfold sU at h;split at h
 ·rename_i g;obtain ⟨c,b,rfl⟩:=ayT h;exact ⟨rfl,b⟩
 ·cases h
theorem ajO {t:TypeId} {z:AV} (h:abz P t=some z):∃ v,(zeroValue t).run P w = .ok v w∧VR P w I ρ z v:=by
 unfold abz at h;obtain ⟨v,a,h⟩:=ayS h;obtain ⟨i,hi,b⟩:=ayS a;split at h
 ·cases h;exact ⟨v,by simp [zeroValue,typeInfo,hi,b],by simp only [VR]⟩
 ·cases h
theorem aek {a:TypeId} {kd:TypeDesc} (h:P.underlying a=some kd) (c:acZ kd=true) (b:Bool) (k:Value):(aAg b 10000 a k).run P w = .ok () w:=by
 unfold aAg;cases kd <;> simp [acZ] at c <;> simp [cR h]
theorem arp (L:SR P w I ρ m) {t:TypeId} {x k y:AV} (h:abA P m t x k=some y) {E p:Value} (A:VR P w I ρ x E) (R:VR P w I ρ k p):mT P w I ρ (aAh t E p false) y:=by
 unfold abA at h;obtain ⟨ty,n,h⟩:=ayS h;obtain ⟨C,f,h⟩:=ayS h;obtain ⟨J,l,h⟩:=ayS h;obtain ⟨r,G,h⟩:=ayS h;obtain ⟨S,T,u,c,B,O⟩:=agG n;obtain ⟨rfl,H⟩:=ac1 f;have:=aaG _ _ _ l R;subst this;simp only [VR] at A;subst A;obtain ⟨_,q,F,M,U,Q,N⟩:=L.mms.mp _ _ H;have a:q.toList.map aAb=C.2.map aAc:=by
  apply aAi;intro j;simpa using Q j
 have d:=agF ty.1 p q.toList C.2 0 a r G;cases r with
 | none =>
  simp only [ay0] at h;subst h;obtain ⟨z,s,o⟩:=ajO (w:=w) (I:=I) (ρ:=ρ) O;refine ⟨z, ?_,o⟩;simp only [Option.bind_none] at d;simp [aAh,cR u,getObj,Sem.run,F,aek c B,aAj,cR c,d,s]
 | some i =>
  simp only at h;obtain ⟨e,D,rfl⟩:=ayT h;have b:i < q.size:=by rw [M];exact (ay8.1 D).1
  obtain ⟨v,g,K⟩:=gW N (j:=i) (by rw [azo,D];rfl);rw [azn b] at g;simp only [az6,ay0] at g;refine ⟨v, ?_,K⟩;rw [aAk,aAl,azn b,az6,g] at d;simp [aAh,cR u,getObj,Sem.run,F,aek c B,aAj,cR c,d]
theorem ajP {mm:Maps} {g:Nat} {c:List (Value×AV)} (a:mm.maps g≠none):∀ x,(mm.set g c).has x→mm.has x:=by
 rintro x (h | h)
 ·unfold Maps.set at h;simp only at h;split at h
  ·rename_i e;subst e;exact .inl a
  ·exact .inl h
 ·exact absurd rfl h
theorem agH {w:World} {g:Nat} {c:Array MapEntry} {a:Nat} (o:Obj) (b:w.heap[g]? = some (.map c a)):(setObj g o).run P w = .ok () (setBlock w g o):=MapKept.run_setObj_map o b
theorem arq (K:SR P w I ρ m) {t:TypeId} {x k v:AV} {out:bL} (h:zO P m t x k v=some out) {xv n vv:Value} (hx:VR P w I ρ x xv) (hk:VR P w I ρ k n) (hv:VR P w I ρ v vv) (addr:Value):iN P w I ρ m ((aAm t xv n vv).run P w) (fun _=>undef) out addr:=by
 unfold zO at h;obtain ⟨ty,Z,h⟩:=ayS h;obtain ⟨q,W,h⟩:=ayS h;obtain ⟨a4,Y,h⟩:=ayS h;obtain ⟨r,R,h⟩:=ayS h;obtain ⟨kt,et,h1,S,h3,h4⟩:=agG Z;obtain ⟨rfl,X⟩:=ac1 W;have:=aaG _ _ _ Y hk;subst this;simp only [VR] at hx;subst hx;obtain ⟨a0,l,V,G,e3,U,e5⟩:=K.mms.mp _ _ X;have z:m.mm.has q.1 := .inl (by rw [X];simp);have H:=K.mms.lt z;have B:l.toList.map aAb=q.2.map aAc:=by
  apply aAi;intro j;simpa using U j
 have T:=agF ty.1 n l.toList q.2 0 B r R;have J:∀ (a:Array MapEntry) (F:List (Value×AV)),a.size=F.length→(∀ (j:Nat) (e:MapEntry),a[j]? = some e→e.born=j)→(∀ j:Nat,(a[j]?).map aAb=(F[j]?).map aAc)→bB P w I ρ (F.map Prod.snd) (fun j=>(a[j]?).map MapEntry.val) →
  SR P (setBlock w q.1 (.map a a.size)) I ρ (m.setM (m.mm.set q.1 F))∧cM w I ρ m (setBlock w q.1 (.map a a.size)) I ρ (m.setM (m.mm.set q.1 F)):=by
  intro a F q1 q2 q3 q4;have ho:∀ arr ty fr,Obj.map a a.size ≠ .cells arr ty fr:=fun _ _ _ h=>by cases h
  have M:=aej K z (.map a a.size) ho;refine agE K z _ ho ⟨fun g c L => ?_,fun r x R=>by cases R⟩ (ajP (by rw [X];simp));unfold Maps.set at L;simp only at L;split at L
  ·rename_i e;subst e;cases L;exact ⟨a0,a,agD H,q1,q2,q3,eN M (fun _ _ h=>h) _ _ q4⟩
  ·rename_i a1;obtain ⟨u1,u,u2,u3,u4,u5,u6⟩:=K.mms.mp g c L;exact ⟨u1,u,by rw [zP a1];exact u2,u3,u4,u5,eN M (fun _ _ h=>h) _ _ u6⟩
 cases r with
 | none =>
  simp only [zag] at h;subst h;simp only [Option.bind_none] at T;obtain ⟨s1,s2⟩:=J (l.push { key:=n,val:=vv,born:=l.size }) (q.2++[(n,v)]) (by simp [G]) (fun j e A=>by
   rw [aAa] at A;split at A
   ·rename_i b;cases A;exact b.symm
   ·exact e3 j e A) (fun j=>by
   rw [aAa];split
   ·rename_i b;rw [b,G,azh (aza _)];simp
   ·rename_i b;rw [U j];by_cases s:j < q.2.length
    ·rw [azg s]
    ·rw [ay6 (by omega),ay6 (by simp;omega)]) (by
   refine lG.2 fun j c b => ?_
   rw [List.map_append] at b;by_cases s:j < (q.2.map Prod.snd).length
   ·rw [azg s] at b;obtain ⟨u,h6,h7⟩:=gW e5 b;have:j≠l.size:=by rw [G];simp at s;omega
    exact ⟨u,by simp only [aAa,if_neg this];exact h6,h7⟩
   ·rw [azh (by omega)] at b;have a2:j=l.size:=by
     have:=(ay8.1 b).1;simp at this s;omega
    subst a2;simp [G] at b;subst b;exact ⟨vv,by simp,hv⟩)
  refine ⟨(),_,I,ρ, ?_,by simp only [eI,undef,VR],s1,s2,fun d y h=>by cases h⟩;simp [aAm,cR h1,getObj,Sem.run,V,aek S h3,aAj,cR S,T,agH _ V]
 | some i =>
  simp only [zag] at h;subst h;obtain ⟨kw,Q,C⟩:=ajN R;obtain ⟨O,o⟩:=aro C;have D:=(ay8.1 Q).1;have f:i < l.size:=by rw [G];exact D
  have N:l[i].key=n:=by
   have:=U i;rw [azn f,Q] at this;simp only [az6,ay0] at this;rw [this,←O]
  rw [←O] at o;rw [aAk,aAl,azn f,az6,Nat.zero_add] at T;have p:∀ j:Nat,(l.modify i fun e=>{ e with key:=n,val:=vv })[j]? = if i=j then (l[j]?).map (fun e=>{ e with key:=n,val:=vv }) else l[j]? := fun j=>by
   rw [Array.getElem?_modify]
  obtain ⟨s1,s2⟩:=J (l.modify i fun e=>{ e with key:=n,val:=vv }) (q.2.set i (n,v)) (by simp [G]) (fun j e A=>by
   rw [p] at A;split at A
   ·obtain ⟨e0,h0,rfl⟩:=ayT A;exact e3 j e0 h0
   ·exact e3 j e A) (fun j=>by
   rw [p,aAn];split
   ·rename_i b;subst b
    first | rw [if_pos D,azn f] | rw [azn f]
    rfl
   ·exact U j) (by
   refine lG.2 fun j c b => ?_
   rw [azo,aAn] at b;simp only [p];split at b
   ·rename_i E;subst E
    try rw [if_pos D] at b
    simp only [az6,ay0] at b;subst b;exact ⟨vv,by rw [if_pos rfl,azn f];rfl,hv⟩
   ·rename_i E;rw [if_neg E];exact gW e5 (by rw [azo];exact b))
  refine ⟨(),_,I,ρ, ?_,by simp only [eI,undef,VR],s1,s2,fun d y h=>by cases h⟩;have a3:(Instr.keyThatStays l[i].key n).run P w = .ok n w:=by
   rw [N];simp [Instr.keyThatStays,o]
  simp [aAm,cR h1,getObj,Sem.run,V,aek S h3,aAj,cR S,T,azn f,a3,agH _ V]
theorem ajQ {x:AV} {i:Nat×(Nat×List Nat)×List (Value×AV)} (h:abB m x=some i):x = .val (.pointer (some ⟨i.1,0,none⟩))∧m.mm.iters i.1=some i.2.1∧m.mm.maps i.2.1.1=some i.2.2:=by
 unfold abB at h;split at h
 ·rename_i r;obtain ⟨y,b,h⟩:=ayS h;obtain ⟨c,a,rfl⟩:=ayT h;exact ⟨rfl,b,a⟩
 ·cases h
theorem ars {a:Array MapEntry} (h:∀ (j:Nat) (e:MapEntry),a[j]? = some e→e.born=j):(a.toList.map (·.born)).Nodup:=by
 have:a.toList.map (·.born)=List.range a.size:=by
  apply aAi;intro j;rw [azo,aAl];by_cases b:j < a.size
  ·rw [azn b,List.getElem?_range b];simp [h j a[j] (azn b)]
  ·rw [Array.getElem?_eq_none (by omega),ay6 (by simp;omega)];rfl
 rw [this];exact List.nodup_range
theorem art (q:SR P w I ρ m) {x o:AV} (h:ac0 m x=some o) {y:Value} (t:VR P w I ρ x y):mT P w I ρ (Instr.entry y) o:=by
 unfold ac0 at h;obtain ⟨i,hi,h⟩:=ayS h;obtain ⟨j,z,h⟩:=ayS h;obtain ⟨e,k,rfl⟩:=ayT h;obtain ⟨rfl,A,p⟩:=ajQ hi;simp only [VR] at t;subst t;obtain ⟨_,c,r,C,_⟩:=q.mms.it _ _ A;rw [p] at r;cases r;obtain ⟨_,b,H,s,u,G,E⟩:=q.mms.mp _ _ p;have a:j < b.size:=by rw [s];exact (ay8.1 k).1
 have F:b[j].born=j:=u j _ (azn a);obtain ⟨v,g,B⟩:=gW E (j:=j) (by rw [azo,k];rfl);rw [azn a] at g;simp only [az6,ay0] at g;have n:=G j;rw [azn a,k] at n;simp only [az6,ay0] at n;have d:i.2.1.2=i.2.1.2.dropLast++[j]:=by
  obtain ⟨l,D⟩:=List.getLast?_eq_some_iff.1 z;rw [D];simp
 have f:=run_entry_at (P:=P) w i.1 i.2.1.1 i.2.2.length i.2.1.2.dropLast.toArray b b.size b[j] (by rw [C,F,s];congr 2;rw [d];simp) H (by simp) (ars u);refine ⟨_,f, ?_⟩;simp only [VR];refine ⟨#[b[j].key,b[j].val],rfl,rfl, ?_⟩;simp only [bB];exact ⟨⟨_,rfl,by simp only [VR];exact n⟩,⟨_,rfl,by rw [g];exact B⟩,trivial⟩
def Maps.add (mm:Maps) (g:Nat):Maps:=⟨fun j=>if j=g then some [] else mm.maps j,mm.iters⟩
def abC (m:aF) (K:bL→Prop):Prop:=∀ g,¬ m.mm.has g→K ⟨.val (.map (some g)),m.setM (m.mm.add g),none⟩
def abD (P:Program) (m:aF) (t:TypeId) (x:AV) (K:bL→Prop):Prop:=∃ a,(zN P t).isSome=true∧sU m x=some a∧∀ r,¬ m.mm.has r→K ⟨.val (.pointer (some ⟨r,0,none⟩)),m.setM (m.mm.walk r (a.1,[])),none⟩
def abE (m:aF) (x:AV) (K:bL→Prop):Prop:=∃ i,abB m x=some i∧((∀ j,j < i.2.2.length→j∈i.2.1.2)→K ⟨.tup [.val (.bool false)],m,none⟩)∧∀ j e,i.2.2[j]? = some e→j ∉ i.2.1.2→K ⟨.tup [.val (.bool true),.val e.1,e.2],m.setM (m.mm.walk i.1 (i.2.1.1,i.2.1.2++[j])),none⟩
theorem ajR (c:SR P w I ρ m) (o:Obj):iL w (w.alloc o) I I:=by
 have a:∀ g,g < w.heap.size→(w.alloc o).heap[g]? = w.heap[g]? := fun g d=>by
  show (w.heap.push o)[g]? = _;rw [aAa,if_neg (by omega)]
 exact ⟨fun _ h=>h,fun x b=>a x (c.lt x b),fun x y b=>by rw [xW (a x (acP b))];exact b⟩
theorem ael {w:World} {o:Obj} {g:Nat} (a:g < w.heap.size):(w.alloc o).heap[g]? = w.heap[g]? := by
 show (w.heap.push o)[g]? = _;rw [aAa,if_neg (by omega)]
theorem ajS {w:World} {o:Obj}:(w.alloc o).heap[w.heap.size]? = some o:=by
 show (w.heap.push o)[w.heap.size]? = _;simp
theorem aru (a:SR P w I ρ m) {t:TypeId} {K:bL→Prop} (h:abC m K) (addr:Value):∃ out,K out∧out.wb=none∧iN P w I ρ m ((Instr.makeMap t none).run P w) id out addr:=by
 refine ⟨_,h w.heap.size (fun v=>by have:=a.mms.lt v;omega),rfl, ?_⟩;have C:=ajR a (.map #[] 0);obtain ⟨B,z⟩:=ajM a (.map #[] 0) (mm':=m.mm.add w.heap.size) ⟨fun g c f=>by
  unfold Maps.add at f;simp only at f;split at f
  ·rename_i e;subst e;cases f;exact ⟨fun hi=>by have:=a.lt _ hi;omega,#[],ajS,rfl,fun j e h=>by simp at h,fun j=>by simp,by simp only [List.map_nil,bB]⟩
  ·have k:=a.mms.lt (g:=g) (.inl (by rw [f];simp));obtain ⟨o,u,i,n,l,A,q⟩:=a.mms.mp g c f;exact ⟨o,u,by rw [ael k];exact i,n,l,A,eN C (fun _ _ h=>h) _ _ q⟩,fun r x p=>by
  have k:=a.mms.lt (g:=r) (.inr (by rw [show m.mm.iters r=some x from p];simp));obtain ⟨o,c,i,n,l⟩:=a.mms.it r x p;have s:=a.mms.lt (g:=x.1) (.inl (by rw [i];simp));refine ⟨o,c, ?_,by rw [ael k];exact n,l⟩;unfold Maps.add;simp only;rw [if_neg (by omega)];exact i⟩ (fun x b=>by
  rcases b with b | b
  ·unfold Maps.add at b;simp only at b;split at b
   ·rename_i e;exact .inr e
   ·exact .inl (.inl b)
  ·exact .inl (.inr b))
 exact ⟨.map (some w.heap.size),_,I,ρ,by simp [Instr.makeMap],by simp only [id,VR],B,z,fun d y h=>by cases h⟩
theorem arv (b:SR P w I ρ m) {t:TypeId} {x:AV} {K:bL→Prop} (h:abD P m t x K) {C:Value} (a:VR P w I ρ x C) (addr:Value):∃ out,K out∧out.wb=none∧iN P w I ρ m ((Instr.range t C).run P w) id out addr:=by
 obtain ⟨n,f,o,h⟩:=h;obtain ⟨ty,f⟩:=aAo.1 f;obtain ⟨R,S,F,_⟩:=agG f;obtain ⟨rfl,A⟩:=ac1 o;simp only [VR] at a;subst a;obtain ⟨G,l,N,H,T,V,U⟩:=b.mms.mp _ _ A;have k:¬ m.mm.has w.heap.size:=fun J=>by have:=b.mms.lt J;omega
 refine ⟨_,h w.heap.size k,rfl, ?_⟩;have Q:=ajR b (.mapIter (some n.1) l.size #[] l.size);obtain ⟨O,L⟩:=ajM b (.mapIter (some n.1) l.size #[] l.size) (mm':=m.mm.walk w.heap.size (n.1,[])) ⟨fun g c B=>by
  have q:=b.mms.lt (g:=g) (.inl (by rw [show m.mm.maps g=some c from B];simp));obtain ⟨z,u,p,v,s,M,D⟩:=b.mms.mp g c B;exact ⟨z,u,by rw [ael q];exact p,v,s,M,eN Q (fun _ _ h=>h) _ _ D⟩,fun r x i=>by
  unfold Maps.walk at i;simp only at i;split at i
  ·rename_i e;subst e;cases i;exact ⟨fun hi=>by have:=b.lt _ hi;omega,n.2,A,by rw [ajS,H],List.nodup_nil,fun j E=>by cases E⟩
  ·have q:=b.mms.lt (g:=r) (.inr (by rw [i];simp));obtain ⟨z,c,p,v,s⟩:=b.mms.it r x i;exact ⟨z,c,p,by rw [ael q];exact v,s⟩⟩ (fun x a=>by
  rcases a with a | a
  ·exact .inl (.inl a)
  ·unfold Maps.walk at a;simp only at a;split at a
   ·rename_i e;exact .inr e
   ·exact .inl (.inr a))
 exact ⟨.pointer (some ⟨w.heap.size,0,none⟩),_,I,ρ,by simp [Instr.range,cR F,getObj,Sem.run,N],by simp only [id,VR],O,L,fun d y h=>by cases h⟩
theorem arw (N:SR P w I ρ m) {ty:TypeId} {x:AV} {K:bL→Prop} (h:abE m x K) {xv:Value} (z:VR P w I ρ x xv) (addr:Value):∃ out,K out∧out.wb=none∧iN P w I ρ m ((Instr.next xv false ty).run P w) id out addr:=by
 obtain ⟨⟨r,⟨g,f⟩,c⟩,hi,p,n⟩:=h;obtain ⟨rfl,H,F⟩:=ajQ hi;simp only at H F p n;simp only [VR] at z;subst z;obtain ⟨Z,T,Y,X,q3,q4⟩:=N.mms.it _ _ H;simp only at Y X q3 q4;rw [F] at Y;cases Y;obtain ⟨_,s,e1,e2,e3,e4,e5⟩:=N.mms.mp _ _ F;rcases run_next_at (P:=P) w ty r g c.length c.length f.toArray s s.size X e1 (fun x z=>by
  obtain ⟨j,U⟩:=List.getElem?_of_mem z;rw [aAl] at U;rw [e3 j x U];have:=(Array.getElem?_eq_some_iff.1 U).1;omega) (aza _) with ⟨h0,hrun⟩ | ⟨e,he,w1,hw1,hrun⟩
 ·refine ⟨_,p fun j U => ?_,rfl, ?_⟩
  ·by_cases hm:j∈f
   ·exact hm
   ·exfalso;have o:j < s.size:=by omega
    have V:s[j].born=j:=e3 j _ (azn o);have:s[j]∈leftOf s f.toArray:=by
     unfold leftOf;rw [Array.mem_filter];exact ⟨by simp,by simp [V,hm]⟩
    rw [Array.eq_empty_of_size_eq_zero h0] at this;simp at this
  ·refine ⟨_,w,I,ρ,hrun, ?_,N,cM.refl _ _ _ _,fun d y h=>by cases h⟩;simp only [id,VR];refine ⟨#[.bool false],rfl,rfl, ?_⟩;simp only [bB];exact ⟨⟨.bool false,rfl,by simp only [VR]⟩,trivial⟩
 ·have A:e∈leftOf s f.toArray:=by simpa using he
  unfold leftOf at A;rw [Array.mem_filter] at A;obtain ⟨L,G⟩:=A;obtain ⟨j,o,E⟩:=Array.mem_iff_getElem.1 L;have V:e.born=j:=e3 j e (by rw [azn o,E]);have S:j ∉ f:=by
   rw [V] at G;simpa using G
  obtain ⟨kv,B⟩:∃ kv,c[j]? = some kv:=⟨_,List.getElem?_eq_getElem (by omega)⟩
  obtain ⟨v,W,h7⟩:=gW e5 (j:=j) (by rw [azo,B];rfl);rw [azn o,E] at W;simp only [az6,ay0] at W;have hk:=e4 j;rw [azn o,B,E] at hk;simp only [az6,ay0] at hk;have k:SR P w1 I ρ m∧cM w I ρ m w1 I ρ m∧w1.heap=w.heap:=by
   rcases hw1 with rfl | rfl
   ·exact ⟨N,cM.refl _ _ _ _,rfl⟩
   ·exact ⟨ajx N,⟨rfl,rfl,rfl,aza _,fun _ _ _=>rfl,fun _ _ h=>h,fun _ h=>h,fun _ h => .inl h,fun _ _ h=>h,fun b H F=>absurd H F,fun _ h => .inl h,aza _⟩,rfl⟩
  obtain ⟨k,R,q⟩:=k;have l:m.mm.has r := .inr (by rw [H];simp);have ho:∀ arr ty fr,Obj.mapIter (some g) c.length (f.toArray.push e.born) s.size ≠ .cells arr ty fr:=fun _ _ _ h=>by cases h
  have D:=aej k l _ ho;have a0:=k.mms.lt l;obtain ⟨s1,s2⟩:=agE k l _ ho (mm':=m.mm.walk r (g,f++[j])) ⟨fun g' T hg=>by
   obtain ⟨u1,u,M,u3,u4,u5,u6⟩:=k.mms.mp g' T hg;have C:g'≠r:=by
    rintro rfl;rw [q,X] at M;cases M
   exact ⟨u1,u,by rw [zP C];exact M,u3,u4,u5,eN D (fun _ _ h=>h) _ _ u6⟩,fun r' x' J=>by
   unfold Maps.walk at J;simp only at J;split at J
   ·rename_i e';subst e';cases J;refine ⟨Z,c,F, ?_, ?_,fun i hi => ?_⟩
    ·rw [agD a0,V,e2];simp
    ·exact List.nodup_append.2 ⟨q3,by simp,fun a ha b Q=>by simp at Q;subst Q;rintro rfl;exact S ha⟩
    ·simp at hi;rcases hi with hi | rfl
     ·exact q4 i hi
     ·omega
   ·rename_i C;obtain ⟨u1,T,M,u3,u4⟩:=k.mms.it r' x' J;exact ⟨u1,T,M,by rw [zP C];exact u3,u4⟩⟩ (fun y t=>by
   rcases t with t | t
   ·exact .inl t
   ·unfold Maps.walk at t;simp only at t;split at t
    ·rename_i e';rw [e'];exact l
    ·exact .inr t)
  refine ⟨_,n j kv B S,rfl, ?_⟩;refine ⟨_,_,I,ρ,hrun, ?_,s1,R.trans s2,fun d y h=>by cases h⟩;have O:iL w (setBlock w1 r (.mapIter (some g) c.length (f.toArray.push e.born) s.size)) I I:=⟨fun _ h=>h,fun x z=>by rw [D.same x z,q],fun x y z=>D.shape x y (R.shape x y z)⟩
  simp only [id,VR];refine ⟨#[.bool true,e.key,e.val],rfl,rfl, ?_⟩;simp only [bB];exact ⟨⟨.bool true,rfl,by simp only [VR]⟩,⟨e.key,rfl,by simp only [VR];exact hk⟩,⟨e.val,rfl,rI O (fun _ _ h=>h) _ _ (by rw [W];exact h7)⟩,trivial⟩
end
end Go.Tw
namespace Go.Tw
open Go Go.ChangeMaps
def vF (P:Program) (a:TypeId) (k:Value):List (Value×AV)→Option (Option Nat)
 | []=>some none
 | (k',_)::c=>match cT P (Op.equal a k k') with
  | some true=>some (some 0)
  | some false=>(vF P a k c).map fun r=>r.map (·+1)
  | none=>none
def arx (P:Program) (a:TypeId) (k:Value):Prop:=∀ b,cT P (aAg b 10000 a k)=some ()
def ac2 (P:Program) (a:TypeId) (k:Value):Bool:=(cT P (aAg true 10000 a k)).isSome && (cT P (aAg false 10000 a k)).isSome
def agI (P:Program) (a:TypeId):Bool:=match P.underlying a with | some (.struct _)=>true | _=>false
def zQ (P:Program) (t:TypeId):Option (TypeId×AV):=match P.underlying t with
 | some (.map k e)=>if agI P k=true then (abz P e).map fun z=>(k,z) else none
 | _=>none
def ac3 (P:Program) (m:aF) (t:TypeId) (x k:AV):Option AV :=
 (zQ P t).bind fun ty=>(sU m x).bind fun a=>(jO k).bind fun b=>if ac2 P ty.1 b=true then (vF P ty.1 b a.2).bind fun r=>match r with
  | some i=>(a.2[i]?).map (·.2)
  | none=>some ty.2
 else none
def abF (P:Program) (m:aF) (t:TypeId) (x k v:AV):Option bL :=
 (zQ P t).bind fun ty=>(sU m x).bind fun a=>(jO k).bind fun b=>if ac2 P ty.1 b=true then (vF P ty.1 b a.2).bind fun r=>match r with
  | some _=>none
  | none=>bI eI (m.setM (m.mm.set a.1 (a.2++[(b,v)])))
 else none
def xY (P:Program) (m:aF) (t:TypeId) (x k:AV):Option AV:=match abA P m t x k with
 | some v=>some v
 | none=>ac3 P m t x k
def vG (P:Program) (m:aF) (t:TypeId) (x k v:AV):Option bL:=match zO P m t x k v with
 | some o=>some o
 | none=>abF P m t x k v
theorem ary {P:Program} {m:aF} {t:TypeId} {x k v:AV} (h:abA P m t x k=some v):xY P m t x k=some v:=by unfold xY;rw [h]
theorem ajT {P:Program} {m:aF} {t:TypeId} {x k v:AV} {o:bL} (h:zO P m t x k v=some o):vG P m t x k v=some o:=by unfold vG;rw [h]
theorem arz {P:Program} {b:TypeId} (h:agI P b=true):∃ a,P.underlying b=some (.struct a):=by
 unfold agI at h;split at h
 ·rename_i a c;exact ⟨a,c⟩
 ·cases h
theorem agJ {P:Program} {t:TypeId} {ty:TypeId×AV} (h:zQ P t=some ty):∃ e,P.underlying t=some (.map ty.1 e)∧(∃ b,P.underlying ty.1=some (.struct b))∧abz P e=some ty.2:=by
 unfold zQ at h;split at h
 ·rename_i k e c;split at h
  ·rename_i d;obtain ⟨z,a,rfl⟩:=ayT h;exact ⟨e,c,arz d,a⟩
  ·cases h
 ·cases h
theorem ajU {P:Program} {t:TypeId} (h:(zQ P t).isSome=true):zN P t=none:=by
 obtain ⟨ty,a⟩:=aAo.1 h;obtain ⟨e,c,⟨d,b⟩,_⟩:=agJ a;unfold zN;rw [c];simp [b,acZ]
theorem arA {P:Program} {m:aF} {t:TypeId} {x k:AV} (h:(zQ P t).isSome=true):xY P m t x k=ac3 P m t x k:=by
 unfold xY abA;rw [ajU h];rfl
theorem arB {P:Program} {m:aF} {t:TypeId} {x k v:AV} (h:(zQ P t).isSome=true):vG P m t x k v=abF P m t x k v:=by
 unfold vG zO;rw [ajU h];rfl
section
variable {P:Program} {w:World} {I:Nat→Prop} {ρ:cA} {m:aF}
theorem ajV {a:TypeId} {k:Value} (h:ac2 P a k=true):arx P a k:=by
 unfold ac2 at h;rw [Bool.and_eq_true,aAo,aAo] at h;obtain ⟨⟨u,d⟩,⟨v,c⟩⟩:=h;intro b;cases b
 ·rw [c]
 ·rw [d]
theorem ajW {g:TypeId} (k:Value):∀ (a:List MapEntry) (c:List (Value×AV)) (i:Nat),a.map aAb=c.map aAc→∀ r,vF P g k c=some r→(Instr.findAsking g k a i).run P w = .ok (r.bind fun j=>(a[j]?).map fun e=>(i+j,e.val)) w
 | [],[],i,_,r,h=>by simp [vF] at h;subst h;simp [Instr.findAsking]
 | e::a,(k',v)::c,i,hk,r,h=>by
  simp only [List.map_cons,aAe] at hk;obtain ⟨d,b⟩:=hk;unfold vF at h;unfold Instr.findAsking;rw [d];split at h
  ·rename_i hs;cases h;simp [tW P _ _ hs]
  ·rename_i hs;obtain ⟨l,f,rfl⟩:=ayT h;have m:=ajW k a c (i+1) b l f;simp [tW P _ _ hs,m];cases l with
   | none=>rfl
   | some j=>simp [Nat.add_assoc,Nat.add_comm 1 j]
  ·cases h
 | [],_::_,i,hk,r,h=>by simp at hk
 | _::_,[],i,hk,r,h=>by simp at hk
theorem ajX {d:TypeId} (b:∃ f,P.underlying d=some (.struct f)) (k:Value) (a:List MapEntry) (c:List (Value×AV)) (i:a.map aAb=c.map aAc) (r:Option Nat) (h:vF P d k c=some r):(aAj d k a).run P w = .ok (r.bind fun j=>(a[j]?).map fun e=>(j,e.val)) w:=by
 obtain ⟨f,b⟩:=b;have g:=ajW (P:=P) (w:=w) k a c 0 i r h;simp only [Nat.zero_add] at g;cases a with
 | nil =>
  cases c with
  | nil=>simp [vF] at h;subst h;simp [aAj,cR b,aAd]
  | cons x c=>simp at i
 | cons e a =>
  have l:aAd (.struct f) k (e::a) 0=none:=by simp [aAd,az9]
  simp [aAj,cR b,l,g]
theorem arC (M:SR P w I ρ m) {t:TypeId} {x k A:AV} (h:ac3 P m t x k=some A) {E p:Value} (B:VR P w I ρ x E) (S:VR P w I ρ k p):mT P w I ρ (aAh t E p false) A:=by
 unfold ac3 at h;obtain ⟨ty,n,h⟩:=ayS h;obtain ⟨C,f,h⟩:=ayS h;obtain ⟨J,l,h⟩:=ayS h;split at h
 case isFalse=>cases h
 rename_i s;obtain ⟨r,G,h⟩:=ayS h;obtain ⟨T,y,L,Q⟩:=agJ n;obtain ⟨rfl,H⟩:=ac1 f;have:=aaG _ _ _ l S;subst this;have c:=ajV s;simp only [VR] at B;subst B;obtain ⟨_,q,F,N,U,R,O⟩:=M.mms.mp _ _ H;have a:q.toList.map aAb=C.2.map aAc:=by
  apply aAi;intro j;simpa using R j
 have d:=ajX (w:=w) L p q.toList C.2 a r G;cases r with
 | none =>
  simp only [ay0] at h;subst h;obtain ⟨z,u,o⟩:=ajO (w:=w) (I:=I) (ρ:=ρ) Q;refine ⟨z, ?_,o⟩;simp only [Option.bind_none] at d;simp [aAh,cR y,getObj,Sem.run,F,tW P _ _ (c _),d,u]
 | some i =>
  simp only at h;obtain ⟨e,D,rfl⟩:=ayT h;have b:i < q.size:=by rw [N];exact (ay8.1 D).1
  obtain ⟨v,g,K⟩:=gW O (j:=i) (by rw [azo,D];rfl);rw [azn b] at g;simp only [az6,ay0] at g;refine ⟨v, ?_,K⟩;rw [aAk,aAl,azn b,az6,g] at d;simp [aAh,cR y,getObj,Sem.run,F,tW P _ _ (c _),d]
theorem arD (z:SR P w I ρ m) {t:TypeId} {x k v:AV} {out:bL} (h:abF P m t x k v=some out) {V A vv:Value} (T:VR P w I ρ x V) (hk:VR P w I ρ k A) (hv:VR P w I ρ v vv) (addr:Value):iN P w I ρ m ((aAm t V A vv).run P w) (fun _=>undef) out addr:=by
 unfold abF at h;obtain ⟨ty,L,h⟩:=ayS h;obtain ⟨n,G,h⟩:=ayS h;obtain ⟨a0,K,h⟩:=ayS h;split at h
 case isFalse=>cases h
 rename_i N;obtain ⟨r,F,h⟩:=ayS h;obtain ⟨et,Y,h2,h4⟩:=agJ L;obtain ⟨rfl,J⟩:=ac1 G;have:=aaG _ _ _ K hk;subst this;have R:=ajV N;simp only [VR] at T;subst T;obtain ⟨M,q,W,D,e3,U,e5⟩:=z.mms.mp _ _ J;have l:m.mm.has n.1 := .inl (by rw [J];simp);have s:=z.mms.lt l;have o:q.toList.map aAb=n.2.map aAc:=by
  apply aAi;intro j;simpa using U j
 have hf:=ajX (w:=w) h2 A q.toList n.2 o r F;have H:∀ (a:Array MapEntry) (p:List (Value×AV)),a.size=p.length→(∀ (j:Nat) (e:MapEntry),a[j]? = some e→e.born=j)→(∀ j:Nat,(a[j]?).map aAb=(p[j]?).map aAc)→bB P w I ρ (p.map Prod.snd) (fun j=>(a[j]?).map MapEntry.val) →
  SR P (setBlock w n.1 (.map a a.size)) I ρ (m.setM (m.mm.set n.1 p))∧cM w I ρ m (setBlock w n.1 (.map a a.size)) I ρ (m.setM (m.mm.set n.1 p)):=by
  intro a p q1 q2 q3 Z;have S:∀ arr ty fr,Obj.map a a.size ≠ .cells arr ty fr:=fun _ _ _ h=>by cases h
  have C:=aej z l (.map a a.size) S;refine agE z l _ S ⟨fun g c B => ?_,fun r x F=>by cases F⟩ (ajP (by rw [J];simp));unfold Maps.set at B;simp only at B;split at B
  ·rename_i e;subst e;cases B;exact ⟨M,a,agD s,q1,q2,q3,eN C (fun _ _ h=>h) _ _ Z⟩
  ·rename_i O;obtain ⟨u1,u,u2,u3,u4,u5,X⟩:=z.mms.mp g c B;exact ⟨u1,u,by rw [zP O];exact u2,u3,u4,u5,eN C (fun _ _ h=>h) _ _ X⟩
 cases r with
 | none =>
  simp only [zag] at h;subst h;obtain ⟨s1,s2⟩:=H (q.push { key:=A,val:=vv,born:=q.size }) (n.2++[(A,v)]) (by simp [D]) (fun j e E=>by
   rw [aAa] at E;split at E
   ·rename_i b;cases E;exact b.symm
   ·exact e3 j e E) (fun j=>by
   rw [aAa];split
   ·rename_i b;rw [b,D,azh (aza _)];simp
   ·rename_i b;rw [U j];by_cases f:j < n.2.length
    ·rw [azg f]
    ·rw [ay6 (by omega),ay6 (by simp;omega)]) (by
   refine lG.2 fun j c b => ?_
   rw [List.map_append] at b;by_cases f:j < (n.2.map Prod.snd).length
   ·rw [azg f] at b;obtain ⟨u,h6,h7⟩:=gW e5 b;have:j≠q.size:=by rw [D];simp at f;omega
    exact ⟨u,by simp only [aAa,if_neg this];exact h6,h7⟩
   ·rw [azh (by omega)] at b;have Q:j=q.size:=by
     have:=(ay8.1 b).1;simp at this f;omega
    subst Q;simp [D] at b;subst b;exact ⟨vv,by simp,hv⟩)
  refine ⟨(),_,I,ρ, ?_,by simp only [eI,undef,VR],s1,s2,fun d y h=>by cases h⟩;simp [aAm,cR Y,getObj,Sem.run,W,tW P _ _ (R _),hf,agH _ W]
 | some i=>cases h
theorem arE (c:SR P w I ρ m) {t:TypeId} {x k e:AV} (h:xY P m t x k=some e) {b d:Value} (a:VR P w I ρ x b) (f:VR P w I ρ k d):mT P w I ρ (aAh t b d false) e:=by
 unfold xY at h;split at h
 ·rename_i v g;cases h;exact arp c g a f
 ·exact arC c h a f
theorem arF (c:SR P w I ρ m) {t:TypeId} {x k v:AV} {out:bL} (h:vG P m t x k v=some out) {b d vv:Value} (a:VR P w I ρ x b) (f:VR P w I ρ k d) (e:VR P w I ρ v vv) (addr:Value):iN P w I ρ m ((aAm t b d vv).run P w) (fun _=>undef) out addr:=by
 unfold vG at h;split at h
 ·rename_i o g;cases h;exact arq c g a f e addr
 ·exact arD c h a f e addr
theorem arG {t:TypeId} {x k v:AV} {out:bL} (h:vG P m t x k v=some out):out.wb=none:=by
 unfold vG at h;split at h
 ·rename_i o a;cases h;unfold zO at a;obtain ⟨_,_,a⟩:=ayS a;obtain ⟨_,_,a⟩:=ayS a;obtain ⟨_,_,a⟩:=ayS a;obtain ⟨_,_,a⟩:=ayS a;split at a <;> (simp only [zag] at a;subst a;rfl)
 ·unfold abF at h;obtain ⟨_,_,h⟩:=ayS h;obtain ⟨_,_,h⟩:=ayS h;obtain ⟨_,_,h⟩:=ayS h;split at h
  case isFalse=>cases h
  obtain ⟨_,_,h⟩:=ayS h;split at h
  ·cases h
  ·simp only [zag] at h;subst h;rfl
end
end Go.Tw