import Derived.Test.YtaekhhlgnbhnpaaGreatNzcG05
import Derived.Maps.RangeRun
set_option linter.unusedVariables false
set_option linter.unusedSimpArgs false
open Array renaming getElem?_push→az7,getElem?_eq_getElem→azk,getElem?_toList→aAi
open Go.Instr renaming sameNow→az6,findNow→aAa,sameBits→aAc,checkKey→aAd,lookup→aAe,findKey→aAg,mapUpdate→aAj
open Go.MapEntry renaming key→az8
open List renaming ext_getElem?→aAf,getElem?_eq_some_iff→ay5,getElem?_map→azl,getElem?_append_right→aze,getElem?_append_left→azd,getElem?_eq_none→ay3,getElem?_set→aAk
open List.cons renaming injEq→aAb
open Nat renaming le_refl→ay7
open Option renaming ne_none_iff_exists'→ayU,map_eq_some_iff→ayY,map_some→az3,bind_some→aAh,isSome_iff_exists→aAl
open Option.some renaming injEq→ayX
open Prod renaming fst→az9
namespace Go.Tw
open Go
open Go.ChangeMaps (setBlock)
open Go.MapKept (bytes_beq)
def aF.setM (m:aF) (mm:Maps):aF:=⟨m.next,m.at_,mm⟩
def Maps.set (mm:Maps) (g:Nat) (c:List (Value×AV)):Maps:=⟨fun j=>if j=g then some c else mm.maps j,fun _=>none⟩
def Maps.walk (mm:Maps) (r:Nat) (x:Nat×List Nat):Maps:=⟨mm.maps,fun j=>if j=r then some x else mm.iters j⟩
def tU (kd:TypeDesc) (k:Value):List (Value×AV)→Option (Option Nat)
 | []=>some none
 | (k',_)::c=>match az6 kd k k' with
  | some true=>some (some 0)
  | some false=>(tU kd k c).map fun r=>r.map (·+1)
  | none=>none
def aco:TypeDesc→Bool
 | .int _ | .string | .bool=>true
 | _=>false
def aaH (P:Program) (t:TypeId):Option AV:=((P.info? t).bind (·.zero)).bind fun z=>if tO z=true then some (.val z) else none
def xQ (P:Program) (t:TypeId):Option (TypeDesc×AV):=match P.underlying t with
 | some (.map k e)=>(P.underlying k).bind fun kd=>if aco kd=true then (aaH P e).map fun z=>(kd,z) else none
 | _=>none
def rA (m:aF):AV→Option (Nat×List (Value×AV))
 | .val (.map (some g))=>(m.mm.maps g).map fun c=>(g,c)
 | _=>none
def aaI (P:Program) (m:aF) (t:TypeId) (x k:AV):Option AV :=
 (xQ P t).bind fun ty=>(rA m x).bind fun a=>(i6 k).bind fun b=>(tU ty.1 b a.2).bind fun r=>match r with
  | some i=>(a.2[i]?).map (·.2)
  | none=>some ty.2
def xR (P:Program) (m:aF) (t:TypeId) (x k v:AV):Option bR :=
 (xQ P t).bind fun ty=>(rA m x).bind fun a=>(i6 k).bind fun b=>(tU ty.1 b a.2).bind fun r=>match r with
  | some i=>bL eN (m.setM (m.mm.set a.1 (a.2.set i (b,v))))
  | none=>bL eN (m.setM (m.mm.set a.1 (a.2++[(b,v)])))
def aaJ (m:aF):AV→Option (Nat×(Nat×List Nat)×List (Value×AV))
 | .val (.pointer (some ⟨r,0,none⟩))=>(m.mm.iters r).bind fun x=>(m.mm.maps x.1).map fun c=>(r,x,c)
 | _=>none
def acp (m:aF) (x:AV):Option AV:=(aaJ m x).bind fun i=>(i.2.1.2.getLast?).bind fun j=>(i.2.2[j]?).map fun e => .tup [.val e.1,e.2]
section
variable {P:Program} {w:World} {I:Nat→Prop} {ρ:cB} {m:aF}
theorem aqO {w:World} {g:Nat} {o:Obj} (h:w.heap[g]? = some o) (a:∀ arr ty fr,o ≠ .cells arr ty fr):w.shape? g=none:=by
 unfold World.shape?;rw [h];split
 ·rename_i b;cases b;exact absurd rfl (a _ _ _)
 ·rfl
theorem xS {w:World} {g x:Nat} {o:Obj} (h:x≠g):(setBlock w g o).heap[x]? = w.heap[x]? := by
 simp only [setBlock,Array.getElem?_setIfInBounds];rw [if_neg (fun e=>h e.symm)]
theorem agq {w:World} {g:Nat} {o:Obj} (h:g < w.heap.size):(setBlock w g o).heap[g]? = some o:=by
 simp [setBlock,h]
theorem jH.obj {mm:Maps} (h:jH P w I ρ mm) {g:Nat} (a:mm.has g):∃ o,w.heap[g]? = some o∧∀ arr ty fr,o ≠ .cells arr ty fr:=by
 rcases a with a | a
 ·obtain ⟨c,b⟩:=ayU.1 a;obtain ⟨_,i,f,_⟩:=h.mp g c b;exact ⟨_,f,fun _ _ _ h=>by cases h⟩
 ·obtain ⟨x,d⟩:=ayU.1 a;obtain ⟨_,c,_,e,_⟩:=h.it g x d;exact ⟨_,e,fun _ _ _ h=>by cases h⟩
theorem adQ (c:SR P w I ρ m) {g:Nat} (b:m.mm.has g) (o:Obj) (i:∀ arr ty fr,o ≠ .cells arr ty fr):iI w (setBlock w g o) I I:=by
 obtain ⟨j,d,f⟩:=c.mms.obj b;refine ⟨fun _ h=>h,fun x a=>xS (by rintro rfl;exact c.mms.im b a),fun x y a => ?_⟩;by_cases e:x=g
 ·subst e;rw [aqO d f] at a;cases a
 ·rw [tR (xS e)];exact a
theorem agr (c:SR P w I ρ m) {g:Nat} (j:m.mm.has g) (o:Obj) (q:∀ arr ty fr,o ≠ .cells arr ty fr) {mm':Maps} (n:jH P (setBlock w g o) I ρ mm') (e:∀ x,mm'.has x→m.mm.has x):SR P (setBlock w g o) I ρ (m.setM mm')∧cL w I ρ m (setBlock w g o) I ρ (m.setM mm'):=by
 have p:=adQ c j o q;refine ⟨⟨fun b k x y f d => ?_,c.inj,fun x a=>by simpa [setBlock] using c.lt x a,n⟩,⟨rfl,rfl,rfl,by simp [setBlock],fun x a s=>xS (by rintro rfl;exact s (.inr j)),p.shape,fun _ h=>h,fun _ h => .inl h,fun _ _ h=>h,fun b f d=>absurd f d,fun x a => ?_,ay7 _⟩⟩
 ·have i:=c.blk b k x y f d;refine sC p (fun _ _ h=>h) i (xS ?_) (fun r=>(i.wr r).1);rintro rfl;obtain ⟨arr,fr,l,_⟩:=i.cells;exact c.mms.not_cells j l
 ·rcases a with ⟨b,k,t,f,d,l⟩ | a
  ·exact .inl (.inl ⟨b,k,t,f,d,l⟩)
  ·exact .inl (.inr (e x a))
theorem ajs (i:SR P w I ρ m) (o:Obj) {mm':Maps} (n:jH P (w.alloc o) I ρ mm') (e:∀ x,mm'.has x→m.mm.has x∨x=w.heap.size):SR P (w.alloc o) I ρ (m.setM mm')∧cL w I ρ m (w.alloc o) I ρ (m.setM mm'):=by
 have a:∀ g,g < w.heap.size→(w.alloc o).heap[g]? = w.heap[g]? := fun g s=>by
  show (w.heap.push o)[g]? = _;rw [az7,if_neg (by omega)]
 have p:iI w (w.alloc o) I I:=⟨fun _ h=>h,fun x c=>a x (i.lt x c),fun x y c=>by rw [tR (a x (zF c))];exact c⟩
 refine ⟨⟨fun b k x y f d => ?_,i.inj,fun x c=>by have:=i.lt x c;simp;omega,n⟩,⟨rfl,rfl,rfl,by simp,fun x c _=>a x c,p.shape,fun _ h=>h,fun _ h => .inl h,fun _ _ h=>h,fun b f d=>absurd f d,fun x c => ?_,ay7 _⟩⟩
 ·have j:=i.blk b k x y f d;obtain ⟨arr,fr,l,_⟩:=j.cells;exact sC p (fun _ _ h=>h) j (a x (vU l)) (fun q=>(j.wr q).1)
 ·rcases c with ⟨b,k,r,f,d,l⟩ | c
  ·exact .inl (.inl ⟨b,k,r,f,d,l⟩)
  ·rcases e x c with h | h
   ·exact .inl (.inr h)
   ·exact .inr (by omega)
theorem ags (kd:TypeDesc) (k:Value):∀ (a:List MapEntry) (c:List (Value×AV)) (i:Nat),a.map az8=c.map az9→∀ r,tU kd k c=some r→aAa kd k a i=some (r.bind fun j=>(a[j]?).map fun e=>(i+j,e.val))
 | [],[],i,_,r,h=>by simp [tU] at h;subst h;rfl
 | e::a,(k',v)::c,i,hk,r,h=>by
  simp only [List.map_cons,aAb] at hk;obtain ⟨d,f⟩:=hk;unfold tU at h;unfold aAa;rw [d];split at h
  ·rename_i hs;rw [hs];cases h;simp
  ·rename_i hs;rw [hs];obtain ⟨g,b,rfl⟩:=ayR h;rw [ags kd k a c (i+1) f g b];cases g with
   | none=>rfl
   | some j=>simp [Nat.add_assoc,Nat.add_comm 1 j]
  ·cases h
 | [],_::_,i,hk,r,h=>by simp at hk
 | _::_,[],i,hk,r,h=>by simp at hk
theorem ajt {kd:TypeDesc} {k:Value}:∀ {c:List (Value×AV)} {i:Nat},tU kd k c=some (some i)→∃ a,c[i]? = some a∧az6 kd k a.1=some true
 | [],i,h=>by simp [tU] at h
 | (k',v)::c,i,h=>by
  unfold tU at h;split at h
  ·rename_i hs;cases h;exact ⟨_,rfl,hs⟩
  ·obtain ⟨g,b,d⟩:=ayR h;cases g with
   | none=>simp at d
   | some j =>
    simp at d;subst d;obtain ⟨a,e,f⟩:=ajt b;exact ⟨a,by simpa using e,f⟩
  ·cases h
theorem aqP {kd:TypeDesc} {a b:Value} (h:az6 kd a b=some true):a=b∧aAc 10000 b a=true:=by
 unfold az6 at h;split at h
 ·split at h
  ·rename_i c;subst c;simp at h;subst h;exact ⟨rfl,by simp [aAc]⟩
  ·cases h
 ·rename_i a b;have h:(a == b)=true:=by simpa using h
  have e:a=b:=(bytes_beq a b).1 h;subst e;exact ⟨rfl,by simp [aAc,(bytes_beq a a).2 rfl]⟩
 ·simp at h;subst h;exact ⟨rfl,by simp [aAc]⟩
 ·cases h
theorem agt {t:TypeId} {ty:TypeDesc×AV} (h:xQ P t=some ty):∃ k e,P.underlying t=some (.map k e)∧P.underlying k=some ty.1∧aco ty.1=true∧aaH P e=some ty.2:=by
 unfold xQ at h;split at h
 ·rename_i k e c;obtain ⟨kd,a,h⟩:=ayQ h;split at h
  ·rename_i d;obtain ⟨z,b,rfl⟩:=ayR h;exact ⟨k,e,c,a,d,b⟩
  ·cases h
 ·cases h
theorem acq {x:AV} {a:Nat×List (Value×AV)} (h:rA m x=some a):x = .val (.map (some a.1))∧m.mm.maps a.1=some a.2:=by
 unfold rA at h;split at h
 ·rename_i g;obtain ⟨c,b,rfl⟩:=ayR h;exact ⟨rfl,b⟩
 ·cases h
theorem aju {t:TypeId} {z:AV} (h:aaH P t=some z):∃ v,(zeroValue t).run P w = .ok v w∧VR P w I ρ z v:=by
 unfold aaH at h;obtain ⟨v,b,h⟩:=ayQ h;obtain ⟨i,hi,a⟩:=ayQ b;split at h
 ·cases h;exact ⟨v,by simp [zeroValue,typeInfo,hi,a],by simp only [VR]⟩
 ·cases h
theorem adR {a:TypeId} {kd:TypeDesc} (h:P.underlying a=some kd) (c:aco kd=true) (b:Bool) (k:Value):(aAd b 10000 a k).run P w = .ok () w:=by
 unfold aAd;cases kd <;> simp [aco] at c <;> simp [cW h]
theorem aqQ (O:SR P w I ρ m) {t:TypeId} {x k D:AV} (h:aaI P m t x k=some D) {B l:Value} (C:VR P w I ρ x B) (Q:VR P w I ρ k l):mK P w I ρ (aAe t B l false) D:=by
 unfold aaI at h;obtain ⟨ty,f,h⟩:=ayQ h;obtain ⟨u,n,h⟩:=ayQ h;obtain ⟨K,g,h⟩:=ayQ h;obtain ⟨r,R,h⟩:=ayQ h;obtain ⟨T,U,F,d,y,H⟩:=agt f;obtain ⟨rfl,G⟩:=acq n;have:=zD _ _ _ g Q;subst this;simp only [VR] at C;subst C;obtain ⟨_,q,A,N,S,L,J⟩:=O.mms.mp _ _ G;have a:q.toList.map az8=u.2.map az9:=by
  apply aAf;intro j;simpa using L j
 have c:=ags ty.1 l q.toList u.2 0 a r R;cases r with
 | none =>
  simp only [ayX] at h;subst h;obtain ⟨z,s,p⟩:=aju (w:=w) (I:=I) (ρ:=ρ) H;refine ⟨z, ?_,p⟩;simp only [Option.bind_none] at c;simp [aAe,cW F,getObj,Sem.run,A,adR d y,aAg,cW d,c,s]
 | some i =>
  simp only at h;obtain ⟨e,E,rfl⟩:=ayR h;have b:i < q.size:=by rw [N];exact (ay5.1 E).1
  obtain ⟨v,o,M⟩:=gQ J (j:=i) (by rw [azl,E];rfl);rw [azk b] at o;simp only [az3,ayX] at o;refine ⟨v, ?_,M⟩;rw [aAh,aAi,azk b,az3,o] at c;simp [aAe,cW F,getObj,Sem.run,A,adR d y,aAg,cW d,c]
theorem ajv {mm:Maps} {g:Nat} {c:List (Value×AV)} (a:mm.maps g≠none):∀ x,(mm.set g c).has x→mm.has x:=by
 rintro x (h | h)
 ·unfold Maps.set at h;simp only at h;split at h
  ·rename_i e;subst e;exact .inl a
  ·exact .inl h
 ·exact absurd rfl h
theorem agu {w:World} {g:Nat} {b:Array MapEntry} {a:Nat} (o:Obj) (c:w.heap[g]? = some (.map b a)):(setObj g o).run P w = .ok () (setBlock w g o):=MapKept.run_setObj_map o c
theorem aqR (M:SR P w I ρ m) {t:TypeId} {x k v:AV} {out:bR} (h:xR P m t x k v=some out) {xv n vv:Value} (hx:VR P w I ρ x xv) (hk:VR P w I ρ k n) (hv:VR P w I ρ v vv) (addr:Value):iK P w I ρ m ((aAj t xv n vv).run P w) (fun _=>undef) out addr:=by
 unfold xR at h;obtain ⟨ty,X,h⟩:=ayQ h;obtain ⟨o,a1,h⟩:=ayQ h;obtain ⟨a5,a0,h⟩:=ayQ h;obtain ⟨r,U,h⟩:=ayQ h;obtain ⟨kt,et,h1,V,h3,h4⟩:=agt X;obtain ⟨rfl,W⟩:=acq a1;have:=zD _ _ _ a0 hk;subst this;simp only [VR] at hx;subst hx;obtain ⟨a4,f,T,F,Y,S,e5⟩:=M.mms.mp _ _ W;have q:m.mm.has o.1 := .inl (by rw [W];simp);have K:=M.mms.lt q;have B:f.toList.map az8=o.2.map az9:=by
  apply aAf;intro j;simpa using S j
 have R:=ags ty.1 n f.toList o.2 0 B r U;have J:∀ (a:Array MapEntry) (G:List (Value×AV)),a.size=G.length→(∀ (j:Nat) (e:MapEntry),a[j]? = some e→e.born=j)→(∀ j:Nat,(a[j]?).map az8=(G[j]?).map az9)→bC P w I ρ (G.map Prod.snd) (fun j=>(a[j]?).map MapEntry.val) →
  SR P (setBlock w o.1 (.map a a.size)) I ρ (m.setM (m.mm.set o.1 G))∧cL w I ρ m (setBlock w o.1 (.map a a.size)) I ρ (m.setM (m.mm.set o.1 G)):=by
  intro a G q1 q2 q3 q4;have ho:∀ arr ty fr,Obj.map a a.size ≠ .cells arr ty fr:=fun _ _ _ h=>by cases h
  have Q:=adQ M q (.map a a.size) ho;refine agr M q _ ho ⟨fun g c O => ?_,fun r x U=>by cases U⟩ (ajv (by rw [W];simp));unfold Maps.set at O;simp only at O;split at O
  ·rename_i e;subst e;cases O;exact ⟨a4,a,agq K,q1,q2,q3,eL Q (fun _ _ h=>h) _ _ q4⟩
  ·rename_i Z;obtain ⟨u1,u,u2,u3,u4,u5,u6⟩:=M.mms.mp g c O;exact ⟨u1,u,by rw [xS Z];exact u2,u3,u4,u5,eL Q (fun _ _ h=>h) _ _ u6⟩
 cases r with
 | none =>
  simp only [zak] at h;subst h;simp only [Option.bind_none] at R;obtain ⟨s1,s2⟩:=J (f.push { key:=n,val:=vv,born:=f.size }) (o.2++[(n,v)]) (by simp [F]) (fun j e A=>by
   rw [az7] at A;split at A
   ·rename_i b;cases A;exact b.symm
   ·exact Y j e A) (fun j=>by
   rw [az7];split
   ·rename_i b;rw [b,F,aze (ay7 _)];simp
   ·rename_i b;rw [S j];by_cases p:j < o.2.length
    ·rw [azd p]
    ·rw [ay3 (by omega),ay3 (by simp;omega)]) (by
   refine j6.2 fun j c b => ?_
   rw [List.map_append] at b;by_cases p:j < (o.2.map Prod.snd).length
   ·rw [azd p] at b;obtain ⟨u,h6,h7⟩:=gQ e5 b;have:j≠f.size:=by rw [F];simp at p;omega
    exact ⟨u,by simp only [az7,if_neg this];exact h6,h7⟩
   ·rw [aze (by omega)] at b;have a3:j=f.size:=by
     have:=(ay5.1 b).1;simp at this p;omega
    subst a3;simp [F] at b;subst b;exact ⟨vv,by simp,hv⟩)
  refine ⟨(),_,I,ρ, ?_,by simp only [eN,undef,VR],s1,s2,fun d y h=>by cases h⟩;simp [aAj,cW h1,getObj,Sem.run,T,adR V h3,aAg,cW V,R,agu _ T]
 | some i =>
  simp only [zak] at h;subst h;obtain ⟨kw,L,D⟩:=ajt U;obtain ⟨H,z⟩:=aqP D;have E:=(ay5.1 L).1;have l:i < f.size:=by rw [F];exact E
  have N:f[i].key=n:=by
   have:=S i;rw [azk l,L] at this;simp only [az3,ayX] at this;rw [this,←H]
  rw [←H] at z;rw [aAh,aAi,azk l,az3,Nat.zero_add] at R;have s:∀ j:Nat,(f.modify i fun e=>{ e with key:=n,val:=vv })[j]? = if i=j then (f[j]?).map (fun e=>{ e with key:=n,val:=vv }) else f[j]? := fun j=>by
   rw [Array.getElem?_modify]
  obtain ⟨s1,s2⟩:=J (f.modify i fun e=>{ e with key:=n,val:=vv }) (o.2.set i (n,v)) (by simp [F]) (fun j e A=>by
   rw [s] at A;split at A
   ·obtain ⟨e0,h0,rfl⟩:=ayR A;exact Y j e0 h0
   ·exact Y j e A) (fun j=>by
   rw [s,aAk];split
   ·rename_i b;subst b
    first | rw [if_pos E,azk l] | rw [azk l]
    rfl
   ·exact S j) (by
   refine j6.2 fun j c b => ?_
   rw [azl,aAk] at b;simp only [s];split at b
   ·rename_i C;subst C
    try rw [if_pos E] at b
    simp only [az3,ayX] at b;subst b;exact ⟨vv,by rw [if_pos rfl,azk l];rfl,hv⟩
   ·rename_i C;rw [if_neg C];exact gQ e5 (by rw [azl];exact b))
  refine ⟨(),_,I,ρ, ?_,by simp only [eN,undef,VR],s1,s2,fun d y h=>by cases h⟩;have a2:(Instr.keyThatStays f[i].key n).run P w = .ok n w:=by
   rw [N];simp [Instr.keyThatStays,z]
  simp [aAj,cW h1,getObj,Sem.run,T,adR V h3,aAg,cW V,R,azk l,a2,agu _ T]
theorem ajw {x:AV} {i:Nat×(Nat×List Nat)×List (Value×AV)} (h:aaJ m x=some i):x = .val (.pointer (some ⟨i.1,0,none⟩))∧m.mm.iters i.1=some i.2.1∧m.mm.maps i.2.1.1=some i.2.2:=by
 unfold aaJ at h;split at h
 ·rename_i r;obtain ⟨y,a,h⟩:=ayQ h;obtain ⟨c,b,rfl⟩:=ayR h;exact ⟨rfl,a,b⟩
 ·cases h
theorem aqS {a:Array MapEntry} (h:∀ (j:Nat) (e:MapEntry),a[j]? = some e→e.born=j):(a.toList.map (·.born)).Nodup:=by
 have:a.toList.map (·.born)=List.range a.size:=by
  apply aAf;intro j;rw [azl,aAi];by_cases b:j < a.size
  ·rw [azk b,List.getElem?_range b];simp [h j a[j] (azk b)]
  ·rw [Array.getElem?_eq_none (by omega),ay3 (by simp;omega)];rfl
 rw [this];exact List.nodup_range
theorem aqT (s:SR P w I ρ m) {x u:AV} (h:acp m x=some u) {q:Value} (t:VR P w I ρ x q):mK P w I ρ (Instr.entry q) u:=by
 unfold acp at h;obtain ⟨i,hi,h⟩:=ayQ h;obtain ⟨j,D,h⟩:=ayQ h;obtain ⟨e,n,rfl⟩:=ayR h;obtain ⟨rfl,G,y⟩:=ajw hi;simp only [VR] at t;subst t;obtain ⟨_,c,p,E,_⟩:=s.mms.it _ _ G;rw [y] at p;cases p;obtain ⟨_,b,B,r,o,A,z⟩:=s.mms.mp _ _ y;have d:j < b.size:=by rw [r];exact (ay5.1 n).1
 have H:b[j].born=j:=o j _ (azk d);obtain ⟨v,g,C⟩:=gQ z (j:=j) (by rw [azl,n];rfl);rw [azk d] at g;simp only [az3,ayX] at g;have k:=A j;rw [azk d,n] at k;simp only [az3,ayX] at k;have a:i.2.1.2=i.2.1.2.dropLast++[j]:=by
  obtain ⟨l,F⟩:=List.getLast?_eq_some_iff.1 D;rw [F];simp
 have f:=run_entry_at (P:=P) w i.1 i.2.1.1 i.2.2.length i.2.1.2.dropLast.toArray b b.size b[j] (by rw [E,H,r];congr 2;rw [a];simp) B (by simp) (aqS o);refine ⟨_,f, ?_⟩;simp only [VR];refine ⟨#[b[j].key,b[j].val],rfl,rfl, ?_⟩;simp only [bC];exact ⟨⟨_,rfl,by simp only [VR];exact k⟩,⟨_,rfl,by rw [g];exact C⟩,trivial⟩
def Maps.add (mm:Maps) (g:Nat):Maps:=⟨fun j=>if j=g then some [] else mm.maps j,mm.iters⟩
def aaK (m:aF) (K:bR→Prop):Prop:=∀ g,¬ m.mm.has g→K ⟨.val (.map (some g)),m.setM (m.mm.add g),none⟩
def aaL (P:Program) (m:aF) (t:TypeId) (x:AV) (K:bR→Prop):Prop:=∃ a,(xQ P t).isSome=true∧rA m x=some a∧∀ r,¬ m.mm.has r→K ⟨.val (.pointer (some ⟨r,0,none⟩)),m.setM (m.mm.walk r (a.1,[])),none⟩
def aaM (m:aF) (x:AV) (K:bR→Prop):Prop:=∃ i,aaJ m x=some i∧((∀ j,j < i.2.2.length→j∈i.2.1.2)→K ⟨.tup [.val (.bool false)],m,none⟩)∧∀ j e,i.2.2[j]? = some e→j ∉ i.2.1.2→K ⟨.tup [.val (.bool true),.val e.1,e.2],m.setM (m.mm.walk i.1 (i.2.1.1,i.2.1.2++[j])),none⟩
theorem ajx (c:SR P w I ρ m) (o:Obj):iI w (w.alloc o) I I:=by
 have a:∀ g,g < w.heap.size→(w.alloc o).heap[g]? = w.heap[g]? := fun g d=>by
  show (w.heap.push o)[g]? = _;rw [az7,if_neg (by omega)]
 exact ⟨fun _ h=>h,fun x b=>a x (c.lt x b),fun x y b=>by rw [tR (a x (zF b))];exact b⟩
theorem adS {w:World} {o:Obj} {g:Nat} (a:g < w.heap.size):(w.alloc o).heap[g]? = w.heap[g]? := by
 show (w.heap.push o)[g]? = _;rw [az7,if_neg (by omega)]
theorem ajy {w:World} {o:Obj}:(w.alloc o).heap[w.heap.size]? = some o:=by
 show (w.heap.push o)[w.heap.size]? = _;simp
theorem aqU (a:SR P w I ρ m) {t:TypeId} {K:bR→Prop} (h:aaK m K) (addr:Value):∃ out,K out∧out.wb=none∧iK P w I ρ m ((Instr.makeMap t none).run P w) id out addr:=by
 refine ⟨_,h w.heap.size (fun q=>by have:=a.mms.lt q;omega),rfl, ?_⟩;have A:=ajx a (.map #[] 0);obtain ⟨v,s⟩:=ajs a (.map #[] 0) (mm':=m.mm.add w.heap.size) ⟨fun g c f=>by
  unfold Maps.add at f;simp only at f;split at f
  ·rename_i e;subst e;cases f;exact ⟨fun hi=>by have:=a.lt _ hi;omega,#[],ajy,rfl,fun j e h=>by simp at h,fun j=>by simp,by simp only [List.map_nil,bC]⟩
  ·have n:=a.mms.lt (g:=g) (.inl (by rw [f];simp));obtain ⟨k,u,i,l,o,z,C⟩:=a.mms.mp g c f;exact ⟨k,u,by rw [adS n];exact i,l,o,z,eL A (fun _ _ h=>h) _ _ C⟩,fun r x p=>by
  have n:=a.mms.lt (g:=r) (.inr (by rw [show m.mm.iters r=some x from p];simp));obtain ⟨k,c,i,l,o⟩:=a.mms.it r x p;have B:=a.mms.lt (g:=x.1) (.inl (by rw [i];simp));refine ⟨k,c, ?_,by rw [adS n];exact l,o⟩;unfold Maps.add;simp only;rw [if_neg (by omega)];exact i⟩ (fun x b=>by
  rcases b with b | b
  ·unfold Maps.add at b;simp only at b;split at b
   ·rename_i e;exact .inr e
   ·exact .inl (.inl b)
  ·exact .inl (.inr b))
 exact ⟨.map (some w.heap.size),_,I,ρ,by simp [Instr.makeMap],by simp only [id,VR],v,s,fun d y h=>by cases h⟩
theorem aqV (b:SR P w I ρ m) {t:TypeId} {x:AV} {K:bR→Prop} (h:aaL P m t x K) {A:Value} (a:VR P w I ρ x A) (addr:Value):∃ out,K out∧out.wb=none∧iK P w I ρ m ((Instr.range t A).run P w) id out addr:=by
 obtain ⟨l,f,o,h⟩:=h;obtain ⟨ty,f⟩:=aAl.1 f;obtain ⟨S,V,N,_⟩:=agt f;obtain ⟨rfl,C⟩:=acq o;simp only [VR] at a;subst a;obtain ⟨O,n,F,J,R,U,T⟩:=b.mms.mp _ _ C;have k:¬ m.mm.has w.heap.size:=fun D=>by have:=b.mms.lt D;omega
 refine ⟨_,h w.heap.size k,rfl, ?_⟩;have M:=ajx b (.mapIter (some l.1) n.size #[] n.size);obtain ⟨H,E⟩:=ajs b (.mapIter (some l.1) n.size #[] n.size) (mm':=m.mm.walk w.heap.size (l.1,[])) ⟨fun g c B=>by
  have v:=b.mms.lt (g:=g) (.inl (by rw [show m.mm.maps g=some c from B];simp));obtain ⟨p,u,z,s,q,L,Q⟩:=b.mms.mp g c B;exact ⟨p,u,by rw [adS v];exact z,s,q,L,eL M (fun _ _ h=>h) _ _ Q⟩,fun r x i=>by
  unfold Maps.walk at i;simp only at i;split at i
  ·rename_i e;subst e;cases i;exact ⟨fun hi=>by have:=b.lt _ hi;omega,l.2,C,by rw [ajy,J],List.nodup_nil,fun j G=>by cases G⟩
  ·have v:=b.mms.lt (g:=r) (.inr (by rw [i];simp));obtain ⟨p,c,z,s,q⟩:=b.mms.it r x i;exact ⟨p,c,z,by rw [adS v];exact s,q⟩⟩ (fun x a=>by
  rcases a with a | a
  ·exact .inl (.inl a)
  ·unfold Maps.walk at a;simp only at a;split at a
   ·rename_i e;exact .inr e
   ·exact .inl (.inr a))
 exact ⟨.pointer (some ⟨w.heap.size,0,none⟩),_,I,ρ,by simp [Instr.range,cW N,getObj,Sem.run,F],by simp only [id,VR],H,E,fun d y h=>by cases h⟩
theorem aqW (M:SR P w I ρ m) {ty:TypeId} {x:AV} {K:bR→Prop} (h:aaM m x K) {xv:Value} (z:VR P w I ρ x xv) (addr:Value):∃ out,K out∧out.wb=none∧iK P w I ρ m ((Instr.next xv false ty).run P w) id out addr:=by
 obtain ⟨⟨r,⟨g,f⟩,c⟩,hi,p,o⟩:=h;obtain ⟨rfl,Q,F⟩:=ajw hi;simp only at Q F p o;simp only [VR] at z;subst z;obtain ⟨a1,U,Y,q2,q3,q4⟩:=M.mms.it _ _ Q;simp only at Y q2 q3 q4;rw [F] at Y;cases Y;obtain ⟨_,s,e1,e2,W,e4,e5⟩:=M.mms.mp _ _ F;rcases run_next_at (P:=P) w ty r g c.length c.length f.toArray s s.size q2 e1 (fun x z=>by
  obtain ⟨j,T⟩:=List.getElem?_of_mem z;rw [aAi] at T;rw [W j x T];have:=(Array.getElem?_eq_some_iff.1 T).1;omega) (ay7 _) with ⟨h0,hrun⟩ | ⟨e,he,w1,hw1,hrun⟩
 ·refine ⟨_,p fun j T => ?_,rfl, ?_⟩
  ·by_cases hm:j∈f
   ·exact hm
   ·exfalso;have q:j < s.size:=by omega
    have V:s[j].born=j:=W j _ (azk q);have:s[j]∈leftOf s f.toArray:=by
     unfold leftOf;rw [Array.mem_filter];exact ⟨by simp,by simp [V,hm]⟩
    rw [Array.eq_empty_of_size_eq_zero h0] at this;simp at this
  ·refine ⟨_,w,I,ρ,hrun, ?_,M,cL.refl _ _ _ _,fun d y h=>by cases h⟩;simp only [id,VR];refine ⟨#[.bool false],rfl,rfl, ?_⟩;simp only [bC];exact ⟨⟨.bool false,rfl,by simp only [VR]⟩,trivial⟩
 ·have A:e∈leftOf s f.toArray:=by simpa using he
  unfold leftOf at A;rw [Array.mem_filter] at A;obtain ⟨G,H⟩:=A;obtain ⟨j,q,E⟩:=Array.mem_iff_getElem.1 G;have V:e.born=j:=W j e (by rw [azk q,E]);have J:j ∉ f:=by
   rw [V] at H;simpa using H
  obtain ⟨X,C⟩:∃ X,c[j]? = some X:=⟨_,List.getElem?_eq_getElem (by omega)⟩
  obtain ⟨v,Z,h7⟩:=gQ e5 (j:=j) (by rw [azl,C];rfl);rw [azk q,E] at Z;simp only [az3,ayX] at Z;have hk:=e4 j;rw [azk q,C,E] at hk;simp only [az3,ayX] at hk;have k:SR P w1 I ρ m∧cL w I ρ m w1 I ρ m∧w1.heap=w.heap:=by
   rcases hw1 with rfl | rfl
   ·exact ⟨M,cL.refl _ _ _ _,rfl⟩
   ·exact ⟨ajd M,⟨rfl,rfl,rfl,ay7 _,fun _ _ _=>rfl,fun _ _ h=>h,fun _ h=>h,fun _ h => .inl h,fun _ _ h=>h,fun b Q F=>absurd Q F,fun _ h => .inl h,ay7 _⟩,rfl⟩
  obtain ⟨k,L,n⟩:=k;have l:m.mm.has r := .inr (by rw [Q];simp);have ho:∀ arr ty fr,Obj.mapIter (some g) c.length (f.toArray.push e.born) s.size ≠ .cells arr ty fr:=fun _ _ _ h=>by cases h
  have D:=adQ k l _ ho;have a0:=k.mms.lt l;obtain ⟨s1,s2⟩:=agr k l _ ho (mm':=m.mm.walk r (g,f++[j])) ⟨fun g' U hg=>by
   obtain ⟨u1,u,R,u3,u4,u5,u6⟩:=k.mms.mp g' U hg;have B:g'≠r:=by
    rintro rfl;rw [n,q2] at R;cases R
   exact ⟨u1,u,by rw [xS B];exact R,u3,u4,u5,eL D (fun _ _ h=>h) _ _ u6⟩,fun r' x' N=>by
   unfold Maps.walk at N;simp only at N;split at N
   ·rename_i e';subst e';cases N;refine ⟨a1,c,F, ?_, ?_,fun i hi => ?_⟩
    ·rw [agq a0,V,e2];simp
    ·exact List.nodup_append.2 ⟨q3,by simp,fun a ha b O=>by simp at O;subst O;rintro rfl;exact J ha⟩
    ·simp at hi;rcases hi with hi | rfl
     ·exact q4 i hi
     ·omega
   ·rename_i B;obtain ⟨u1,U,R,u3,u4⟩:=k.mms.it r' x' N;exact ⟨u1,U,R,by rw [xS B];exact u3,u4⟩⟩ (fun y t=>by
   rcases t with t | t
   ·exact .inl t
   ·unfold Maps.walk at t;simp only at t;split at t
    ·rename_i e';rw [e'];exact l
    ·exact .inr t)
  refine ⟨_,o j X C J,rfl, ?_⟩;refine ⟨_,_,I,ρ,hrun, ?_,s1,L.trans s2,fun d y h=>by cases h⟩;have S:iI w (setBlock w1 r (.mapIter (some g) c.length (f.toArray.push e.born) s.size)) I I:=⟨fun _ h=>h,fun x z=>by rw [D.same x z,n],fun x y z=>D.shape x y (L.shape x y z)⟩
  simp only [id,VR];refine ⟨#[.bool true,e.key,e.val],rfl,rfl, ?_⟩;simp only [bC];exact ⟨⟨.bool true,rfl,by simp only [VR]⟩,⟨e.key,rfl,by simp only [VR];exact hk⟩,⟨e.val,rfl,p9 S (fun _ _ h=>h) _ _ (by rw [Z];exact h7)⟩,trivial⟩
end
end Go.Tw
namespace Go.Tw
open Go Go.ChangeMaps
def tV (P:Program) (a:TypeId) (k:Value):List (Value×AV)→Option (Option Nat)
 | []=>some none
 | (k',_)::c=>match cF P (Op.equal a k k') with
  | some true=>some (some 0)
  | some false=>(tV P a k c).map fun r=>r.map (·+1)
  | none=>none
def aqX (P:Program) (a:TypeId) (k:Value):Prop:=∀ b,cF P (aAd b 10000 a k)=some ()
def acr (P:Program) (a:TypeId) (k:Value):Bool:=(cF P (aAd true 10000 a k)).isSome && (cF P (aAd false 10000 a k)).isSome
def agv (P:Program) (a:TypeId):Bool:=match P.underlying a with | some (.struct _)=>true | _=>false
def xT (P:Program) (t:TypeId):Option (TypeId×AV):=match P.underlying t with
 | some (.map k e)=>if agv P k=true then (aaH P e).map fun z=>(k,z) else none
 | _=>none
def acs (P:Program) (m:aF) (t:TypeId) (x k:AV):Option AV :=
 (xT P t).bind fun ty=>(rA m x).bind fun a=>(i6 k).bind fun b=>if acr P ty.1 b=true then (tV P ty.1 b a.2).bind fun r=>match r with
  | some i=>(a.2[i]?).map (·.2)
  | none=>some ty.2
 else none
def aaN (P:Program) (m:aF) (t:TypeId) (x k v:AV):Option bR :=
 (xT P t).bind fun ty=>(rA m x).bind fun a=>(i6 k).bind fun b=>if acr P ty.1 b=true then (tV P ty.1 b a.2).bind fun r=>match r with
  | some _=>none
  | none=>bL eN (m.setM (m.mm.set a.1 (a.2++[(b,v)])))
 else none
def vW (P:Program) (m:aF) (t:TypeId) (x k:AV):Option AV:=match aaI P m t x k with
 | some v=>some v
 | none=>acs P m t x k
def tW (P:Program) (m:aF) (t:TypeId) (x k v:AV):Option bR:=match xR P m t x k v with
 | some o=>some o
 | none=>aaN P m t x k v
theorem aqY {P:Program} {m:aF} {t:TypeId} {x k v:AV} (h:aaI P m t x k=some v):vW P m t x k=some v:=by unfold vW;rw [h]
theorem ajz {P:Program} {m:aF} {t:TypeId} {x k v:AV} {o:bR} (h:xR P m t x k v=some o):tW P m t x k v=some o:=by unfold tW;rw [h]
theorem aqZ {P:Program} {b:TypeId} (h:agv P b=true):∃ a,P.underlying b=some (.struct a):=by
 unfold agv at h;split at h
 ·rename_i a c;exact ⟨a,c⟩
 ·cases h
theorem agw {P:Program} {t:TypeId} {ty:TypeId×AV} (h:xT P t=some ty):∃ e,P.underlying t=some (.map ty.1 e)∧(∃ d,P.underlying ty.1=some (.struct d))∧aaH P e=some ty.2:=by
 unfold xT at h;split at h
 ·rename_i k e b;split at h
  ·rename_i c;obtain ⟨z,a,rfl⟩:=ayR h;exact ⟨e,b,aqZ c,a⟩
  ·cases h
 ·cases h
theorem ajA {P:Program} {t:TypeId} (h:(xT P t).isSome=true):xQ P t=none:=by
 obtain ⟨ty,a⟩:=aAl.1 h;obtain ⟨e,c,⟨d,b⟩,_⟩:=agw a;unfold xQ;rw [c];simp [b,aco]
theorem aq0 {P:Program} {m:aF} {t:TypeId} {x k:AV} (h:(xT P t).isSome=true):vW P m t x k=acs P m t x k:=by
 unfold vW aaI;rw [ajA h];rfl
theorem aq1 {P:Program} {m:aF} {t:TypeId} {x k v:AV} (h:(xT P t).isSome=true):tW P m t x k v=aaN P m t x k v:=by
 unfold tW xR;rw [ajA h];rfl
section
variable {P:Program} {w:World} {I:Nat→Prop} {ρ:cB} {m:aF}
theorem ajB {a:TypeId} {k:Value} (h:acr P a k=true):aqX P a k:=by
 unfold acr at h;rw [Bool.and_eq_true,aAl,aAl] at h;obtain ⟨⟨u,c⟩,⟨v,d⟩⟩:=h;intro b;cases b
 ·rw [d]
 ·rw [c]
theorem ajC {g:TypeId} (k:Value):∀ (a:List MapEntry) (c:List (Value×AV)) (i:Nat),a.map az8=c.map az9→∀ r,tV P g k c=some r→(Instr.findAsking g k a i).run P w = .ok (r.bind fun j=>(a[j]?).map fun e=>(i+j,e.val)) w
 | [],[],i,_,r,h=>by simp [tV] at h;subst h;simp [Instr.findAsking]
 | e::a,(k',v)::c,i,hk,r,h=>by
  simp only [List.map_cons,aAb] at hk;obtain ⟨d,f⟩:=hk;unfold tV at h;unfold Instr.findAsking;rw [d];split at h
  ·rename_i hs;cases h;simp [sA P _ _ hs]
  ·rename_i hs;obtain ⟨l,b,rfl⟩:=ayR h;have m:=ajC k a c (i+1) f l b;simp [sA P _ _ hs,m];cases l with
   | none=>rfl
   | some j=>simp [Nat.add_assoc,Nat.add_comm 1 j]
  ·cases h
 | [],_::_,i,hk,r,h=>by simp at hk
 | _::_,[],i,hk,r,h=>by simp at hk
theorem ajD {d:TypeId} (b:∃ f,P.underlying d=some (.struct f)) (k:Value) (a:List MapEntry) (c:List (Value×AV)) (g:a.map az8=c.map az9) (r:Option Nat) (h:tV P d k c=some r):(aAg d k a).run P w = .ok (r.bind fun j=>(a[j]?).map fun e=>(j,e.val)) w:=by
 obtain ⟨f,b⟩:=b;have i:=ajC (P:=P) (w:=w) k a c 0 g r h;simp only [Nat.zero_add] at i;cases a with
 | nil =>
  cases c with
  | nil=>simp [tV] at h;subst h;simp [aAg,cW b,aAa]
  | cons x c=>simp at g
 | cons e a =>
  have l:aAa (.struct f) k (e::a) 0=none:=by simp [aAa,az6]
  simp [aAg,cW b,l,i]
theorem aq2 (O:SR P w I ρ m) {t:TypeId} {x k D:AV} (h:acs P m t x k=some D) {B l:Value} (C:VR P w I ρ x B) (Q:VR P w I ρ k l):mK P w I ρ (aAe t B l false) D:=by
 unfold acs at h;obtain ⟨ty,f,h⟩:=ayQ h;obtain ⟨y,n,h⟩:=ayQ h;obtain ⟨K,g,h⟩:=ayQ h;split at h
 case isFalse=>cases h
 rename_i u;obtain ⟨r,R,h⟩:=ayQ h;obtain ⟨U,F,S,H⟩:=agw f;obtain ⟨rfl,G⟩:=acq n;have:=zD _ _ _ g Q;subst this;have c:=ajB u;simp only [VR] at C;subst C;obtain ⟨_,q,A,N,T,L,J⟩:=O.mms.mp _ _ G;have a:q.toList.map az8=y.2.map az9:=by
  apply aAf;intro j;simpa using L j
 have d:=ajD (w:=w) S l q.toList y.2 a r R;cases r with
 | none =>
  simp only [ayX] at h;subst h;obtain ⟨z,s,p⟩:=aju (w:=w) (I:=I) (ρ:=ρ) H;refine ⟨z, ?_,p⟩;simp only [Option.bind_none] at d;simp [aAe,cW F,getObj,Sem.run,A,sA P _ _ (c _),d,s]
 | some i =>
  simp only at h;obtain ⟨e,E,rfl⟩:=ayR h;have b:i < q.size:=by rw [N];exact (ay5.1 E).1
  obtain ⟨v,o,M⟩:=gQ J (j:=i) (by rw [azl,E];rfl);rw [azk b] at o;simp only [az3,ayX] at o;refine ⟨v, ?_,M⟩;rw [aAh,aAi,azk b,az3,o] at d;simp [aAe,cW F,getObj,Sem.run,A,sA P _ _ (c _),d]
theorem aq3 (A:SR P w I ρ m) {t:TypeId} {x k v:AV} {out:bR} (h:aaN P m t x k v=some out) {U s vv:Value} (W:VR P w I ρ x U) (hk:VR P w I ρ k s) (hv:VR P w I ρ v vv) (addr:Value):iK P w I ρ m ((aAj t U s vv).run P w) (fun _=>undef) out addr:=by
 unfold aaN at h;obtain ⟨ty,G,h⟩:=ayQ h;obtain ⟨n,L,h⟩:=ayQ h;obtain ⟨a0,J,h⟩:=ayQ h;split at h
 case isFalse=>cases h
 rename_i R;obtain ⟨r,N,h⟩:=ayQ h;obtain ⟨et,h1,h2,h4⟩:=agw G;obtain ⟨rfl,F⟩:=acq L;have:=zD _ _ _ J hk;subst this;have O:=ajB R;simp only [VR] at W;subst W;obtain ⟨Q,p,T,D,Y,S,Z⟩:=A.mms.mp _ _ F;have f:m.mm.has n.1 := .inl (by rw [F];simp);have z:=A.mms.lt f;have o:p.toList.map az8=n.2.map az9:=by
  apply aAf;intro j;simpa using S j
 have X:=ajD (w:=w) h2 s p.toList n.2 o r N;have K:∀ (a:Array MapEntry) (q:List (Value×AV)),a.size=q.length→(∀ (j:Nat) (e:MapEntry),a[j]? = some e→e.born=j)→(∀ j:Nat,(a[j]?).map az8=(q[j]?).map az9)→bC P w I ρ (q.map Prod.snd) (fun j=>(a[j]?).map MapEntry.val) →
  SR P (setBlock w n.1 (.map a a.size)) I ρ (m.setM (m.mm.set n.1 q))∧cL w I ρ m (setBlock w n.1 (.map a a.size)) I ρ (m.setM (m.mm.set n.1 q)):=by
  intro a q q1 q2 q3 q4;have V:∀ arr ty fr,Obj.map a a.size ≠ .cells arr ty fr:=fun _ _ _ h=>by cases h
  have C:=adQ A f (.map a a.size) V;refine agr A f _ V ⟨fun g c B => ?_,fun r x N=>by cases N⟩ (ajv (by rw [F];simp));unfold Maps.set at B;simp only at B;split at B
  ·rename_i e;subst e;cases B;exact ⟨Q,a,agq z,q1,q2,q3,eL C (fun _ _ h=>h) _ _ q4⟩
  ·rename_i H;obtain ⟨u1,u,u2,u3,u4,u5,u6⟩:=A.mms.mp g c B;exact ⟨u1,u,by rw [xS H];exact u2,u3,u4,u5,eL C (fun _ _ h=>h) _ _ u6⟩
 cases r with
 | none =>
  simp only [zak] at h;subst h;obtain ⟨s1,s2⟩:=K (p.push { key:=s,val:=vv,born:=p.size }) (n.2++[(s,v)]) (by simp [D]) (fun j e E=>by
   rw [az7] at E;split at E
   ·rename_i b;cases E;exact b.symm
   ·exact Y j e E) (fun j=>by
   rw [az7];split
   ·rename_i b;rw [b,D,aze (ay7 _)];simp
   ·rename_i b;rw [S j];by_cases l:j < n.2.length
    ·rw [azd l]
    ·rw [ay3 (by omega),ay3 (by simp;omega)]) (by
   refine j6.2 fun j c b => ?_
   rw [List.map_append] at b;by_cases l:j < (n.2.map Prod.snd).length
   ·rw [azd l] at b;obtain ⟨u,h6,h7⟩:=gQ Z b;have:j≠p.size:=by rw [D];simp at l;omega
    exact ⟨u,by simp only [az7,if_neg this];exact h6,h7⟩
   ·rw [aze (by omega)] at b;have M:j=p.size:=by
     have:=(ay5.1 b).1;simp at this l;omega
    subst M;simp [D] at b;subst b;exact ⟨vv,by simp,hv⟩)
  refine ⟨(),_,I,ρ, ?_,by simp only [eN,undef,VR],s1,s2,fun d y h=>by cases h⟩;simp [aAj,cW h1,getObj,Sem.run,T,sA P _ _ (O _),X,agu _ T]
 | some i=>cases h
theorem aq4 (c:SR P w I ρ m) {t:TypeId} {x k d:AV} (h:vW P m t x k=some d) {f a:Value} (b:VR P w I ρ x f) (e:VR P w I ρ k a):mK P w I ρ (aAe t f a false) d:=by
 unfold vW at h;split at h
 ·rename_i v g;cases h;exact aqQ c g b e
 ·exact aq2 c h b e
theorem aq5 (c:SR P w I ρ m) {t:TypeId} {x k v:AV} {out:bR} (h:tW P m t x k v=some out) {f a vv:Value} (b:VR P w I ρ x f) (d:VR P w I ρ k a) (e:VR P w I ρ v vv) (addr:Value):iK P w I ρ m ((aAj t f a vv).run P w) (fun _=>undef) out addr:=by
 unfold tW at h;split at h
 ·rename_i o g;cases h;exact aqR c g b d e addr
 ·exact aq3 c h b d e addr
theorem aq6 {t:TypeId} {x k v:AV} {out:bR} (h:tW P m t x k v=some out):out.wb=none:=by
 unfold tW at h;split at h
 ·rename_i o a;cases h;unfold xR at a;obtain ⟨_,_,a⟩:=ayQ a;obtain ⟨_,_,a⟩:=ayQ a;obtain ⟨_,_,a⟩:=ayQ a;obtain ⟨_,_,a⟩:=ayQ a;split at a <;> (simp only [zak] at a;subst a;rfl)
 ·unfold aaN at h;obtain ⟨_,_,h⟩:=ayQ h;obtain ⟨_,_,h⟩:=ayQ h;obtain ⟨_,_,h⟩:=ayQ h;split at h
  case isFalse=>cases h
  obtain ⟨_,_,h⟩:=ayQ h;split at h
  ·cases h
  ·simp only [zak] at h;subst h;rfl
end
end Go.Tw