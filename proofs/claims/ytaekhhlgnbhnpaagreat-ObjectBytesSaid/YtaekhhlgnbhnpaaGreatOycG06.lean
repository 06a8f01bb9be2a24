import Derived.Test.YtaekhhlgnbhnpaaGreatOycG05
import Derived.Maps.RangeRun
set_option linter.unusedVariables false
set_option linter.unusedSimpArgs false
namespace Go.Tw
open Go
open Go.ChangeMaps (setBlock)
open Go.MapKept (bytes_beq)
def aH.setM (m:aH) (mm:Maps):aH:=⟨m.next,m.at_,mm⟩
def Maps.set (mm:Maps) (g:Nat) (c:List (Value×AV)):Maps:=⟨fun j=>if j=g then some c else mm.maps j,fun _=>none⟩
def Maps.walk (mm:Maps) (r:Nat) (x:Nat×List Nat):Maps:=⟨mm.maps,fun j=>if j=r then some x else mm.iters j⟩
def rZ (kd:TypeDesc) (k:Value):List (Value×AV)→Option (Option Nat)
 | []=>some none
 | (k',_)::c=>match Instr.sameNow kd k k' with
  | some true=>some (some 0)
  | some false=>(rZ kd k c).map fun r=>r.map (·+1)
  | none=>none
def abk:TypeDesc→Bool
 | .int _ | .string | .bool=>true
 | _=>false
def zP (P:Program) (t:TypeId):Option AV:=((P.info? t).bind (·.zero)).bind fun z=>if qQ z=true then some (.val z) else none
def vN (P:Program) (t:TypeId):Option (TypeDesc×AV):=match P.underlying t with
 | some (.map k e)=>(P.underlying k).bind fun kd=>if abk kd=true then (zP P e).map fun z=>(kd,z) else none
 | _=>none
def qD (m:aH):AV→Option (Nat×List (Value×AV))
 | .val (.map (some g))=>(m.mm.maps g).map fun c=>(g,c)
 | _=>none
def zQ (P:Program) (m:aH) (t:TypeId) (x k:AV):Option AV :=
 (vN P t).bind fun ty=>(qD m x).bind fun gc=>(iV k).bind fun kv=>(rZ ty.1 kv gc.2).bind fun r=>match r with
  | some i=>(gc.2[i]?).map (·.2)
  | none=>some ty.2
def vO (P:Program) (m:aH) (t:TypeId) (x k v:AV):Option bS :=
 (vN P t).bind fun ty=>(qD m x).bind fun gc=>(iV k).bind fun kv=>(rZ ty.1 kv gc.2).bind fun r=>match r with
  | some i=>bK eI (m.setM (m.mm.set gc.1 (gc.2.set i (kv,v))))
  | none=>bK eI (m.setM (m.mm.set gc.1 (gc.2++[(kv,v)])))
def zR (m:aH):AV→Option (Nat×(Nat×List Nat)×List (Value×AV))
 | .val (.pointer (some ⟨r,0,none⟩))=>(m.mm.iters r).bind fun x=>(m.mm.maps x.1).map fun c=>(r,x,c)
 | _=>none
def abl (m:aH) (x:AV):Option AV:=(zR m x).bind fun i=>(i.2.1.2.getLast?).bind fun j=>(i.2.2[j]?).map fun e => .tup [.val e.1,e.2]
section
variable {P:Program} {w:World} {I:Nat→Prop} {ρ:cC} {m:aH}
theorem aoB {w:World} {g:Nat} {o:Obj} (h:w.heap[g]? = some o) (ho:∀ arr ty fr,o ≠ .cells arr ty fr):w.shape? g=none:=by
 unfold World.shape?
 rw [h]
 split
 ·rename_i h2;cases h2;exact absurd rfl (ho _ _ _)
 ·rfl
theorem vP {w:World} {g x:Nat} {o:Obj} (h:x≠g):(setBlock w g o).heap[x]? = w.heap[x]? := by
 simp only [setBlock,Array.getElem?_setIfInBounds]
 rw [if_neg (fun e=>h e.symm)]
theorem aeY {w:World} {g:Nat} {o:Obj} (h:g < w.heap.size):(setBlock w g o).heap[g]? = some o:=by
 simp [setBlock,Array.getElem?_setIfInBounds,h]
theorem jV.obj {mm:Maps} (h:jV P w I ρ mm) {g:Nat} (hg:mm.has g):∃ o,w.heap[g]? = some o∧∀ arr ty fr,o ≠ .cells arr ty fr:=by
 rcases hg with hg | hg
 ·obtain ⟨c,hc'⟩:=Option.ne_none_iff_exists'.1 hg
  obtain ⟨_,es,h2,_⟩:=h.mp g c hc'
  exact ⟨_,h2,fun _ _ _ h=>by cases h⟩
 ·obtain ⟨x,hx⟩:=Option.ne_none_iff_exists'.1 hg
  obtain ⟨_,c,_,h3,_⟩:=h.it g x hx
  exact ⟨_,h3,fun _ _ _ h=>by cases h⟩
theorem acX (hS:SR P w I ρ m) {g:Nat} (hg:m.mm.has g) (o:Obj) (ho:∀ arr ty fr,o ≠ .cells arr ty fr):g9 w (setBlock w g o) I I:=by
 obtain ⟨o0,h0,h1⟩:=hS.mms.obj hg
 refine ⟨fun _ h=>h,fun x hx=>vP (by rintro rfl;exact hS.mms.im hg hx),fun x y hx => ?_⟩
 by_cases e:x=g
 ·subst e;rw [aoB h0 h1] at hx;cases hx
 ·rw [uA (vP e)];exact hx
theorem aeZ (hS:SR P w I ρ m) {g:Nat} (hg:m.mm.has g) (o:Obj) (ho:∀ arr ty fr,o ≠ .cells arr ty fr) {mm':Maps} (hmm:jV P (setBlock w g o) I ρ mm') (hsub:∀ x,mm'.has x→m.mm.has x):SR P (setBlock w g o) I ρ (m.setM mm')∧cM w I ρ m (setBlock w g o) I ρ (m.setM mm'):=by
 have hk:=acX hS hg o ho
 refine ⟨⟨fun b k x y h1 h2 => ?_,hS.inj,fun x hx=>by simpa [setBlock] using hS.lt x hx,hmm⟩,⟨rfl,rfl,rfl,by simp [setBlock],fun x hx hn=>vP (by rintro rfl;exact hn (.inr hg)),hk.shape,fun _ h=>h,fun _ h => .inl h,fun _ _ h=>h,fun b h1 h2=>absurd h1 h2,fun x hx => ?_,Nat.le_refl _⟩⟩
 ·have hB:=hS.blk b k x y h1 h2
  refine qY hk (fun _ _ h=>h) hB (vP ?_) (fun hw=>(hB.wr hw).1)
  rintro rfl
  obtain ⟨arr,fr,h3,_⟩:=hB.cells
  exact hS.mms.not_cells hg h3
 ·rcases hx with ⟨b,k,o',h1,h2,h3⟩ | hx
  ·exact .inl (.inl ⟨b,k,o',h1,h2,h3⟩)
  ·exact .inl (.inr (hsub x hx))
theorem ahH (hS:SR P w I ρ m) (o:Obj) {mm':Maps} (hmm:jV P (w.alloc o) I ρ mm') (hsub:∀ x,mm'.has x→m.mm.has x∨x=w.heap.size):SR P (w.alloc o) I ρ (m.setM mm')∧cM w I ρ m (w.alloc o) I ρ (m.setM mm'):=by
 have hold:∀ g,g < w.heap.size→(w.alloc o).heap[g]? = w.heap[g]? := fun g hg=>by
  show (w.heap.push o)[g]? = _
  rw [Array.getElem?_push,if_neg (by omega)]
 have hk:g9 w (w.alloc o) I I:=⟨fun _ h=>h,fun x hx=>hold x (hS.lt x hx),fun x y hx=>by rw [uA (hold x (aba hx))];exact hx⟩
 refine ⟨⟨fun b k x y h1 h2 => ?_,hS.inj,fun x hx=>by have:=hS.lt x hx;simp;omega,hmm⟩,⟨rfl,rfl,rfl,by simp,fun x hx _=>hold x hx,hk.shape,fun _ h=>h,fun _ h => .inl h,fun _ _ h=>h,fun b h1 h2=>absurd h1 h2,fun x hx => ?_,Nat.le_refl _⟩⟩
 ·have hB:=hS.blk b k x y h1 h2
  obtain ⟨arr,fr,h3,_⟩:=hB.cells
  exact qY hk (fun _ _ h=>h) hB (hold x (vJ h3)) (fun hw=>(hB.wr hw).1)
 ·rcases hx with ⟨b,k,o',h1,h2,h3⟩ | hx
  ·exact .inl (.inl ⟨b,k,o',h1,h2,h3⟩)
  ·rcases hsub x hx with h | h
   ·exact .inl (.inr h)
   ·exact .inr (by omega)
theorem ae0 (kd:TypeDesc) (k:Value):∀ (es:List MapEntry) (c:List (Value×AV)) (i:Nat),es.map MapEntry.key=c.map Prod.fst→∀ r,rZ kd k c=some r→Instr.findNow kd k es i=some (r.bind fun j=>(es[j]?).map fun e=>(i+j,e.val))
 | [],[],i,_,r,h=>by simp [rZ] at h;subst h;rfl
 | e::es,(k',v)::c,i,hk,r,h=>by
  simp only [List.map_cons,List.cons.injEq] at hk
  obtain ⟨hk1,hk2⟩:=hk
  unfold rZ at h
  unfold Instr.findNow
  rw [hk1]
  split at h
  ·rename_i hs
   rw [hs]
   cases h
   simp
  ·rename_i hs
   rw [hs]
   obtain ⟨r',hr',rfl⟩:=Option.map_eq_some_iff.1 h
   rw [ae0 kd k es c (i+1) hk2 r' hr']
   cases r' with
   | none=>rfl
   | some j=>simp [Nat.add_assoc,Nat.add_comm 1 j]
  ·cases h
 | [],_::_,i,hk,r,h=>by simp at hk
 | _::_,[],i,hk,r,h=>by simp at hk
theorem ahI {kd:TypeDesc} {k:Value}:∀ {c:List (Value×AV)} {i:Nat},rZ kd k c=some (some i)→∃ kv,c[i]? = some kv∧Instr.sameNow kd k kv.1=some true
 | [],i,h=>by simp [rZ] at h
 | (k',v)::c,i,h=>by
  unfold rZ at h
  split at h
  ·rename_i hs;cases h;exact ⟨_,rfl,hs⟩
  ·obtain ⟨r',hr',h2⟩:=Option.map_eq_some_iff.1 h
   cases r' with
   | none=>simp at h2
   | some j =>
    simp at h2
    subst h2
    obtain ⟨kv,h3,h4⟩:=ahI hr'
    exact ⟨kv,by simpa using h3,h4⟩
  ·cases h
theorem aoC {kd:TypeDesc} {a b:Value} (h:Instr.sameNow kd a b=some true):a=b∧Instr.sameBits 10000 b a=true:=by
 unfold Instr.sameNow at h
 split at h
 ·split at h
  ·rename_i hk;subst hk;simp at h;subst h;exact ⟨rfl,by simp [Instr.sameBits]⟩
  ·cases h
 ·rename_i a b
  have h:(a == b)=true:=by simpa using h
  have e:a=b:=(bytes_beq a b).1 h
  subst e
  exact ⟨rfl,by simp [Instr.sameBits,(bytes_beq a a).2 rfl]⟩
 ·simp at h;subst h;exact ⟨rfl,by simp [Instr.sameBits]⟩
 ·cases h
theorem ae1 {t:TypeId} {ty:TypeDesc×AV} (h:vN P t=some ty):∃ k e,P.underlying t=some (.map k e)∧P.underlying k=some ty.1∧abk ty.1=true∧zP P e=some ty.2:=by
 unfold vN at h
 split at h
 ·rename_i k e hu
  obtain ⟨kd,hkd,h⟩:=Option.bind_eq_some_iff.1 h
  split at h
  ·rename_i hk
   obtain ⟨z,hz,rfl⟩:=Option.map_eq_some_iff.1 h
   exact ⟨k,e,hu,hkd,hk,hz⟩
  ·cases h
 ·cases h
theorem abm {x:AV} {gc:Nat×List (Value×AV)} (h:qD m x=some gc):x = .val (.map (some gc.1))∧m.mm.maps gc.1=some gc.2:=by
 unfold qD at h
 split at h
 ·rename_i g
  obtain ⟨c,hc,rfl⟩:=Option.map_eq_some_iff.1 h
  exact ⟨rfl,hc⟩
 ·cases h
theorem ahJ {t:TypeId} {z:AV} (h:zP P t=some z):∃ v,(zeroValue t).run P w = .ok v w∧VR P w I ρ z v:=by
 unfold zP at h
 obtain ⟨v,hv,h⟩:=Option.bind_eq_some_iff.1 h
 obtain ⟨i,hi,hz⟩:=Option.bind_eq_some_iff.1 hv
 split at h
 ·cases h
  exact ⟨v,by simp [zeroValue,typeInfo,hi,hz],by simp only [VR]⟩
 ·cases h
theorem acY {kt:TypeId} {kd:TypeDesc} (h:P.underlying kt=some kd) (hk:abk kd=true) (b:Bool) (k:Value):(Instr.checkKey b 10000 kt k).run P w = .ok () w:=by
 unfold Instr.checkKey
 cases kd <;> simp [abk] at hk <;> simp [cT h]
theorem aoD (hS:SR P w I ρ m) {t:TypeId} {x k av:AV} (h:zQ P m t x k=some av) {xv kv:Value} (hx:VR P w I ρ x xv) (hk:VR P w I ρ k kv):lV P w I ρ (Instr.lookup t xv kv false) av:=by
 unfold zQ at h
 obtain ⟨ty,hty,h⟩:=Option.bind_eq_some_iff.1 h
 obtain ⟨gc,hgc,h⟩:=Option.bind_eq_some_iff.1 h
 obtain ⟨kv',hkv,h⟩:=Option.bind_eq_some_iff.1 h
 obtain ⟨r,hr,h⟩:=Option.bind_eq_some_iff.1 h
 obtain ⟨kt,et,h1,h2,h3,h4⟩:=ae1 hty
 obtain ⟨rfl,h5⟩:=abm hgc
 have:=xP _ _ _ hkv hk
 subst this
 simp only [VR] at hx
 subst hx
 obtain ⟨_,es,e1,e2,e3,e4,e5⟩:=hS.mms.mp _ _ h5
 have hkeys:es.toList.map MapEntry.key=gc.2.map Prod.fst:=by
  apply List.ext_getElem?
  intro j
  simpa using e4 j
 have hf:=ae0 ty.1 kv es.toList gc.2 0 hkeys r hr
 cases r with
 | none =>
  simp only [Option.some.injEq] at h
  subst h
  obtain ⟨z,hz1,hz2⟩:=ahJ (w:=w) (I:=I) (ρ:=ρ) h4
  refine ⟨z, ?_,hz2⟩
  simp only [Option.bind_none] at hf
  simp [Instr.lookup,cT h1,getObj,Sem.run,e1,acY h2 h3,Instr.findKey,cT h2,hf,hz1]
 | some i =>
  simp only at h
  obtain ⟨e,he,rfl⟩:=Option.map_eq_some_iff.1 h
  have hsz:i < es.size:=by rw [e2];exact (List.getElem?_eq_some_iff.1 he).1
  obtain ⟨v,h6,h7⟩:=gN e5 (j:=i) (by rw [List.getElem?_map,he];rfl)
  rw [Array.getElem?_eq_getElem hsz] at h6
  simp only [Option.map_some,Option.some.injEq] at h6
  refine ⟨v, ?_,h7⟩
  rw [Option.bind_some,Array.getElem?_toList,Array.getElem?_eq_getElem hsz,Option.map_some,h6] at hf
  simp [Instr.lookup,cT h1,getObj,Sem.run,e1,acY h2 h3,Instr.findKey,cT h2,hf]
theorem ahK {mm:Maps} {g:Nat} {c:List (Value×AV)} (hg:mm.maps g≠none):∀ x,(mm.set g c).has x→mm.has x:=by
 rintro x (h | h)
 ·unfold Maps.set at h
  simp only at h
  split at h
  ·rename_i e;subst e;exact .inl hg
  ·exact .inl h
 ·exact absurd rfl h
theorem ae2 {w:World} {g:Nat} {es:Array MapEntry} {clock:Nat} (o:Obj) (hb:w.heap[g]? = some (.map es clock)):(setObj g o).run P w = .ok () (setBlock w g o):=MapKept.run_setObj_map o hb
theorem aoE (hS : SR P w I ρ m) {t : TypeId} {x k v : AV} {out : bS} (h : vO P m t x k v = some out) {xv kv vv : Value} (hx : VR P w I ρ x xv) (hk : VR P w I ρ k kv) (hv : VR P w I ρ v vv) (addr : Value) : hY P w I ρ m ((Instr.mapUpdate t xv kv vv).run P w) (fun _ => undef) out addr := by
 unfold vO at h
 obtain ⟨ty, hty, h⟩ := Option.bind_eq_some_iff.1 h
 obtain ⟨gc, hgc, h⟩ := Option.bind_eq_some_iff.1 h
 obtain ⟨kv', hkv, h⟩ := Option.bind_eq_some_iff.1 h
 obtain ⟨r, hr, h⟩ := Option.bind_eq_some_iff.1 h
 obtain ⟨kt, et, h1, h2, h3, h4⟩ := ae1 hty
 obtain ⟨rfl, h5⟩ := abm hgc
 have := xP _ _ _ hkv hk
 subst this
 simp only [VR] at hx
 subst hx
 obtain ⟨him, es, e1, e2, e3, e4, e5⟩ := hS.mms.mp _ _ h5
 have hhas : m.mm.has gc.1 := .inl (by rw [h5]; simp)
 have hglt := hS.mms.lt hhas
 have hkeys : es.toList.map MapEntry.key = gc.2.map Prod.fst := by
   apply List.ext_getElem?
   intro j
   simpa using e4 j
 have hf := ae0 ty.1 kv es.toList gc.2 0 hkeys r hr
 have fin : ∀ (es' : Array MapEntry) (c' : List (Value × AV)), es'.size = c'.length → (∀ (j : Nat) (e : MapEntry), es'[j]? = some e → e.born = j) → (∀ j : Nat, (es'[j]?).map MapEntry.key = (c'[j]?).map Prod.fst) → bH P w I ρ (c'.map Prod.snd) (fun j => (es'[j]?).map MapEntry.val) →
     SR P (setBlock w gc.1 (.map es' es'.size)) I ρ (m.setM (m.mm.set gc.1 c')) ∧ cM w I ρ m (setBlock w gc.1 (.map es' es'.size)) I ρ (m.setM (m.mm.set gc.1 c')) := by
   intro es' c' q1 q2 q3 q4
   have ho : ∀ arr ty fr, Obj.map es' es'.size ≠ .cells arr ty fr := fun _ _ _ h => by cases h
   have hkp := acX hS hhas (.map es' es'.size) ho
   refine aeZ hS hhas _ ho ⟨fun g c hg => ?_, fun r x hr => by cases hr⟩ (ahK (by rw [h5]; simp))
   unfold Maps.set at hg
   simp only at hg
   split at hg
   · rename_i e; subst e
     cases hg
     exact ⟨him, es', aeY hglt, q1, q2, q3, eF hkp (fun _ _ h => h) _ _ q4⟩
   · rename_i hne
     obtain ⟨u1, u, u2, u3, u4, u5, u6⟩ := hS.mms.mp g c hg
     exact ⟨u1, u, by rw [vP hne]; exact u2, u3, u4, u5, eF hkp (fun _ _ h => h) _ _ u6⟩
 cases r with
 | none =>
   simp only [bK, Option.some.injEq] at h
   subst h
   simp only [Option.bind_none] at hf
   obtain ⟨s1, s2⟩ := fin (es.push { key := kv, val := vv, born := es.size }) (gc.2 ++ [(kv, v)]) (by simp [e2]) (fun j e he => by
       rw [Array.getElem?_push] at he
       split at he
       · rename_i hj; cases he; exact hj.symm
       · exact e3 j e he) (fun j => by
       rw [Array.getElem?_push]
       split
       · rename_i hj; rw [hj, e2, List.getElem?_append_right (Nat.le_refl _)]; simp
       · rename_i hj
         rw [e4 j]
         by_cases hj2 : j < gc.2.length
         · rw [List.getElem?_append_left hj2]
         · rw [List.getElem?_eq_none (by omega), List.getElem?_eq_none (by simp; omega)]) (by
       refine j9.2 fun j c hj => ?_
       rw [List.map_append] at hj
       by_cases hj2 : j < (gc.2.map Prod.snd).length
       · rw [List.getElem?_append_left hj2] at hj
         obtain ⟨u, h6, h7⟩ := gN e5 hj
         have : j ≠ es.size := by rw [e2]; simp at hj2; omega
         exact ⟨u, by simp only [Array.getElem?_push, if_neg this]; exact h6, h7⟩
       · rw [List.getElem?_append_right (by omega)] at hj
         have hj3 : j = es.size := by
           have := (List.getElem?_eq_some_iff.1 hj).1
           simp at this hj2
           omega
         subst hj3
         simp [e2] at hj
         subst hj
         exact ⟨vv, by simp, hv⟩)
   refine ⟨(), _, I, ρ, ?_, by simp only [eI, undef, VR], s1, s2, fun d y h => by cases h⟩
   simp [Instr.mapUpdate, cT h1, getObj, Sem.run, e1, acY h2 h3, Instr.findKey, cT h2, hf, ae2 _ e1]
 | some i =>
   simp only [bK, Option.some.injEq] at h
   subst h
   obtain ⟨kw, hkw, hsame⟩ := ahI hr
   obtain ⟨hke, hbits⟩ := aoC hsame
   have hil := (List.getElem?_eq_some_iff.1 hkw).1
   have hsz : i < es.size := by rw [e2]; exact hil
   have hkey : es[i].key = kv := by
     have := e4 i
     rw [Array.getElem?_eq_getElem hsz, hkw] at this
     simp only [Option.map_some, Option.some.injEq] at this
     rw [this, ← hke]
   rw [← hke] at hbits
   rw [Option.bind_some, Array.getElem?_toList, Array.getElem?_eq_getElem hsz, Option.map_some, Nat.zero_add] at hf
   have hmod : ∀ j : Nat, (es.modify i fun e => { e with key := kv, val := vv })[j]? = if i = j then (es[j]?).map (fun e => { e with key := kv, val := vv }) else es[j]? := fun j => by
     rw [Array.getElem?_modify]
   obtain ⟨s1, s2⟩ := fin (es.modify i fun e => { e with key := kv, val := vv }) (gc.2.set i (kv, v)) (by simp [e2]) (fun j e he => by
       rw [hmod] at he
       split at he
       · obtain ⟨e0, h0, rfl⟩ := Option.map_eq_some_iff.1 he
         exact e3 j e0 h0
       · exact e3 j e he) (fun j => by
       rw [hmod, List.getElem?_set]
       split
       · rename_i hj
         subst hj
         rw [Array.getElem?_eq_getElem hsz]
         rfl
       · exact e4 j) (by
       refine j9.2 fun j c hj => ?_
       rw [List.getElem?_map, List.getElem?_set] at hj
       simp only [hmod]
       split at hj
       · rename_i hij
         subst hij
         try rw [if_pos hil] at hj
         simp only [Option.map_some, Option.some.injEq] at hj
         subst hj
         exact ⟨vv, by rw [if_pos rfl, Array.getElem?_eq_getElem hsz]; rfl, hv⟩
       · rename_i hij
         rw [if_neg hij]
         exact gN e5 (by rw [List.getElem?_map]; exact hj))
   refine ⟨(), _, I, ρ, ?_, by simp only [eI, undef, VR], s1, s2, fun d y h => by cases h⟩
   have hst : (Instr.keyThatStays es[i].key kv).run P w = .ok kv w := by
     rw [hkey]
     simp [Instr.keyThatStays, hbits]
   simp [Instr.mapUpdate, cT h1, getObj, Sem.run, e1, acY h2 h3, Instr.findKey, cT h2, hf, Array.getElem?_eq_getElem hsz, hst, ae2 _ e1]
theorem ahL {x:AV} {i:Nat×(Nat×List Nat)×List (Value×AV)} (h:zR m x=some i):x = .val (.pointer (some ⟨i.1,0,none⟩))∧m.mm.iters i.1=some i.2.1∧m.mm.maps i.2.1.1=some i.2.2:=by
 unfold zR at h
 split at h
 ·rename_i r
  obtain ⟨y,hy,h⟩:=Option.bind_eq_some_iff.1 h
  obtain ⟨c,hc,rfl⟩:=Option.map_eq_some_iff.1 h
  exact ⟨rfl,hy,hc⟩
 ·cases h
theorem aoF {es:Array MapEntry} (h:∀ (j:Nat) (e:MapEntry),es[j]? = some e→e.born=j):(es.toList.map (·.born)).Nodup:=by
 have:es.toList.map (·.born)=List.range es.size:=by
  apply List.ext_getElem?
  intro j
  rw [List.getElem?_map,Array.getElem?_toList]
  by_cases hj:j < es.size
  ·rw [Array.getElem?_eq_getElem hj,List.getElem?_range hj]
   simp [h j es[j] (Array.getElem?_eq_getElem hj)]
  ·rw [Array.getElem?_eq_none (by omega),List.getElem?_eq_none (by simp;omega)]
   rfl
 rw [this]
 exact List.nodup_range
theorem aoG (hS:SR P w I ρ m) {x av:AV} (h:abl m x=some av) {xv:Value} (hx:VR P w I ρ x xv):lV P w I ρ (Instr.entry xv) av:=by
 unfold abl at h
 obtain ⟨i,hi,h⟩:=Option.bind_eq_some_iff.1 h
 obtain ⟨j,hj,h⟩:=Option.bind_eq_some_iff.1 h
 obtain ⟨e,he,rfl⟩:=Option.map_eq_some_iff.1 h
 obtain ⟨rfl,h1,h2⟩:=ahL hi
 simp only [VR] at hx
 subst hx
 obtain ⟨_,c,q1,q2,_⟩:=hS.mms.it _ _ h1
 rw [h2] at q1
 cases q1
 obtain ⟨_,es,e1,e2,e3,e4,e5⟩:=hS.mms.mp _ _ h2
 have hsz:j < es.size:=by rw [e2];exact (List.getElem?_eq_some_iff.1 he).1
 have hb:es[j].born=j:=e3 j _ (Array.getElem?_eq_getElem hsz)
 obtain ⟨v,h6,h7⟩:=gN e5 (j:=j) (by rw [List.getElem?_map,he];rfl)
 rw [Array.getElem?_eq_getElem hsz] at h6
 simp only [Option.map_some,Option.some.injEq] at h6
 have hk:=e4 j
 rw [Array.getElem?_eq_getElem hsz,he] at hk
 simp only [Option.map_some,Option.some.injEq] at hk
 have hlast:i.2.1.2=i.2.1.2.dropLast++[j]:=by
  obtain ⟨l,hl⟩:=List.getLast?_eq_some_iff.1 hj
  rw [hl];simp
 have hrun:=run_entry_at (P:=P) w i.1 i.2.1.1 i.2.2.length i.2.1.2.dropLast.toArray es es.size es[j] (by rw [q2,hb,e2];congr 2;rw [hlast];simp) e1 (by simp) (aoF e3)
 refine ⟨_,hrun, ?_⟩
 simp only [VR]
 refine ⟨#[es[j].key,es[j].val],rfl,rfl, ?_⟩
 simp only [bH]
 exact ⟨⟨_,rfl,by simp only [VR];exact hk⟩,⟨_,rfl,by rw [h6];exact h7⟩,trivial⟩
def Maps.add (mm:Maps) (g:Nat):Maps:=⟨fun j=>if j=g then some [] else mm.maps j,mm.iters⟩
def zS (m:aH) (K:bS→Prop):Prop:=∀ g,¬ m.mm.has g→K ⟨.val (.map (some g)),m.setM (m.mm.add g),none⟩
def zT (P:Program) (m:aH) (t:TypeId) (x:AV) (K:bS→Prop):Prop:=∃ gc,(vN P t).isSome=true∧qD m x=some gc∧∀ r,¬ m.mm.has r→K ⟨.val (.pointer (some ⟨r,0,none⟩)),m.setM (m.mm.walk r (gc.1,[])),none⟩
def zU (m:aH) (x:AV) (K:bS→Prop):Prop:=∃ i,zR m x=some i∧((∀ j,j < i.2.2.length→j∈i.2.1.2)→K ⟨.tup [.val (.bool false)],m,none⟩)∧∀ j e,i.2.2[j]? = some e→j ∉ i.2.1.2→K ⟨.tup [.val (.bool true),.val e.1,e.2],m.setM (m.mm.walk i.1 (i.2.1.1,i.2.1.2++[j])),none⟩
theorem ahM (hS:SR P w I ρ m) (o:Obj):g9 w (w.alloc o) I I:=by
 have hold:∀ g,g < w.heap.size→(w.alloc o).heap[g]? = w.heap[g]? := fun g hg=>by
  show (w.heap.push o)[g]? = _
  rw [Array.getElem?_push,if_neg (by omega)]
 exact ⟨fun _ h=>h,fun x hx=>hold x (hS.lt x hx),fun x y hx=>by rw [uA (hold x (aba hx))];exact hx⟩
theorem acZ {w:World} {o:Obj} {g:Nat} (hg:g < w.heap.size):(w.alloc o).heap[g]? = w.heap[g]? := by
 show (w.heap.push o)[g]? = _
 rw [Array.getElem?_push,if_neg (by omega)]
theorem ahN {w:World} {o:Obj}:(w.alloc o).heap[w.heap.size]? = some o:=by
 show (w.heap.push o)[w.heap.size]? = _
 simp
theorem aoH (hS:SR P w I ρ m) {t:TypeId} {K:bS→Prop} (h:zS m K) (addr:Value):∃ out,K out∧out.wb=none∧hY P w I ρ m ((Instr.makeMap t none).run P w) id out addr:=by
 refine ⟨_,h w.heap.size (fun hh=>by have:=hS.mms.lt hh;omega),rfl, ?_⟩
 have hk:=ahM hS (.map #[] 0)
 obtain ⟨s1,s2⟩:=ahH hS (.map #[] 0) (mm':=m.mm.add w.heap.size) ⟨fun g c hg=>by
  unfold Maps.add at hg
  simp only at hg
  split at hg
  ·rename_i e;subst e;cases hg
   exact ⟨fun hi=>by have:=hS.lt _ hi;omega,#[],ahN,rfl,fun j e h=>by simp at h,fun j=>by simp,by simp only [List.map_nil,bH]⟩
  ·have hl:=hS.mms.lt (g:=g) (.inl (by rw [hg];simp))
   obtain ⟨u1,u,u2,u3,u4,u5,u6⟩:=hS.mms.mp g c hg
   exact ⟨u1,u,by rw [acZ hl];exact u2,u3,u4,u5,eF hk (fun _ _ h=>h) _ _ u6⟩,fun r x hr=>by
  have hl:=hS.mms.lt (g:=r) (.inr (by rw [show m.mm.iters r=some x from hr];simp))
  obtain ⟨u1,c,u2,u3,u4⟩:=hS.mms.it r x hr
  have hl2:=hS.mms.lt (g:=x.1) (.inl (by rw [u2];simp))
  refine ⟨u1,c, ?_,by rw [acZ hl];exact u3,u4⟩
  unfold Maps.add
  simp only
  rw [if_neg (by omega)]
  exact u2⟩ (fun x hx=>by
  rcases hx with hx | hx
  ·unfold Maps.add at hx
   simp only at hx
   split at hx
   ·rename_i e;exact .inr e
   ·exact .inl (.inl hx)
  ·exact .inl (.inr hx))
 exact ⟨.map (some w.heap.size),_,I,ρ,by simp [Instr.makeMap],by simp only [id,VR],s1,s2,fun d y h=>by cases h⟩
theorem aoI (hS:SR P w I ρ m) {t:TypeId} {x:AV} {K:bS→Prop} (h:zT P m t x K) {xv:Value} (hx:VR P w I ρ x xv) (addr:Value):∃ out,K out∧out.wb=none∧hY P w I ρ m ((Instr.range t xv).run P w) id out addr:=by
 obtain ⟨gc,hty,hgc,h⟩:=h
 obtain ⟨ty,hty⟩:=Option.isSome_iff_exists.1 hty
 obtain ⟨kt,et,h1,_⟩:=ae1 hty
 obtain ⟨rfl,h2⟩:=abm hgc
 simp only [VR] at hx
 subst hx
 obtain ⟨him,es,e1,e2,e3,e4,e5⟩:=hS.mms.mp _ _ h2
 have hnew:¬ m.mm.has w.heap.size:=fun hh=>by have:=hS.mms.lt hh;omega
 refine ⟨_,h w.heap.size hnew,rfl, ?_⟩
 have hk:=ahM hS (.mapIter (some gc.1) es.size #[] es.size)
 obtain ⟨s1,s2⟩:=ahH hS (.mapIter (some gc.1) es.size #[] es.size) (mm':=m.mm.walk w.heap.size (gc.1,[])) ⟨fun g c hg=>by
  have hl:=hS.mms.lt (g:=g) (.inl (by rw [show m.mm.maps g=some c from hg];simp))
  obtain ⟨u1,u,u2,u3,u4,u5,u6⟩:=hS.mms.mp g c hg
  exact ⟨u1,u,by rw [acZ hl];exact u2,u3,u4,u5,eF hk (fun _ _ h=>h) _ _ u6⟩,fun r x hr=>by
  unfold Maps.walk at hr
  simp only at hr
  split at hr
  ·rename_i e;subst e;cases hr
   exact ⟨fun hi=>by have:=hS.lt _ hi;omega,gc.2,h2,by rw [ahN,e2],List.nodup_nil,fun j hj=>by cases hj⟩
  ·have hl:=hS.mms.lt (g:=r) (.inr (by rw [hr];simp))
   obtain ⟨u1,c,u2,u3,u4⟩:=hS.mms.it r x hr
   exact ⟨u1,c,u2,by rw [acZ hl];exact u3,u4⟩⟩ (fun x hx=>by
  rcases hx with hx | hx
  ·exact .inl (.inl hx)
  ·unfold Maps.walk at hx
   simp only at hx
   split at hx
   ·rename_i e;exact .inr e
   ·exact .inl (.inr hx))
 exact ⟨.pointer (some ⟨w.heap.size,0,none⟩),_,I,ρ,by simp [Instr.range,cT h1,getObj,Sem.run,e1],by simp only [id,VR],s1,s2,fun d y h=>by cases h⟩
theorem aoJ (hS:SR P w I ρ m) {ty:TypeId} {x:AV} {K:bS→Prop} (h:zU m x K) {xv:Value} (hx:VR P w I ρ x xv) (addr:Value):∃ out,K out∧out.wb=none∧hY P w I ρ m ((Instr.next xv false ty).run P w) id out addr:=by
 obtain ⟨⟨r,⟨g,seen⟩,c⟩,hi,hover,hmore⟩:=h
 obtain ⟨rfl,h1,h2⟩:=ahL hi
 simp only at h1 h2 hover hmore
 simp only [VR] at hx
 subst hx
 obtain ⟨him,c',q1,q2,q3,q4⟩:=hS.mms.it _ _ h1
 simp only at q1 q2 q3 q4
 rw [h2] at q1
 cases q1
 obtain ⟨_,es,e1,e2,e3,e4,e5⟩:=hS.mms.mp _ _ h2
 rcases run_next_at (P:=P) w ty r g c.length c.length seen.toArray es es.size q2 e1 (fun x hx=>by
  obtain ⟨j,hj⟩:=List.getElem?_of_mem hx
  rw [Array.getElem?_toList] at hj
  rw [e3 j x hj]
  have:=(Array.getElem?_eq_some_iff.1 hj).1
  omega) (Nat.le_refl _) with ⟨h0,hrun⟩ | ⟨e,he,w1,hw1,hrun⟩
 ·refine ⟨_,hover fun j hj => ?_,rfl, ?_⟩
  ·by_cases hm:j∈seen
   ·exact hm
   ·exfalso
    have hsz:j < es.size:=by omega
    have hb:es[j].born=j:=e3 j _ (Array.getElem?_eq_getElem hsz)
    have:es[j]∈leftOf es seen.toArray:=by
     unfold leftOf
     rw [Array.mem_filter]
     exact ⟨by simp,by simp [hb,hm]⟩
    rw [Array.eq_empty_of_size_eq_zero h0] at this
    simp at this
  ·refine ⟨_,w,I,ρ,hrun, ?_,hS,cM.refl _ _ _ _,fun d y h=>by cases h⟩
   simp only [id,VR]
   refine ⟨#[.bool false],rfl,rfl, ?_⟩
   simp only [bH]
   exact ⟨⟨.bool false,rfl,by simp only [VR]⟩,trivial⟩
 ·have hel:e∈leftOf es seen.toArray:=by simpa using he
  unfold leftOf at hel
  rw [Array.mem_filter] at hel
  obtain ⟨hmem,hns⟩:=hel
  obtain ⟨j,hsz,hje⟩:=Array.mem_iff_getElem.1 hmem
  have hb:e.born=j:=e3 j e (by rw [Array.getElem?_eq_getElem hsz,hje])
  have hjs:j ∉ seen:=by
   rw [hb] at hns
   simpa using hns
  obtain ⟨kv,hkv⟩:∃ kv,c[j]? = some kv:=⟨_,List.getElem?_eq_getElem (by omega)⟩
  obtain ⟨v,h6,h7⟩:=gN e5 (j:=j) (by rw [List.getElem?_map,hkv];rfl)
  rw [Array.getElem?_eq_getElem hsz,hje] at h6
  simp only [Option.map_some,Option.some.injEq] at h6
  have hk:=e4 j
  rw [Array.getElem?_eq_getElem hsz,hkv,hje] at hk
  simp only [Option.map_some,Option.some.injEq] at hk
  have hS1:SR P w1 I ρ m∧cM w I ρ m w1 I ρ m∧w1.heap=w.heap:=by
   rcases hw1 with rfl | rfl
   ·exact ⟨hS,cM.refl _ _ _ _,rfl⟩
   ·exact ⟨ahs hS,⟨rfl,rfl,rfl,Nat.le_refl _,fun _ _ _=>rfl,fun _ _ h=>h,fun _ h=>h,fun _ h => .inl h,fun _ _ h=>h,fun b h1 h2=>absurd h1 h2,fun _ h => .inl h,Nat.le_refl _⟩,rfl⟩
  obtain ⟨hS1,hst,hheap⟩:=hS1
  have hhas:m.mm.has r := .inr (by rw [h1];simp)
  have ho:∀ arr ty fr,Obj.mapIter (some g) c.length (seen.toArray.push e.born) es.size ≠ .cells arr ty fr:=fun _ _ _ h=>by cases h
  have hkp:=acX hS1 hhas _ ho
  have hrl:=hS1.mms.lt hhas
  obtain ⟨s1,s2⟩:=aeZ hS1 hhas _ ho (mm':=m.mm.walk r (g,seen++[j])) ⟨fun g' c' hg=>by
   obtain ⟨u1,u,u2,u3,u4,u5,u6⟩:=hS1.mms.mp g' c' hg
   have hne:g'≠r:=by
    rintro rfl
    rw [hheap,q2] at u2
    cases u2
   exact ⟨u1,u,by rw [vP hne];exact u2,u3,u4,u5,eF hkp (fun _ _ h=>h) _ _ u6⟩,fun r' x' hr=>by
   unfold Maps.walk at hr
   simp only at hr
   split at hr
   ·rename_i e';subst e';cases hr
    refine ⟨him,c,h2, ?_, ?_,fun i hi => ?_⟩
    ·rw [aeY hrl,hb,e2];simp
    ·exact List.nodup_append.2 ⟨q3,by simp,fun a ha b hb'=>by simp at hb';subst hb';rintro rfl;exact hjs ha⟩
    ·simp at hi
     rcases hi with hi | rfl
     ·exact q4 i hi
     ·omega
   ·rename_i hne
    obtain ⟨u1,c',u2,u3,u4⟩:=hS1.mms.it r' x' hr
    exact ⟨u1,c',u2,by rw [vP hne];exact u3,u4⟩⟩ (fun y hy=>by
   rcases hy with hy | hy
   ·exact .inl hy
   ·unfold Maps.walk at hy
    simp only at hy
    split at hy
    ·rename_i e';rw [e'];exact hhas
    ·exact .inr hy)
  refine ⟨_,hmore j kv hkv hjs,rfl, ?_⟩
  refine ⟨_,_,I,ρ,hrun, ?_,s1,hst.trans s2,fun d y h=>by cases h⟩
  have hkp2:g9 w (setBlock w1 r (.mapIter (some g) c.length (seen.toArray.push e.born) es.size)) I I:=⟨fun _ h=>h,fun x hx=>by rw [hkp.same x hx,hheap],fun x y hx=>hkp.shape x y (hst.shape x y hx)⟩
  simp only [id,VR]
  refine ⟨#[.bool true,e.key,e.val],rfl,rfl, ?_⟩
  simp only [bH]
  exact ⟨⟨.bool true,rfl,by simp only [VR]⟩,⟨e.key,rfl,by simp only [VR];exact hk⟩,⟨e.val,rfl,o6 hkp2 (fun _ _ h=>h) _ _ (by rw [h6];exact h7)⟩,trivial⟩
end
end Go.Tw
namespace Go.Tw
open Go Go.ChangeMaps
def r6 (P:Program) (kt:TypeId) (k:Value):List (Value×AV)→Option (Option Nat)
 | []=>some none
 | (k',_)::c=>match cN P (Op.equal kt k k') with
  | some true=>some (some 0)
  | some false=>(r6 P kt k c).map fun r=>r.map (·+1)
  | none=>none
def aoK (P:Program) (kt:TypeId) (k:Value):Prop:=∀ b,cN P (Instr.checkKey b 10000 kt k)=some ()
def abn (P:Program) (kt:TypeId) (k:Value):Bool:=(cN P (Instr.checkKey true 10000 kt k)).isSome && (cN P (Instr.checkKey false 10000 kt k)).isSome
def ae3 (P:Program) (kt:TypeId):Bool:=match P.underlying kt with | some (.struct _)=>true | _=>false
def vQ (P:Program) (t:TypeId):Option (TypeId×AV):=match P.underlying t with
 | some (.map k e)=>if ae3 P k=true then (zP P e).map fun z=>(k,z) else none
 | _=>none
def abo (P:Program) (m:aH) (t:TypeId) (x k:AV):Option AV :=
 (vQ P t).bind fun ty=>(qD m x).bind fun gc=>(iV k).bind fun kv=>if abn P ty.1 kv=true then (r6 P ty.1 kv gc.2).bind fun r=>match r with
  | some i=>(gc.2[i]?).map (·.2)
  | none=>some ty.2
 else none
def zV (P:Program) (m:aH) (t:TypeId) (x k v:AV):Option bS :=
 (vQ P t).bind fun ty=>(qD m x).bind fun gc=>(iV k).bind fun kv=>if abn P ty.1 kv=true then (r6 P ty.1 kv gc.2).bind fun r=>match r with
  | some _=>none
  | none=>bK eI (m.setM (m.mm.set gc.1 (gc.2++[(kv,v)])))
 else none
def uC (P:Program) (m:aH) (t:TypeId) (x k:AV):Option AV:=match zQ P m t x k with
 | some v=>some v
 | none=>abo P m t x k
def r7 (P:Program) (m:aH) (t:TypeId) (x k v:AV):Option bS:=match vO P m t x k v with
 | some o=>some o
 | none=>zV P m t x k v
theorem aoL {P:Program} {m:aH} {t:TypeId} {x k v:AV} (h:zQ P m t x k=some v):uC P m t x k=some v:=by unfold uC;rw [h]
theorem ahO {P:Program} {m:aH} {t:TypeId} {x k v:AV} {o:bS} (h:vO P m t x k v=some o):r7 P m t x k v=some o:=by unfold r7;rw [h]
theorem aoM {P:Program} {kt:TypeId} (h:ae3 P kt=true):∃ fs,P.underlying kt=some (.struct fs):=by
 unfold ae3 at h
 split at h
 ·rename_i fs hu;exact ⟨fs,hu⟩
 ·cases h
theorem ae4 {P:Program} {t:TypeId} {ty:TypeId×AV} (h:vQ P t=some ty):∃ e,P.underlying t=some (.map ty.1 e)∧(∃ fs,P.underlying ty.1=some (.struct fs))∧zP P e=some ty.2:=by
 unfold vQ at h
 split at h
 ·rename_i k e hu
  split at h
  ·rename_i hk
   obtain ⟨z,hz,rfl⟩:=Option.map_eq_some_iff.1 h
   exact ⟨e,hu,aoM hk,hz⟩
  ·cases h
 ·cases h
theorem ahP {P:Program} {t:TypeId} (h:(vQ P t).isSome=true):vN P t=none:=by
 obtain ⟨ty,hty⟩:=Option.isSome_iff_exists.1 h
 obtain ⟨e,h1,⟨fs,h2⟩,_⟩:=ae4 hty
 unfold vN
 rw [h1]
 simp [h2,abk]
theorem aoN {P:Program} {m:aH} {t:TypeId} {x k:AV} (h:(vQ P t).isSome=true):uC P m t x k=abo P m t x k:=by
 unfold uC zQ;rw [ahP h];rfl
theorem aoO {P:Program} {m:aH} {t:TypeId} {x k v:AV} (h:(vQ P t).isSome=true):r7 P m t x k v=zV P m t x k v:=by
 unfold r7 vO;rw [ahP h];rfl
section
variable {P:Program} {w:World} {I:Nat→Prop} {ρ:cC} {m:aH}
theorem ahQ {kt:TypeId} {k:Value} (h:abn P kt k=true):aoK P kt k:=by
 unfold abn at h
 rw [Bool.and_eq_true,Option.isSome_iff_exists,Option.isSome_iff_exists] at h
 obtain ⟨⟨u,hu⟩,⟨v,hv⟩⟩:=h
 intro b
 cases b
 ·rw [hv]
 ·rw [hu]
theorem ahR {kt:TypeId} (k:Value):∀ (es:List MapEntry) (c:List (Value×AV)) (i:Nat),es.map MapEntry.key=c.map Prod.fst→∀ r,r6 P kt k c=some r→(Instr.findAsking kt k es i).run P w = .ok (r.bind fun j=>(es[j]?).map fun e=>(i+j,e.val)) w
 | [],[],i,_,r,h=>by simp [r6] at h;subst h;simp [Instr.findAsking]
 | e::es,(k',v)::c,i,hk,r,h=>by
  simp only [List.map_cons,List.cons.injEq] at hk
  obtain ⟨hk1,hk2⟩:=hk
  unfold r6 at h
  unfold Instr.findAsking
  rw [hk1]
  split at h
  ·rename_i hs
   cases h
   simp [qX P _ _ hs]
  ·rename_i hs
   obtain ⟨r',hr',rfl⟩:=Option.map_eq_some_iff.1 h
   have ih:=ahR k es c (i+1) hk2 r' hr'
   simp [qX P _ _ hs,ih]
   cases r' with
   | none=>rfl
   | some j=>simp [Nat.add_assoc,Nat.add_comm 1 j]
  ·cases h
 | [],_::_,i,hk,r,h=>by simp at hk
 | _::_,[],i,hk,r,h=>by simp at hk
theorem ahS {kt:TypeId} (hu:∃ fs,P.underlying kt=some (.struct fs)) (k:Value) (es:List MapEntry) (c:List (Value×AV)) (hk:es.map MapEntry.key=c.map Prod.fst) (r:Option Nat) (h:r6 P kt k c=some r):(Instr.findKey kt k es).run P w = .ok (r.bind fun j=>(es[j]?).map fun e=>(j,e.val)) w:=by
 obtain ⟨fs,hu⟩:=hu
 have ha:=ahR (P:=P) (w:=w) k es c 0 hk r h
 simp only [Nat.zero_add] at ha
 cases es with
 | nil =>
  cases c with
  | nil=>simp [r6] at h;subst h;simp [Instr.findKey,cT hu,Instr.findNow]
  | cons x c=>simp at hk
 | cons e es =>
  have hn:Instr.findNow (.struct fs) k (e::es) 0=none:=by simp [Instr.findNow,Instr.sameNow]
  simp [Instr.findKey,cT hu,hn,ha]
theorem aoP (hS:SR P w I ρ m) {t:TypeId} {x k av:AV} (h:abo P m t x k=some av) {xv kv:Value} (hx:VR P w I ρ x xv) (hk:VR P w I ρ k kv):lV P w I ρ (Instr.lookup t xv kv false) av:=by
 unfold abo at h
 obtain ⟨ty,hty,h⟩:=Option.bind_eq_some_iff.1 h
 obtain ⟨gc,hgc,h⟩:=Option.bind_eq_some_iff.1 h
 obtain ⟨kv',hkv,h⟩:=Option.bind_eq_some_iff.1 h
 split at h
 case isFalse=>cases h
 rename_i hcb
 obtain ⟨r,hr,h⟩:=Option.bind_eq_some_iff.1 h
 obtain ⟨et,h1,h2,h4⟩:=ae4 hty
 obtain ⟨rfl,h5⟩:=abm hgc
 have:=xP _ _ _ hkv hk
 subst this
 have hck:=ahQ hcb
 simp only [VR] at hx
 subst hx
 obtain ⟨_,es,e1,e2,e3,e4,e5⟩:=hS.mms.mp _ _ h5
 have hkeys:es.toList.map MapEntry.key=gc.2.map Prod.fst:=by
  apply List.ext_getElem?
  intro j
  simpa using e4 j
 have hf:=ahS (w:=w) h2 kv es.toList gc.2 hkeys r hr
 cases r with
 | none =>
  simp only [Option.some.injEq] at h
  subst h
  obtain ⟨z,hz1,hz2⟩:=ahJ (w:=w) (I:=I) (ρ:=ρ) h4
  refine ⟨z, ?_,hz2⟩
  simp only [Option.bind_none] at hf
  simp [Instr.lookup,cT h1,getObj,Sem.run,e1,qX P _ _ (hck _),hf,hz1]
 | some i =>
  simp only at h
  obtain ⟨e,he,rfl⟩:=Option.map_eq_some_iff.1 h
  have hsz:i < es.size:=by rw [e2];exact (List.getElem?_eq_some_iff.1 he).1
  obtain ⟨v,h6,h7⟩:=gN e5 (j:=i) (by rw [List.getElem?_map,he];rfl)
  rw [Array.getElem?_eq_getElem hsz] at h6
  simp only [Option.map_some,Option.some.injEq] at h6
  refine ⟨v, ?_,h7⟩
  rw [Option.bind_some,Array.getElem?_toList,Array.getElem?_eq_getElem hsz,Option.map_some,h6] at hf
  simp [Instr.lookup,cT h1,getObj,Sem.run,e1,qX P _ _ (hck _),hf]
theorem aoQ (hS : SR P w I ρ m) {t : TypeId} {x k v : AV} {out : bS} (h : zV P m t x k v = some out) {xv kv vv : Value} (hx : VR P w I ρ x xv) (hk : VR P w I ρ k kv) (hv : VR P w I ρ v vv) (addr : Value) : hY P w I ρ m ((Instr.mapUpdate t xv kv vv).run P w) (fun _ => undef) out addr := by
 unfold zV at h
 obtain ⟨ty, hty, h⟩ := Option.bind_eq_some_iff.1 h
 obtain ⟨gc, hgc, h⟩ := Option.bind_eq_some_iff.1 h
 obtain ⟨kv', hkv, h⟩ := Option.bind_eq_some_iff.1 h
 split at h
 case isFalse => cases h
 rename_i hcb
 obtain ⟨r, hr, h⟩ := Option.bind_eq_some_iff.1 h
 obtain ⟨et, h1, h2, h4⟩ := ae4 hty
 obtain ⟨rfl, h5⟩ := abm hgc
 have := xP _ _ _ hkv hk
 subst this
 have hck := ahQ hcb
 simp only [VR] at hx
 subst hx
 obtain ⟨him, es, e1, e2, e3, e4, e5⟩ := hS.mms.mp _ _ h5
 have hhas : m.mm.has gc.1 := .inl (by rw [h5]; simp)
 have hglt := hS.mms.lt hhas
 have hkeys : es.toList.map MapEntry.key = gc.2.map Prod.fst := by
   apply List.ext_getElem?
   intro j
   simpa using e4 j
 have hf := ahS (w := w) h2 kv es.toList gc.2 hkeys r hr
 have fin : ∀ (es' : Array MapEntry) (c' : List (Value × AV)), es'.size = c'.length → (∀ (j : Nat) (e : MapEntry), es'[j]? = some e → e.born = j) → (∀ j : Nat, (es'[j]?).map MapEntry.key = (c'[j]?).map Prod.fst) → bH P w I ρ (c'.map Prod.snd) (fun j => (es'[j]?).map MapEntry.val) →
     SR P (setBlock w gc.1 (.map es' es'.size)) I ρ (m.setM (m.mm.set gc.1 c')) ∧ cM w I ρ m (setBlock w gc.1 (.map es' es'.size)) I ρ (m.setM (m.mm.set gc.1 c')) := by
   intro es' c' q1 q2 q3 q4
   have ho : ∀ arr ty fr, Obj.map es' es'.size ≠ .cells arr ty fr := fun _ _ _ h => by cases h
   have hkp := acX hS hhas (.map es' es'.size) ho
   refine aeZ hS hhas _ ho ⟨fun g c hg => ?_, fun r x hr => by cases hr⟩ (ahK (by rw [h5]; simp))
   unfold Maps.set at hg
   simp only at hg
   split at hg
   · rename_i e; subst e
     cases hg
     exact ⟨him, es', aeY hglt, q1, q2, q3, eF hkp (fun _ _ h => h) _ _ q4⟩
   · rename_i hne
     obtain ⟨u1, u, u2, u3, u4, u5, u6⟩ := hS.mms.mp g c hg
     exact ⟨u1, u, by rw [vP hne]; exact u2, u3, u4, u5, eF hkp (fun _ _ h => h) _ _ u6⟩
 cases r with
 | none =>
   simp only [bK, Option.some.injEq] at h
   subst h
   obtain ⟨s1, s2⟩ := fin (es.push { key := kv, val := vv, born := es.size }) (gc.2 ++ [(kv, v)]) (by simp [e2]) (fun j e he => by
       rw [Array.getElem?_push] at he
       split at he
       · rename_i hj; cases he; exact hj.symm
       · exact e3 j e he) (fun j => by
       rw [Array.getElem?_push]
       split
       · rename_i hj; rw [hj, e2, List.getElem?_append_right (Nat.le_refl _)]; simp
       · rename_i hj
         rw [e4 j]
         by_cases hj2 : j < gc.2.length
         · rw [List.getElem?_append_left hj2]
         · rw [List.getElem?_eq_none (by omega), List.getElem?_eq_none (by simp; omega)]) (by
       refine j9.2 fun j c hj => ?_
       rw [List.map_append] at hj
       by_cases hj2 : j < (gc.2.map Prod.snd).length
       · rw [List.getElem?_append_left hj2] at hj
         obtain ⟨u, h6, h7⟩ := gN e5 hj
         have : j ≠ es.size := by rw [e2]; simp at hj2; omega
         exact ⟨u, by simp only [Array.getElem?_push, if_neg this]; exact h6, h7⟩
       · rw [List.getElem?_append_right (by omega)] at hj
         have hj3 : j = es.size := by
           have := (List.getElem?_eq_some_iff.1 hj).1
           simp at this hj2
           omega
         subst hj3
         simp [e2] at hj
         subst hj
         exact ⟨vv, by simp, hv⟩)
   refine ⟨(), _, I, ρ, ?_, by simp only [eI, undef, VR], s1, s2, fun d y h => by cases h⟩
   simp [Instr.mapUpdate, cT h1, getObj, Sem.run, e1, qX P _ _ (hck _), hf, ae2 _ e1]
 | some i => cases h
theorem aoR (hS:SR P w I ρ m) {t:TypeId} {x k av:AV} (h:uC P m t x k=some av) {xv kv:Value} (hx:VR P w I ρ x xv) (hk:VR P w I ρ k kv):lV P w I ρ (Instr.lookup t xv kv false) av:=by
 unfold uC at h
 split at h
 ·rename_i v h1;cases h;exact aoD hS h1 hx hk
 ·exact aoP hS h hx hk
theorem aoS (hS:SR P w I ρ m) {t:TypeId} {x k v:AV} {out:bS} (h:r7 P m t x k v=some out) {xv kv vv:Value} (hx:VR P w I ρ x xv) (hk:VR P w I ρ k kv) (hv:VR P w I ρ v vv) (addr:Value):hY P w I ρ m ((Instr.mapUpdate t xv kv vv).run P w) (fun _=>undef) out addr:=by
 unfold r7 at h
 split at h
 ·rename_i o h1;cases h;exact aoE hS h1 hx hk hv addr
 ·exact aoQ hS h hx hk hv addr
theorem aoT {t:TypeId} {x k v:AV} {out:bS} (h:r7 P m t x k v=some out):out.wb=none:=by
 unfold r7 at h
 split at h
 ·rename_i o ho
  cases h
  unfold vO at ho
  obtain ⟨_,_,ho⟩:=Option.bind_eq_some_iff.1 ho
  obtain ⟨_,_,ho⟩:=Option.bind_eq_some_iff.1 ho
  obtain ⟨_,_,ho⟩:=Option.bind_eq_some_iff.1 ho
  obtain ⟨_,_,ho⟩:=Option.bind_eq_some_iff.1 ho
  split at ho <;> (simp only [bK,Option.some.injEq] at ho;subst ho;rfl)
 ·unfold zV at h
  obtain ⟨_,_,h⟩:=Option.bind_eq_some_iff.1 h
  obtain ⟨_,_,h⟩:=Option.bind_eq_some_iff.1 h
  obtain ⟨_,_,h⟩:=Option.bind_eq_some_iff.1 h
  split at h
  case isFalse=>cases h
  obtain ⟨_,_,h⟩:=Option.bind_eq_some_iff.1 h
  split at h
  ·cases h
  ·simp only [bK,Option.some.injEq] at h;subst h;rfl
end
end Go.Tw