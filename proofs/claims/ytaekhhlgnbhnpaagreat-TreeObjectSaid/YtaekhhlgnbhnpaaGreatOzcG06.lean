import Derived.Test.YtaekhhlgnbhnpaaGreatOzcG05
import Derived.Maps.RangeRun
set_option linter.unusedVariables false
set_option linter.unusedSimpArgs false
namespace Go.Tw
open Go
open Go.ChangeMaps (setBlock)
open Go.MapKept (bytes_beq)
def aF.setM (m:aF) (mm:Maps):aF:=⟨m.next,m.at_,mm⟩
def Maps.set (mm:Maps) (g:Nat) (c:List (Value×AV)):Maps:=⟨fun j=>if j=g then some c else mm.maps j,fun _=>none⟩
def Maps.walk (mm:Maps) (r:Nat) (x:Nat×List Nat):Maps:=⟨mm.maps,fun j=>if j=r then some x else mm.iters j⟩
def tA (kd:TypeDesc) (k:Value):List (Value×AV)→Option (Option Nat)
 | []=>some none
 | (k',_)::c=>match Instr.sameNow kd k k' with
  | some true=>some (some 0)
  | some false=>(tA kd k c).map fun r=>r.map (·+1)
  | none=>none
def ab1:TypeDesc→Bool
 | .int _ | .string | .bool=>true
 | _=>false
def aaw (P:Program) (t:TypeId):Option AV:=((P.info? t).bind (·.zero)).bind fun z=>if rF z=true then some (.val z) else none
def wX (P:Program) (t:TypeId):Option (TypeDesc×AV):=match P.underlying t with
 | some (.map k e)=>(P.underlying k).bind fun kd=>if ab1 kd=true then (aaw P e).map fun z=>(kd,z) else none
 | _=>none
def qQ (m:aF):AV→Option (Nat×List (Value×AV))
 | .val (.map (some g))=>(m.mm.maps g).map fun c=>(g,c)
 | _=>none
def aax (P:Program) (m:aF) (t:TypeId) (x k:AV):Option AV :=
 (wX P t).bind fun ty=>(qQ m x).bind fun gc=>(iZ k).bind fun kv=>(tA ty.1 kv gc.2).bind fun r=>match r with
  | some i=>(gc.2[i]?).map (·.2)
  | none=>some ty.2
def wY (P:Program) (m:aF) (t:TypeId) (x k v:AV):Option bY :=
 (wX P t).bind fun ty=>(qQ m x).bind fun gc=>(iZ k).bind fun kv=>(tA ty.1 kv gc.2).bind fun r=>match r with
  | some i=>bO eE (m.setM (m.mm.set gc.1 (gc.2.set i (kv,v))))
  | none=>bO eE (m.setM (m.mm.set gc.1 (gc.2++[(kv,v)])))
def aay (m:aF):AV→Option (Nat×(Nat×List Nat)×List (Value×AV))
 | .val (.pointer (some ⟨r,0,none⟩))=>(m.mm.iters r).bind fun x=>(m.mm.maps x.1).map fun c=>(r,x,c)
 | _=>none
def ab2 (m:aF) (x:AV):Option AV:=(aay m x).bind fun i=>(i.2.1.2.getLast?).bind fun j=>(i.2.2[j]?).map fun e => .tup [.val e.1,e.2]
section
variable {P:Program} {w:World} {I:Nat→Prop} {ρ:cK} {m:aF}
theorem apI {w:World} {g:Nat} {o:Obj} (h:w.heap[g]? = some o) (ho:∀ arr ty fr,o ≠ .cells arr ty fr):w.shape? g=none:=by
 unfold World.shape?
 rw [h]
 split
 ·rename_i h2;cases h2;exact absurd rfl (ho _ _ _)
 ·rfl
theorem wZ {w:World} {g x:Nat} {o:Obj} (h:x≠g):(setBlock w g o).heap[x]? = w.heap[x]? := by
 simp only [setBlock,Array.getElem?_setIfInBounds]
 rw [if_neg (fun e=>h e.symm)]
theorem afw {w:World} {g:Nat} {o:Obj} (h:g < w.heap.size):(setBlock w g o).heap[g]? = some o:=by
 simp [setBlock,Array.getElem?_setIfInBounds,h]
theorem j3.obj {mm:Maps} (h:j3 P w I ρ mm) {g:Nat} (hg:mm.has g):∃ o,w.heap[g]? = some o∧∀ arr ty fr,o ≠ .cells arr ty fr:=by
 rcases hg with hg | hg
 ·obtain ⟨c,hc'⟩:=Option.ne_none_iff_exists'.1 hg
  obtain ⟨_,es,h2,_⟩:=h.mp g c hc'
  exact ⟨_,h2,fun _ _ _ h=>by cases h⟩
 ·obtain ⟨x,hx⟩:=Option.ne_none_iff_exists'.1 hg
  obtain ⟨_,c,_,h3,_⟩:=h.it g x hx
  exact ⟨_,h3,fun _ _ _ h=>by cases h⟩
theorem adv (hS:SR P w I ρ m) {g:Nat} (hg:m.mm.has g) (o:Obj) (ho:∀ arr ty fr,o ≠ .cells arr ty fr):gT w (setBlock w g o) I I:=by
 obtain ⟨o0,h0,h1⟩:=hS.mms.obj hg
 refine ⟨fun _ h=>h,fun x hx=>wZ (by rintro rfl;exact hS.mms.im hg hx),fun x y hx => ?_⟩
 by_cases e:x=g
 ·subst e;rw [apI h0 h1] at hx;cases hx
 ·rw [uB (wZ e)];exact hx
theorem afx (hS:SR P w I ρ m) {g:Nat} (hg:m.mm.has g) (o:Obj) (ho:∀ arr ty fr,o ≠ .cells arr ty fr) {mm':Maps} (hmm:j3 P (setBlock w g o) I ρ mm') (hsub:∀ x,mm'.has x→m.mm.has x):SR P (setBlock w g o) I ρ (m.setM mm')∧cP w I ρ m (setBlock w g o) I ρ (m.setM mm'):=by
 have hk:=adv hS hg o ho
 refine ⟨⟨fun b k x y h1 h2 => ?_,hS.inj,fun x hx=>by simpa [setBlock] using hS.lt x hx,hmm⟩,⟨rfl,rfl,rfl,by simp [setBlock],fun x hx hn=>wZ (by rintro rfl;exact hn (.inr hg)),hk.shape,fun _ h=>h,fun _ h => .inl h,fun _ _ h=>h,fun b h1 h2=>absurd h1 h2,fun x hx => ?_,Nat.le_refl _⟩⟩
 ·have hB:=hS.blk b k x y h1 h2
  refine pQ hk (fun _ _ h=>h) hB (wZ ?_) (fun hw=>(hB.wr hw).1)
  rintro rfl
  obtain ⟨arr,fr,h3,_⟩:=hB.cells
  exact hS.mms.not_cells hg h3
 ·rcases hx with ⟨b,k,o',h1,h2,h3⟩ | hx
  ·exact .inl (.inl ⟨b,k,o',h1,h2,h3⟩)
  ·exact .inl (.inr (hsub x hx))
theorem ait (hS:SR P w I ρ m) (o:Obj) {mm':Maps} (hmm:j3 P (w.alloc o) I ρ mm') (hsub:∀ x,mm'.has x→m.mm.has x∨x=w.heap.size):SR P (w.alloc o) I ρ (m.setM mm')∧cP w I ρ m (w.alloc o) I ρ (m.setM mm'):=by
 have hold:∀ g,g < w.heap.size→(w.alloc o).heap[g]? = w.heap[g]? := fun g hg=>by
  show (w.heap.push o)[g]? = _
  rw [Array.getElem?_push,if_neg (by omega)]
 have hk:gT w (w.alloc o) I I:=⟨fun _ h=>h,fun x hx=>hold x (hS.lt x hx),fun x y hx=>by rw [uB (hold x (aar hx))];exact hx⟩
 refine ⟨⟨fun b k x y h1 h2 => ?_,hS.inj,fun x hx=>by have:=hS.lt x hx;simp;omega,hmm⟩,⟨rfl,rfl,rfl,by simp,fun x hx _=>hold x hx,hk.shape,fun _ h=>h,fun _ h => .inl h,fun _ _ h=>h,fun b h1 h2=>absurd h1 h2,fun x hx => ?_,Nat.le_refl _⟩⟩
 ·have hB:=hS.blk b k x y h1 h2
  obtain ⟨arr,fr,h3,_⟩:=hB.cells
  exact pQ hk (fun _ _ h=>h) hB (hold x (vC h3)) (fun hw=>(hB.wr hw).1)
 ·rcases hx with ⟨b,k,o',h1,h2,h3⟩ | hx
  ·exact .inl (.inl ⟨b,k,o',h1,h2,h3⟩)
  ·rcases hsub x hx with h | h
   ·exact .inl (.inr h)
   ·exact .inr (by omega)
theorem afy (kd:TypeDesc) (k:Value):∀ (es:List MapEntry) (c:List (Value×AV)) (i:Nat),es.map MapEntry.key=c.map Prod.fst→∀ r,tA kd k c=some r→Instr.findNow kd k es i=some (r.bind fun j=>(es[j]?).map fun e=>(i+j,e.val))
 | [],[],i,_,r,h=>by simp [tA] at h;subst h;rfl
 | e::es,(k',v)::c,i,hk,r,h=>by
  simp only [List.map_cons,List.cons.injEq] at hk
  obtain ⟨hk1,hk2⟩:=hk
  unfold tA at h
  unfold Instr.findNow
  rw [hk1]
  split at h
  ·rename_i hs
   rw [hs]
   cases h
   simp
  ·rename_i hs
   rw [hs]
   obtain ⟨r',hr',rfl⟩:=awD h
   rw [afy kd k es c (i+1) hk2 r' hr']
   cases r' with
   | none=>rfl
   | some j=>simp [Nat.add_assoc,Nat.add_comm 1 j]
  ·cases h
 | [],_::_,i,hk,r,h=>by simp at hk
 | _::_,[],i,hk,r,h=>by simp at hk
theorem aiu {kd:TypeDesc} {k:Value}:∀ {c:List (Value×AV)} {i:Nat},tA kd k c=some (some i)→∃ kv,c[i]? = some kv∧Instr.sameNow kd k kv.1=some true
 | [],i,h=>by simp [tA] at h
 | (k',v)::c,i,h=>by
  unfold tA at h
  split at h
  ·rename_i hs;cases h;exact ⟨_,rfl,hs⟩
  ·obtain ⟨r',hr',h2⟩:=awD h
   cases r' with
   | none=>simp at h2
   | some j =>
    simp at h2
    subst h2
    obtain ⟨kv,h3,h4⟩:=aiu hr'
    exact ⟨kv,by simpa using h3,h4⟩
  ·cases h
theorem apJ {kd:TypeDesc} {a b:Value} (h:Instr.sameNow kd a b=some true):a=b∧Instr.sameBits 10000 b a=true:=by
 unfold Instr.sameNow at h
 split at h
 ·split at h
  ·rename_i hk;subst hk;simp at h;subst h;exact ⟨rfl,by simp [Instr.sameBits]⟩
  ·cases h
 ·rename_i a b
  have h:(a == b)=true:=by simpa using h
  have e:a=b:=(bytes_beq a b).1 h
  subst e
  exact ⟨rfl,by simp [Instr.sameBits,(bytes_beq a a).2 rfl]⟩
 ·simp at h;subst h;exact ⟨rfl,by simp [Instr.sameBits]⟩
 ·cases h
theorem afz {t:TypeId} {ty:TypeDesc×AV} (h:wX P t=some ty):∃ k e,P.underlying t=some (.map k e)∧P.underlying k=some ty.1∧ab1 ty.1=true∧aaw P e=some ty.2:=by
 unfold wX at h
 split at h
 ·rename_i k e hu
  obtain ⟨kd,hkd,h⟩:=awC h
  split at h
  ·rename_i hk
   obtain ⟨z,hz,rfl⟩:=awD h
   exact ⟨k,e,hu,hkd,hk,hz⟩
  ·cases h
 ·cases h
theorem ab3 {x:AV} {gc:Nat×List (Value×AV)} (h:qQ m x=some gc):x = .val (.map (some gc.1))∧m.mm.maps gc.1=some gc.2:=by
 unfold qQ at h
 split at h
 ·rename_i g
  obtain ⟨c,hc,rfl⟩:=awD h
  exact ⟨rfl,hc⟩
 ·cases h
theorem aiv {t:TypeId} {z:AV} (h:aaw P t=some z):∃ v,(zeroValue t).run P w = .ok v w∧VR P w I ρ z v:=by
 unfold aaw at h
 obtain ⟨v,hv,h⟩:=awC h
 obtain ⟨i,hi,hz⟩:=awC hv
 split at h
 ·cases h
  exact ⟨v,by simp [zeroValue,typeInfo,hi,hz],by simp only [VR]⟩
 ·cases h
theorem adw {kt:TypeId} {kd:TypeDesc} (h:P.underlying kt=some kd) (hk:ab1 kd=true) (b:Bool) (k:Value):(Instr.checkKey b 10000 kt k).run P w = .ok () w:=by
 unfold Instr.checkKey
 cases kd <;> simp [ab1] at hk <;> simp [cX h]
theorem apK (hS:SR P w I ρ m) {t:TypeId} {x k av:AV} (h:aax P m t x k=some av) {xv kv:Value} (hx:VR P w I ρ x xv) (hk:VR P w I ρ k kv):l5 P w I ρ (Instr.lookup t xv kv false) av:=by
 unfold aax at h
 obtain ⟨ty,hty,h⟩:=awC h
 obtain ⟨gc,hgc,h⟩:=awC h
 obtain ⟨kv',hkv,h⟩:=awC h
 obtain ⟨r,hr,h⟩:=awC h
 obtain ⟨kt,et,h1,h2,h3,h4⟩:=afz hty
 obtain ⟨rfl,h5⟩:=ab3 hgc
 have:=yP _ _ _ hkv hk
 subst this
 simp only [VR] at hx
 subst hx
 obtain ⟨_,es,e1,e2,e3,e4,e5⟩:=hS.mms.mp _ _ h5
 have hkeys:es.toList.map MapEntry.key=gc.2.map Prod.fst:=by
  apply List.ext_getElem?
  intro j
  simpa using e4 j
 have hf:=afy ty.1 kv es.toList gc.2 0 hkeys r hr
 cases r with
 | none =>
  simp only [Option.some.injEq] at h
  subst h
  obtain ⟨z,hz1,hz2⟩:=aiv (w:=w) (I:=I) (ρ:=ρ) h4
  refine ⟨z, ?_,hz2⟩
  simp only [Option.bind_none] at hf
  simp [Instr.lookup,cX h1,getObj,Sem.run,e1,adw h2 h3,Instr.findKey,cX h2,hf,hz1]
 | some i =>
  simp only at h
  obtain ⟨e,he,rfl⟩:=awD h
  have hsz:i < es.size:=by rw [e2];exact (List.getElem?_eq_some_iff.1 he).1
  obtain ⟨v,h6,h7⟩:=fY e5 (j:=i) (by rw [List.getElem?_map,he];rfl)
  rw [Array.getElem?_eq_getElem hsz] at h6
  simp only [Option.map_some,Option.some.injEq] at h6
  refine ⟨v, ?_,h7⟩
  rw [Option.bind_some,Array.getElem?_toList,Array.getElem?_eq_getElem hsz,Option.map_some,h6] at hf
  simp [Instr.lookup,cX h1,getObj,Sem.run,e1,adw h2 h3,Instr.findKey,cX h2,hf]
theorem aiw {mm:Maps} {g:Nat} {c:List (Value×AV)} (hg:mm.maps g≠none):∀ x,(mm.set g c).has x→mm.has x:=by
 rintro x (h | h)
 ·unfold Maps.set at h
  simp only at h
  split at h
  ·rename_i e;subst e;exact .inl hg
  ·exact .inl h
 ·exact absurd rfl h
theorem afA {w:World} {g:Nat} {es:Array MapEntry} {clock:Nat} (o:Obj) (hb:w.heap[g]? = some (.map es clock)):(setObj g o).run P w = .ok () (setBlock w g o):=MapKept.run_setObj_map o hb
theorem apL (hS : SR P w I ρ m) {t : TypeId} {x k v : AV} {out : bY} (h : wY P m t x k v = some out) {xv kv vv : Value} (hx : VR P w I ρ x xv) (hk : VR P w I ρ k kv) (hv : VR P w I ρ v vv) (addr : Value) : iD P w I ρ m ((Instr.mapUpdate t xv kv vv).run P w) (fun _ => undef) out addr := by
 unfold wY at h
 obtain ⟨ty, hty, h⟩ := awC h
 obtain ⟨gc, hgc, h⟩ := awC h
 obtain ⟨kv', hkv, h⟩ := awC h
 obtain ⟨r, hr, h⟩ := awC h
 obtain ⟨kt, et, h1, h2, h3, h4⟩ := afz hty
 obtain ⟨rfl, h5⟩ := ab3 hgc
 have := yP _ _ _ hkv hk
 subst this
 simp only [VR] at hx
 subst hx
 obtain ⟨him, es, e1, e2, e3, e4, e5⟩ := hS.mms.mp _ _ h5
 have hhas : m.mm.has gc.1 := .inl (by rw [h5]; simp)
 have hglt := hS.mms.lt hhas
 have hkeys : es.toList.map MapEntry.key = gc.2.map Prod.fst := by
   apply List.ext_getElem?
   intro j
   simpa using e4 j
 have hf := afy ty.1 kv es.toList gc.2 0 hkeys r hr
 have fin : ∀ (es' : Array MapEntry) (c' : List (Value × AV)), es'.size = c'.length → (∀ (j : Nat) (e : MapEntry), es'[j]? = some e → e.born = j) → (∀ j : Nat, (es'[j]?).map MapEntry.key = (c'[j]?).map Prod.fst) → bK P w I ρ (c'.map Prod.snd) (fun j => (es'[j]?).map MapEntry.val) →
     SR P (setBlock w gc.1 (.map es' es'.size)) I ρ (m.setM (m.mm.set gc.1 c')) ∧ cP w I ρ m (setBlock w gc.1 (.map es' es'.size)) I ρ (m.setM (m.mm.set gc.1 c')) := by
   intro es' c' q1 q2 q3 q4
   have ho : ∀ arr ty fr, Obj.map es' es'.size ≠ .cells arr ty fr := fun _ _ _ h => by cases h
   have hkp := adv hS hhas (.map es' es'.size) ho
   refine afx hS hhas _ ho ⟨fun g c hg => ?_, fun r x hr => by cases hr⟩ (aiw (by rw [h5]; simp))
   unfold Maps.set at hg
   simp only at hg
   split at hg
   · rename_i e; subst e
     cases hg
     exact ⟨him, es', afw hglt, q1, q2, q3, eL hkp (fun _ _ h => h) _ _ q4⟩
   · rename_i hne
     obtain ⟨u1, u, u2, u3, u4, u5, u6⟩ := hS.mms.mp g c hg
     exact ⟨u1, u, by rw [wZ hne]; exact u2, u3, u4, u5, eL hkp (fun _ _ h => h) _ _ u6⟩
 cases r with
 | none =>
   simp only [bO, Option.some.injEq] at h
   subst h
   simp only [Option.bind_none] at hf
   obtain ⟨s1, s2⟩ := fin (es.push { key := kv, val := vv, born := es.size }) (gc.2 ++ [(kv, v)]) (by simp [e2]) (fun j e he => by
       rw [Array.getElem?_push] at he
       split at he
       · rename_i hj; cases he; exact hj.symm
       · exact e3 j e he) (fun j => by
       rw [Array.getElem?_push]
       split
       · rename_i hj; rw [hj, e2, List.getElem?_append_right (Nat.le_refl _)]; simp
       · rename_i hj
         rw [e4 j]
         by_cases hj2 : j < gc.2.length
         · rw [List.getElem?_append_left hj2]
         · rw [List.getElem?_eq_none (by omega), List.getElem?_eq_none (by simp; omega)]) (by
       refine j2.2 fun j c hj => ?_
       rw [List.map_append] at hj
       by_cases hj2 : j < (gc.2.map Prod.snd).length
       · rw [List.getElem?_append_left hj2] at hj
         obtain ⟨u, h6, h7⟩ := fY e5 hj
         have : j ≠ es.size := by rw [e2]; simp at hj2; omega
         exact ⟨u, by simp only [Array.getElem?_push, if_neg this]; exact h6, h7⟩
       · rw [List.getElem?_append_right (by omega)] at hj
         have hj3 : j = es.size := by
           have := (List.getElem?_eq_some_iff.1 hj).1
           simp at this hj2
           omega
         subst hj3
         simp [e2] at hj
         subst hj
         exact ⟨vv, by simp, hv⟩)
   refine ⟨(), _, I, ρ, ?_, by simp only [eE, undef, VR], s1, s2, fun d y h => by cases h⟩
   simp [Instr.mapUpdate, cX h1, getObj, Sem.run, e1, adw h2 h3, Instr.findKey, cX h2, hf, afA _ e1]
 | some i =>
   simp only [bO, Option.some.injEq] at h
   subst h
   obtain ⟨kw, hkw, hsame⟩ := aiu hr
   obtain ⟨hke, hbits⟩ := apJ hsame
   have hil := (List.getElem?_eq_some_iff.1 hkw).1
   have hsz : i < es.size := by rw [e2]; exact hil
   have hkey : es[i].key = kv := by
     have := e4 i
     rw [Array.getElem?_eq_getElem hsz, hkw] at this
     simp only [Option.map_some, Option.some.injEq] at this
     rw [this, ← hke]
   rw [← hke] at hbits
   rw [Option.bind_some, Array.getElem?_toList, Array.getElem?_eq_getElem hsz, Option.map_some, Nat.zero_add] at hf
   have hmod : ∀ j : Nat, (es.modify i fun e => { e with key := kv, val := vv })[j]? = if i = j then (es[j]?).map (fun e => { e with key := kv, val := vv }) else es[j]? := fun j => by
     rw [Array.getElem?_modify]
   obtain ⟨s1, s2⟩ := fin (es.modify i fun e => { e with key := kv, val := vv }) (gc.2.set i (kv, v)) (by simp [e2]) (fun j e he => by
       rw [hmod] at he
       split at he
       · obtain ⟨e0, h0, rfl⟩ := awD he
         exact e3 j e0 h0
       · exact e3 j e he) (fun j => by
       rw [hmod, List.getElem?_set]
       split
       · rename_i hj
         subst hj
         rw [Array.getElem?_eq_getElem hsz]
         rfl
       · exact e4 j) (by
       refine j2.2 fun j c hj => ?_
       rw [List.getElem?_map, List.getElem?_set] at hj
       simp only [hmod]
       split at hj
       · rename_i hij
         subst hij
         try rw [if_pos hil] at hj
         simp only [Option.map_some, Option.some.injEq] at hj
         subst hj
         exact ⟨vv, by rw [if_pos rfl, Array.getElem?_eq_getElem hsz]; rfl, hv⟩
       · rename_i hij
         rw [if_neg hij]
         exact fY e5 (by rw [List.getElem?_map]; exact hj))
   refine ⟨(), _, I, ρ, ?_, by simp only [eE, undef, VR], s1, s2, fun d y h => by cases h⟩
   have hst : (Instr.keyThatStays es[i].key kv).run P w = .ok kv w := by
     rw [hkey]
     simp [Instr.keyThatStays, hbits]
   simp [Instr.mapUpdate, cX h1, getObj, Sem.run, e1, adw h2 h3, Instr.findKey, cX h2, hf, Array.getElem?_eq_getElem hsz, hst, afA _ e1]
theorem aix {x:AV} {i:Nat×(Nat×List Nat)×List (Value×AV)} (h:aay m x=some i):x = .val (.pointer (some ⟨i.1,0,none⟩))∧m.mm.iters i.1=some i.2.1∧m.mm.maps i.2.1.1=some i.2.2:=by
 unfold aay at h
 split at h
 ·rename_i r
  obtain ⟨y,hy,h⟩:=awC h
  obtain ⟨c,hc,rfl⟩:=awD h
  exact ⟨rfl,hy,hc⟩
 ·cases h
theorem apM {es:Array MapEntry} (h:∀ (j:Nat) (e:MapEntry),es[j]? = some e→e.born=j):(es.toList.map (·.born)).Nodup:=by
 have:es.toList.map (·.born)=List.range es.size:=by
  apply List.ext_getElem?
  intro j
  rw [List.getElem?_map,Array.getElem?_toList]
  by_cases hj:j < es.size
  ·rw [Array.getElem?_eq_getElem hj,List.getElem?_range hj]
   simp [h j es[j] (Array.getElem?_eq_getElem hj)]
  ·rw [Array.getElem?_eq_none (by omega),List.getElem?_eq_none (by simp;omega)]
   rfl
 rw [this]
 exact List.nodup_range
theorem apN (hS:SR P w I ρ m) {x av:AV} (h:ab2 m x=some av) {xv:Value} (hx:VR P w I ρ x xv):l5 P w I ρ (Instr.entry xv) av:=by
 unfold ab2 at h
 obtain ⟨i,hi,h⟩:=awC h
 obtain ⟨j,hj,h⟩:=awC h
 obtain ⟨e,he,rfl⟩:=awD h
 obtain ⟨rfl,h1,h2⟩:=aix hi
 simp only [VR] at hx
 subst hx
 obtain ⟨_,c,q1,q2,_⟩:=hS.mms.it _ _ h1
 rw [h2] at q1
 cases q1
 obtain ⟨_,es,e1,e2,e3,e4,e5⟩:=hS.mms.mp _ _ h2
 have hsz:j < es.size:=by rw [e2];exact (List.getElem?_eq_some_iff.1 he).1
 have hb:es[j].born=j:=e3 j _ (Array.getElem?_eq_getElem hsz)
 obtain ⟨v,h6,h7⟩:=fY e5 (j:=j) (by rw [List.getElem?_map,he];rfl)
 rw [Array.getElem?_eq_getElem hsz] at h6
 simp only [Option.map_some,Option.some.injEq] at h6
 have hk:=e4 j
 rw [Array.getElem?_eq_getElem hsz,he] at hk
 simp only [Option.map_some,Option.some.injEq] at hk
 have hlast:i.2.1.2=i.2.1.2.dropLast++[j]:=by
  obtain ⟨l,hl⟩:=List.getLast?_eq_some_iff.1 hj
  rw [hl];simp
 have hrun:=run_entry_at (P:=P) w i.1 i.2.1.1 i.2.2.length i.2.1.2.dropLast.toArray es es.size es[j] (by rw [q2,hb,e2];congr 2;rw [hlast];simp) e1 (by simp) (apM e3)
 refine ⟨_,hrun, ?_⟩
 simp only [VR]
 refine ⟨#[es[j].key,es[j].val],rfl,rfl, ?_⟩
 simp only [bK]
 exact ⟨⟨_,rfl,by simp only [VR];exact hk⟩,⟨_,rfl,by rw [h6];exact h7⟩,trivial⟩
def Maps.add (mm:Maps) (g:Nat):Maps:=⟨fun j=>if j=g then some [] else mm.maps j,mm.iters⟩
def aaz (m:aF) (K:bY→Prop):Prop:=∀ g,¬ m.mm.has g→K ⟨.val (.map (some g)),m.setM (m.mm.add g),none⟩
def aaA (P:Program) (m:aF) (t:TypeId) (x:AV) (K:bY→Prop):Prop:=∃ gc,(wX P t).isSome=true∧qQ m x=some gc∧∀ r,¬ m.mm.has r→K ⟨.val (.pointer (some ⟨r,0,none⟩)),m.setM (m.mm.walk r (gc.1,[])),none⟩
def aaB (m:aF) (x:AV) (K:bY→Prop):Prop:=∃ i,aay m x=some i∧((∀ j,j < i.2.2.length→j∈i.2.1.2)→K ⟨.tup [.val (.bool false)],m,none⟩)∧∀ j e,i.2.2[j]? = some e→j ∉ i.2.1.2→K ⟨.tup [.val (.bool true),.val e.1,e.2],m.setM (m.mm.walk i.1 (i.2.1.1,i.2.1.2++[j])),none⟩
theorem aiy (hS:SR P w I ρ m) (o:Obj):gT w (w.alloc o) I I:=by
 have hold:∀ g,g < w.heap.size→(w.alloc o).heap[g]? = w.heap[g]? := fun g hg=>by
  show (w.heap.push o)[g]? = _
  rw [Array.getElem?_push,if_neg (by omega)]
 exact ⟨fun _ h=>h,fun x hx=>hold x (hS.lt x hx),fun x y hx=>by rw [uB (hold x (aar hx))];exact hx⟩
theorem adx {w:World} {o:Obj} {g:Nat} (hg:g < w.heap.size):(w.alloc o).heap[g]? = w.heap[g]? := by
 show (w.heap.push o)[g]? = _
 rw [Array.getElem?_push,if_neg (by omega)]
theorem aiz {w:World} {o:Obj}:(w.alloc o).heap[w.heap.size]? = some o:=by
 show (w.heap.push o)[w.heap.size]? = _
 simp
theorem apO (hS:SR P w I ρ m) {t:TypeId} {K:bY→Prop} (h:aaz m K) (addr:Value):∃ out,K out∧out.wb=none∧iD P w I ρ m ((Instr.makeMap t none).run P w) id out addr:=by
 refine ⟨_,h w.heap.size (fun hh=>by have:=hS.mms.lt hh;omega),rfl, ?_⟩
 have hk:=aiy hS (.map #[] 0)
 obtain ⟨s1,s2⟩:=ait hS (.map #[] 0) (mm':=m.mm.add w.heap.size) ⟨fun g c hg=>by
  unfold Maps.add at hg
  simp only at hg
  split at hg
  ·rename_i e;subst e;cases hg
   exact ⟨fun hi=>by have:=hS.lt _ hi;omega,#[],aiz,rfl,fun j e h=>by simp at h,fun j=>by simp,by simp only [List.map_nil,bK]⟩
  ·have hl:=hS.mms.lt (g:=g) (.inl (by rw [hg];simp))
   obtain ⟨u1,u,u2,u3,u4,u5,u6⟩:=hS.mms.mp g c hg
   exact ⟨u1,u,by rw [adx hl];exact u2,u3,u4,u5,eL hk (fun _ _ h=>h) _ _ u6⟩,fun r x hr=>by
  have hl:=hS.mms.lt (g:=r) (.inr (by rw [show m.mm.iters r=some x from hr];simp))
  obtain ⟨u1,c,u2,u3,u4⟩:=hS.mms.it r x hr
  have hl2:=hS.mms.lt (g:=x.1) (.inl (by rw [u2];simp))
  refine ⟨u1,c, ?_,by rw [adx hl];exact u3,u4⟩
  unfold Maps.add
  simp only
  rw [if_neg (by omega)]
  exact u2⟩ (fun x hx=>by
  rcases hx with hx | hx
  ·unfold Maps.add at hx
   simp only at hx
   split at hx
   ·rename_i e;exact .inr e
   ·exact .inl (.inl hx)
  ·exact .inl (.inr hx))
 exact ⟨.map (some w.heap.size),_,I,ρ,by simp [Instr.makeMap],by simp only [id,VR],s1,s2,fun d y h=>by cases h⟩
theorem apP (hS:SR P w I ρ m) {t:TypeId} {x:AV} {K:bY→Prop} (h:aaA P m t x K) {xv:Value} (hx:VR P w I ρ x xv) (addr:Value):∃ out,K out∧out.wb=none∧iD P w I ρ m ((Instr.range t xv).run P w) id out addr:=by
 obtain ⟨gc,hty,hgc,h⟩:=h
 obtain ⟨ty,hty⟩:=Option.isSome_iff_exists.1 hty
 obtain ⟨kt,et,h1,_⟩:=afz hty
 obtain ⟨rfl,h2⟩:=ab3 hgc
 simp only [VR] at hx
 subst hx
 obtain ⟨him,es,e1,e2,e3,e4,e5⟩:=hS.mms.mp _ _ h2
 have hnew:¬ m.mm.has w.heap.size:=fun hh=>by have:=hS.mms.lt hh;omega
 refine ⟨_,h w.heap.size hnew,rfl, ?_⟩
 have hk:=aiy hS (.mapIter (some gc.1) es.size #[] es.size)
 obtain ⟨s1,s2⟩:=ait hS (.mapIter (some gc.1) es.size #[] es.size) (mm':=m.mm.walk w.heap.size (gc.1,[])) ⟨fun g c hg=>by
  have hl:=hS.mms.lt (g:=g) (.inl (by rw [show m.mm.maps g=some c from hg];simp))
  obtain ⟨u1,u,u2,u3,u4,u5,u6⟩:=hS.mms.mp g c hg
  exact ⟨u1,u,by rw [adx hl];exact u2,u3,u4,u5,eL hk (fun _ _ h=>h) _ _ u6⟩,fun r x hr=>by
  unfold Maps.walk at hr
  simp only at hr
  split at hr
  ·rename_i e;subst e;cases hr
   exact ⟨fun hi=>by have:=hS.lt _ hi;omega,gc.2,h2,by rw [aiz,e2],List.nodup_nil,fun j hj=>by cases hj⟩
  ·have hl:=hS.mms.lt (g:=r) (.inr (by rw [hr];simp))
   obtain ⟨u1,c,u2,u3,u4⟩:=hS.mms.it r x hr
   exact ⟨u1,c,u2,by rw [adx hl];exact u3,u4⟩⟩ (fun x hx=>by
  rcases hx with hx | hx
  ·exact .inl (.inl hx)
  ·unfold Maps.walk at hx
   simp only at hx
   split at hx
   ·rename_i e;exact .inr e
   ·exact .inl (.inr hx))
 exact ⟨.pointer (some ⟨w.heap.size,0,none⟩),_,I,ρ,by simp [Instr.range,cX h1,getObj,Sem.run,e1],by simp only [id,VR],s1,s2,fun d y h=>by cases h⟩
theorem apQ (hS:SR P w I ρ m) {ty:TypeId} {x:AV} {K:bY→Prop} (h:aaB m x K) {xv:Value} (hx:VR P w I ρ x xv) (addr:Value):∃ out,K out∧out.wb=none∧iD P w I ρ m ((Instr.next xv false ty).run P w) id out addr:=by
 obtain ⟨⟨r,⟨g,seen⟩,c⟩,hi,hover,hmore⟩:=h
 obtain ⟨rfl,h1,h2⟩:=aix hi
 simp only at h1 h2 hover hmore
 simp only [VR] at hx
 subst hx
 obtain ⟨him,c',q1,q2,q3,q4⟩:=hS.mms.it _ _ h1
 simp only at q1 q2 q3 q4
 rw [h2] at q1
 cases q1
 obtain ⟨_,es,e1,e2,e3,e4,e5⟩:=hS.mms.mp _ _ h2
 rcases run_next_at (P:=P) w ty r g c.length c.length seen.toArray es es.size q2 e1 (fun x hx=>by
  obtain ⟨j,hj⟩:=List.getElem?_of_mem hx
  rw [Array.getElem?_toList] at hj
  rw [e3 j x hj]
  have:=(Array.getElem?_eq_some_iff.1 hj).1
  omega) (Nat.le_refl _) with ⟨h0,hrun⟩ | ⟨e,he,w1,hw1,hrun⟩
 ·refine ⟨_,hover fun j hj => ?_,rfl, ?_⟩
  ·by_cases hm:j∈seen
   ·exact hm
   ·exfalso
    have hsz:j < es.size:=by omega
    have hb:es[j].born=j:=e3 j _ (Array.getElem?_eq_getElem hsz)
    have:es[j]∈leftOf es seen.toArray:=by
     unfold leftOf
     rw [Array.mem_filter]
     exact ⟨by simp,by simp [hb,hm]⟩
    rw [Array.eq_empty_of_size_eq_zero h0] at this
    simp at this
  ·refine ⟨_,w,I,ρ,hrun, ?_,hS,cP.refl _ _ _ _,fun d y h=>by cases h⟩
   simp only [id,VR]
   refine ⟨#[.bool false],rfl,rfl, ?_⟩
   simp only [bK]
   exact ⟨⟨.bool false,rfl,by simp only [VR]⟩,trivial⟩
 ·have hel:e∈leftOf es seen.toArray:=by simpa using he
  unfold leftOf at hel
  rw [Array.mem_filter] at hel
  obtain ⟨hmem,hns⟩:=hel
  obtain ⟨j,hsz,hje⟩:=Array.mem_iff_getElem.1 hmem
  have hb:e.born=j:=e3 j e (by rw [Array.getElem?_eq_getElem hsz,hje])
  have hjs:j ∉ seen:=by
   rw [hb] at hns
   simpa using hns
  obtain ⟨kv,hkv⟩:∃ kv,c[j]? = some kv:=⟨_,List.getElem?_eq_getElem (by omega)⟩
  obtain ⟨v,h6,h7⟩:=fY e5 (j:=j) (by rw [List.getElem?_map,hkv];rfl)
  rw [Array.getElem?_eq_getElem hsz,hje] at h6
  simp only [Option.map_some,Option.some.injEq] at h6
  have hk:=e4 j
  rw [Array.getElem?_eq_getElem hsz,hkv,hje] at hk
  simp only [Option.map_some,Option.some.injEq] at hk
  have hS1:SR P w1 I ρ m∧cP w I ρ m w1 I ρ m∧w1.heap=w.heap:=by
   rcases hw1 with rfl | rfl
   ·exact ⟨hS,cP.refl _ _ _ _,rfl⟩
   ·exact ⟨aie hS,⟨rfl,rfl,rfl,Nat.le_refl _,fun _ _ _=>rfl,fun _ _ h=>h,fun _ h=>h,fun _ h => .inl h,fun _ _ h=>h,fun b h1 h2=>absurd h1 h2,fun _ h => .inl h,Nat.le_refl _⟩,rfl⟩
  obtain ⟨hS1,hst,hheap⟩:=hS1
  have hhas:m.mm.has r := .inr (by rw [h1];simp)
  have ho:∀ arr ty fr,Obj.mapIter (some g) c.length (seen.toArray.push e.born) es.size ≠ .cells arr ty fr:=fun _ _ _ h=>by cases h
  have hkp:=adv hS1 hhas _ ho
  have hrl:=hS1.mms.lt hhas
  obtain ⟨s1,s2⟩:=afx hS1 hhas _ ho (mm':=m.mm.walk r (g,seen++[j])) ⟨fun g' c' hg=>by
   obtain ⟨u1,u,u2,u3,u4,u5,u6⟩:=hS1.mms.mp g' c' hg
   have hne:g'≠r:=by
    rintro rfl
    rw [hheap,q2] at u2
    cases u2
   exact ⟨u1,u,by rw [wZ hne];exact u2,u3,u4,u5,eL hkp (fun _ _ h=>h) _ _ u6⟩,fun r' x' hr=>by
   unfold Maps.walk at hr
   simp only at hr
   split at hr
   ·rename_i e';subst e';cases hr
    refine ⟨him,c,h2, ?_, ?_,fun i hi => ?_⟩
    ·rw [afw hrl,hb,e2];simp
    ·exact List.nodup_append.2 ⟨q3,by simp,fun a ha b hb'=>by simp at hb';subst hb';rintro rfl;exact hjs ha⟩
    ·simp at hi
     rcases hi with hi | rfl
     ·exact q4 i hi
     ·omega
   ·rename_i hne
    obtain ⟨u1,c',u2,u3,u4⟩:=hS1.mms.it r' x' hr
    exact ⟨u1,c',u2,by rw [wZ hne];exact u3,u4⟩⟩ (fun y hy=>by
   rcases hy with hy | hy
   ·exact .inl hy
   ·unfold Maps.walk at hy
    simp only at hy
    split at hy
    ·rename_i e';rw [e'];exact hhas
    ·exact .inr hy)
  refine ⟨_,hmore j kv hkv hjs,rfl, ?_⟩
  refine ⟨_,_,I,ρ,hrun, ?_,s1,hst.trans s2,fun d y h=>by cases h⟩
  have hkp2:gT w (setBlock w1 r (.mapIter (some g) c.length (seen.toArray.push e.born) es.size)) I I:=⟨fun _ h=>h,fun x hx=>by rw [hkp.same x hx,hheap],fun x y hx=>hkp.shape x y (hst.shape x y hx)⟩
  simp only [id,VR]
  refine ⟨#[.bool true,e.key,e.val],rfl,rfl, ?_⟩
  simp only [bK]
  exact ⟨⟨.bool true,rfl,by simp only [VR]⟩,⟨e.key,rfl,by simp only [VR];exact hk⟩,⟨e.val,rfl,pP hkp2 (fun _ _ h=>h) _ _ (by rw [h6];exact h7)⟩,trivial⟩
end
end Go.Tw
namespace Go.Tw
open Go Go.ChangeMaps
def tB (P:Program) (kt:TypeId) (k:Value):List (Value×AV)→Option (Option Nat)
 | []=>some none
 | (k',_)::c=>match cT P (Op.equal kt k k') with
  | some true=>some (some 0)
  | some false=>(tB P kt k c).map fun r=>r.map (·+1)
  | none=>none
def apR (P:Program) (kt:TypeId) (k:Value):Prop:=∀ b,cT P (Instr.checkKey b 10000 kt k)=some ()
def ab4 (P:Program) (kt:TypeId) (k:Value):Bool:=(cT P (Instr.checkKey true 10000 kt k)).isSome && (cT P (Instr.checkKey false 10000 kt k)).isSome
def afB (P:Program) (kt:TypeId):Bool:=match P.underlying kt with | some (.struct _)=>true | _=>false
def w9 (P:Program) (t:TypeId):Option (TypeId×AV):=match P.underlying t with
 | some (.map k e)=>if afB P k=true then (aaw P e).map fun z=>(k,z) else none
 | _=>none
def ab5 (P:Program) (m:aF) (t:TypeId) (x k:AV):Option AV :=
 (w9 P t).bind fun ty=>(qQ m x).bind fun gc=>(iZ k).bind fun kv=>if ab4 P ty.1 kv=true then (tB P ty.1 kv gc.2).bind fun r=>match r with
  | some i=>(gc.2[i]?).map (·.2)
  | none=>some ty.2
 else none
def aaC (P:Program) (m:aF) (t:TypeId) (x k v:AV):Option bY :=
 (w9 P t).bind fun ty=>(qQ m x).bind fun gc=>(iZ k).bind fun kv=>if ab4 P ty.1 kv=true then (tB P ty.1 kv gc.2).bind fun r=>match r with
  | some _=>none
  | none=>bO eE (m.setM (m.mm.set gc.1 (gc.2++[(kv,v)])))
 else none
def vE (P:Program) (m:aF) (t:TypeId) (x k:AV):Option AV:=match aax P m t x k with
 | some v=>some v
 | none=>ab5 P m t x k
def tC (P:Program) (m:aF) (t:TypeId) (x k v:AV):Option bY:=match wY P m t x k v with
 | some o=>some o
 | none=>aaC P m t x k v
theorem apS {P:Program} {m:aF} {t:TypeId} {x k v:AV} (h:aax P m t x k=some v):vE P m t x k=some v:=by unfold vE;rw [h]
theorem aiA {P:Program} {m:aF} {t:TypeId} {x k v:AV} {o:bY} (h:wY P m t x k v=some o):tC P m t x k v=some o:=by unfold tC;rw [h]
theorem apT {P:Program} {kt:TypeId} (h:afB P kt=true):∃ fs,P.underlying kt=some (.struct fs):=by
 unfold afB at h
 split at h
 ·rename_i fs hu;exact ⟨fs,hu⟩
 ·cases h
theorem afC {P:Program} {t:TypeId} {ty:TypeId×AV} (h:w9 P t=some ty):∃ e,P.underlying t=some (.map ty.1 e)∧(∃ fs,P.underlying ty.1=some (.struct fs))∧aaw P e=some ty.2:=by
 unfold w9 at h
 split at h
 ·rename_i k e hu
  split at h
  ·rename_i hk
   obtain ⟨z,hz,rfl⟩:=awD h
   exact ⟨e,hu,apT hk,hz⟩
  ·cases h
 ·cases h
theorem aiB {P:Program} {t:TypeId} (h:(w9 P t).isSome=true):wX P t=none:=by
 obtain ⟨ty,hty⟩:=Option.isSome_iff_exists.1 h
 obtain ⟨e,h1,⟨fs,h2⟩,_⟩:=afC hty
 unfold wX
 rw [h1]
 simp [h2,ab1]
theorem apU {P:Program} {m:aF} {t:TypeId} {x k:AV} (h:(w9 P t).isSome=true):vE P m t x k=ab5 P m t x k:=by
 unfold vE aax;rw [aiB h];rfl
theorem apV {P:Program} {m:aF} {t:TypeId} {x k v:AV} (h:(w9 P t).isSome=true):tC P m t x k v=aaC P m t x k v:=by
 unfold tC wY;rw [aiB h];rfl
section
variable {P:Program} {w:World} {I:Nat→Prop} {ρ:cK} {m:aF}
theorem aiC {kt:TypeId} {k:Value} (h:ab4 P kt k=true):apR P kt k:=by
 unfold ab4 at h
 rw [Bool.and_eq_true,Option.isSome_iff_exists,Option.isSome_iff_exists] at h
 obtain ⟨⟨u,hu⟩,⟨v,hv⟩⟩:=h
 intro b
 cases b
 ·rw [hv]
 ·rw [hu]
theorem aiD {kt:TypeId} (k:Value):∀ (es:List MapEntry) (c:List (Value×AV)) (i:Nat),es.map MapEntry.key=c.map Prod.fst→∀ r,tB P kt k c=some r→(Instr.findAsking kt k es i).run P w = .ok (r.bind fun j=>(es[j]?).map fun e=>(i+j,e.val)) w
 | [],[],i,_,r,h=>by simp [tB] at h;subst h;simp [Instr.findAsking]
 | e::es,(k',v)::c,i,hk,r,h=>by
  simp only [List.map_cons,List.cons.injEq] at hk
  obtain ⟨hk1,hk2⟩:=hk
  unfold tB at h
  unfold Instr.findAsking
  rw [hk1]
  split at h
  ·rename_i hs
   cases h
   simp [rO P _ _ hs]
  ·rename_i hs
   obtain ⟨r',hr',rfl⟩:=awD h
   have ih:=aiD k es c (i+1) hk2 r' hr'
   simp [rO P _ _ hs,ih]
   cases r' with
   | none=>rfl
   | some j=>simp [Nat.add_assoc,Nat.add_comm 1 j]
  ·cases h
 | [],_::_,i,hk,r,h=>by simp at hk
 | _::_,[],i,hk,r,h=>by simp at hk
theorem aiE {kt:TypeId} (hu:∃ fs,P.underlying kt=some (.struct fs)) (k:Value) (es:List MapEntry) (c:List (Value×AV)) (hk:es.map MapEntry.key=c.map Prod.fst) (r:Option Nat) (h:tB P kt k c=some r):(Instr.findKey kt k es).run P w = .ok (r.bind fun j=>(es[j]?).map fun e=>(j,e.val)) w:=by
 obtain ⟨fs,hu⟩:=hu
 have ha:=aiD (P:=P) (w:=w) k es c 0 hk r h
 simp only [Nat.zero_add] at ha
 cases es with
 | nil =>
  cases c with
  | nil=>simp [tB] at h;subst h;simp [Instr.findKey,cX hu,Instr.findNow]
  | cons x c=>simp at hk
 | cons e es =>
  have hn:Instr.findNow (.struct fs) k (e::es) 0=none:=by simp [Instr.findNow,Instr.sameNow]
  simp [Instr.findKey,cX hu,hn,ha]
theorem apW (hS:SR P w I ρ m) {t:TypeId} {x k av:AV} (h:ab5 P m t x k=some av) {xv kv:Value} (hx:VR P w I ρ x xv) (hk:VR P w I ρ k kv):l5 P w I ρ (Instr.lookup t xv kv false) av:=by
 unfold ab5 at h
 obtain ⟨ty,hty,h⟩:=awC h
 obtain ⟨gc,hgc,h⟩:=awC h
 obtain ⟨kv',hkv,h⟩:=awC h
 split at h
 case isFalse=>cases h
 rename_i hcb
 obtain ⟨r,hr,h⟩:=awC h
 obtain ⟨et,h1,h2,h4⟩:=afC hty
 obtain ⟨rfl,h5⟩:=ab3 hgc
 have:=yP _ _ _ hkv hk
 subst this
 have hck:=aiC hcb
 simp only [VR] at hx
 subst hx
 obtain ⟨_,es,e1,e2,e3,e4,e5⟩:=hS.mms.mp _ _ h5
 have hkeys:es.toList.map MapEntry.key=gc.2.map Prod.fst:=by
  apply List.ext_getElem?
  intro j
  simpa using e4 j
 have hf:=aiE (w:=w) h2 kv es.toList gc.2 hkeys r hr
 cases r with
 | none =>
  simp only [Option.some.injEq] at h
  subst h
  obtain ⟨z,hz1,hz2⟩:=aiv (w:=w) (I:=I) (ρ:=ρ) h4
  refine ⟨z, ?_,hz2⟩
  simp only [Option.bind_none] at hf
  simp [Instr.lookup,cX h1,getObj,Sem.run,e1,rO P _ _ (hck _),hf,hz1]
 | some i =>
  simp only at h
  obtain ⟨e,he,rfl⟩:=awD h
  have hsz:i < es.size:=by rw [e2];exact (List.getElem?_eq_some_iff.1 he).1
  obtain ⟨v,h6,h7⟩:=fY e5 (j:=i) (by rw [List.getElem?_map,he];rfl)
  rw [Array.getElem?_eq_getElem hsz] at h6
  simp only [Option.map_some,Option.some.injEq] at h6
  refine ⟨v, ?_,h7⟩
  rw [Option.bind_some,Array.getElem?_toList,Array.getElem?_eq_getElem hsz,Option.map_some,h6] at hf
  simp [Instr.lookup,cX h1,getObj,Sem.run,e1,rO P _ _ (hck _),hf]
theorem apX (hS : SR P w I ρ m) {t : TypeId} {x k v : AV} {out : bY} (h : aaC P m t x k v = some out) {xv kv vv : Value} (hx : VR P w I ρ x xv) (hk : VR P w I ρ k kv) (hv : VR P w I ρ v vv) (addr : Value) : iD P w I ρ m ((Instr.mapUpdate t xv kv vv).run P w) (fun _ => undef) out addr := by
 unfold aaC at h
 obtain ⟨ty, hty, h⟩ := awC h
 obtain ⟨gc, hgc, h⟩ := awC h
 obtain ⟨kv', hkv, h⟩ := awC h
 split at h
 case isFalse => cases h
 rename_i hcb
 obtain ⟨r, hr, h⟩ := awC h
 obtain ⟨et, h1, h2, h4⟩ := afC hty
 obtain ⟨rfl, h5⟩ := ab3 hgc
 have := yP _ _ _ hkv hk
 subst this
 have hck := aiC hcb
 simp only [VR] at hx
 subst hx
 obtain ⟨him, es, e1, e2, e3, e4, e5⟩ := hS.mms.mp _ _ h5
 have hhas : m.mm.has gc.1 := .inl (by rw [h5]; simp)
 have hglt := hS.mms.lt hhas
 have hkeys : es.toList.map MapEntry.key = gc.2.map Prod.fst := by
   apply List.ext_getElem?
   intro j
   simpa using e4 j
 have hf := aiE (w := w) h2 kv es.toList gc.2 hkeys r hr
 have fin : ∀ (es' : Array MapEntry) (c' : List (Value × AV)), es'.size = c'.length → (∀ (j : Nat) (e : MapEntry), es'[j]? = some e → e.born = j) → (∀ j : Nat, (es'[j]?).map MapEntry.key = (c'[j]?).map Prod.fst) → bK P w I ρ (c'.map Prod.snd) (fun j => (es'[j]?).map MapEntry.val) →
     SR P (setBlock w gc.1 (.map es' es'.size)) I ρ (m.setM (m.mm.set gc.1 c')) ∧ cP w I ρ m (setBlock w gc.1 (.map es' es'.size)) I ρ (m.setM (m.mm.set gc.1 c')) := by
   intro es' c' q1 q2 q3 q4
   have ho : ∀ arr ty fr, Obj.map es' es'.size ≠ .cells arr ty fr := fun _ _ _ h => by cases h
   have hkp := adv hS hhas (.map es' es'.size) ho
   refine afx hS hhas _ ho ⟨fun g c hg => ?_, fun r x hr => by cases hr⟩ (aiw (by rw [h5]; simp))
   unfold Maps.set at hg
   simp only at hg
   split at hg
   · rename_i e; subst e
     cases hg
     exact ⟨him, es', afw hglt, q1, q2, q3, eL hkp (fun _ _ h => h) _ _ q4⟩
   · rename_i hne
     obtain ⟨u1, u, u2, u3, u4, u5, u6⟩ := hS.mms.mp g c hg
     exact ⟨u1, u, by rw [wZ hne]; exact u2, u3, u4, u5, eL hkp (fun _ _ h => h) _ _ u6⟩
 cases r with
 | none =>
   simp only [bO, Option.some.injEq] at h
   subst h
   obtain ⟨s1, s2⟩ := fin (es.push { key := kv, val := vv, born := es.size }) (gc.2 ++ [(kv, v)]) (by simp [e2]) (fun j e he => by
       rw [Array.getElem?_push] at he
       split at he
       · rename_i hj; cases he; exact hj.symm
       · exact e3 j e he) (fun j => by
       rw [Array.getElem?_push]
       split
       · rename_i hj; rw [hj, e2, List.getElem?_append_right (Nat.le_refl _)]; simp
       · rename_i hj
         rw [e4 j]
         by_cases hj2 : j < gc.2.length
         · rw [List.getElem?_append_left hj2]
         · rw [List.getElem?_eq_none (by omega), List.getElem?_eq_none (by simp; omega)]) (by
       refine j2.2 fun j c hj => ?_
       rw [List.map_append] at hj
       by_cases hj2 : j < (gc.2.map Prod.snd).length
       · rw [List.getElem?_append_left hj2] at hj
         obtain ⟨u, h6, h7⟩ := fY e5 hj
         have : j ≠ es.size := by rw [e2]; simp at hj2; omega
         exact ⟨u, by simp only [Array.getElem?_push, if_neg this]; exact h6, h7⟩
       · rw [List.getElem?_append_right (by omega)] at hj
         have hj3 : j = es.size := by
           have := (List.getElem?_eq_some_iff.1 hj).1
           simp at this hj2
           omega
         subst hj3
         simp [e2] at hj
         subst hj
         exact ⟨vv, by simp, hv⟩)
   refine ⟨(), _, I, ρ, ?_, by simp only [eE, undef, VR], s1, s2, fun d y h => by cases h⟩
   simp [Instr.mapUpdate, cX h1, getObj, Sem.run, e1, rO P _ _ (hck _), hf, afA _ e1]
 | some i => cases h
theorem apY (hS:SR P w I ρ m) {t:TypeId} {x k av:AV} (h:vE P m t x k=some av) {xv kv:Value} (hx:VR P w I ρ x xv) (hk:VR P w I ρ k kv):l5 P w I ρ (Instr.lookup t xv kv false) av:=by
 unfold vE at h
 split at h
 ·rename_i v h1;cases h;exact apK hS h1 hx hk
 ·exact apW hS h hx hk
theorem apZ (hS:SR P w I ρ m) {t:TypeId} {x k v:AV} {out:bY} (h:tC P m t x k v=some out) {xv kv vv:Value} (hx:VR P w I ρ x xv) (hk:VR P w I ρ k kv) (hv:VR P w I ρ v vv) (addr:Value):iD P w I ρ m ((Instr.mapUpdate t xv kv vv).run P w) (fun _=>undef) out addr:=by
 unfold tC at h
 split at h
 ·rename_i o h1;cases h;exact apL hS h1 hx hk hv addr
 ·exact apX hS h hx hk hv addr
theorem ap2 {t:TypeId} {x k v:AV} {out:bY} (h:tC P m t x k v=some out):out.wb=none:=by
 unfold tC at h
 split at h
 ·rename_i o ho
  cases h
  unfold wY at ho
  obtain ⟨_,_,ho⟩:=awC ho
  obtain ⟨_,_,ho⟩:=awC ho
  obtain ⟨_,_,ho⟩:=awC ho
  obtain ⟨_,_,ho⟩:=awC ho
  split at ho <;> (simp only [bO,Option.some.injEq] at ho;subst ho;rfl)
 ·unfold aaC at h
  obtain ⟨_,_,h⟩:=awC h
  obtain ⟨_,_,h⟩:=awC h
  obtain ⟨_,_,h⟩:=awC h
  split at h
  case isFalse=>cases h
  obtain ⟨_,_,h⟩:=awC h
  split at h
  ·cases h
  ·simp only [bO,Option.some.injEq] at h;subst h;rfl
end
end Go.Tw