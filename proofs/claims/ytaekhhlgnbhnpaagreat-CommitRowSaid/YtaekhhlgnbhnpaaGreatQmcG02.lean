import Derived.Test.YtaekhhlgnbhnpaaGreatQmcG01
import Derived.Below
set_option linter.unusedVariables false
set_option linter.unusedSimpArgs false
open Array renaming getD_eq_getD_getElem?→ayZ
open Nat renaming le_trans→ayY
open Option renaming ne_none_iff_exists'→ayX
namespace Go.Tw
open Go
def dY (cs:List AV):Prop:=∀ c,c∈cs→dL c=true
abbrev cA:=Nat→Option (Nat×Nat)
def dA:cA:=fun _=>none
mutual
def VR (P:Program) (w:World) (I:Nat→Prop):cA→AV→Value→Prop
 | _,.val x,v=>v=x
 | ρ,.agg cs,v=>∃ vs:Array Value,v = .agg vs∧vs.size=cs.length∧dY cs∧bB P w I ρ cs (fun j=>vs[j]?)
 | ρ,.tup cs,v=>∃ vs:Array Value,v = .tuple vs∧vs.size=cs.length∧bB P w I ρ cs (fun j=>vs[j]?)
 | _,.tree len c cells full,v=>∃ g o cap,v = .slice (some ⟨g,o,none⟩) len cap∧I g∧(len≤c∧c≤cap)∧(full=true→cap=c)∧dY cells∧bB P w I dA cells (fun j=>w.cell? ⟨g,o+j,none⟩)
 | _,.tptr off cells,v=>∃ g o,v = .pointer (some ⟨g,o+off,none⟩)∧I g∧dY cells∧bB P w I dA cells (fun j=>w.cell? ⟨g,o+j,none⟩)
 | _,.emp c full,v=>∃ (ad:Addr) (cap:Nat),v = .slice (some ad) 0 cap∧c≤cap∧(full=true→cap=c)
 | ρ,.sl b off len c full,v=>∃ g o cap ty n s,ρ b=some (g,o)∧v = .slice (some ⟨g,o+off,none⟩) len cap∧(len≤c∧c≤cap)∧(full=true→cap=c)∧w.shape? g=some (ty,n)∧bX P ty=some s∧o+off+cap*s≤n
 | ρ,.ptr b off,v=>∃ g o,ρ b=some (g,o)∧v = .pointer (some ⟨g,o+off,none⟩)
 | ρ,.clo f caps,v=>∃ vs:Array Value,v = .func (.func f) #[] vs∧vs.size=caps.length∧bB P w I ρ caps (fun j=>vs[j]?)
def bB (P:Program) (w:World) (I:Nat→Prop):cA→List AV→(Nat→Option Value)→Prop
 | _,[],_=>True
 | ρ,c::cs,get=>(∃ v,get 0=some v∧VR P w I ρ c v)∧bB P w I ρ cs (fun j=>get (j+1))
end
section
variable {P:Program} {w w':World} {I I':Nat→Prop} {ρ ρ':cA}
theorem lG {cs:List AV} {a:Nat→Option Value}:bB P w I ρ cs a↔∀ j c,cs[j]? = some c→∃ v,a j=some v∧VR P w I ρ c v:=by
 induction cs generalizing a with
 | nil=>simp [bB]
 | cons c cs d =>
  rw [bB,d];constructor
  ·rintro ⟨e,f⟩ j x b;cases j with
   | zero=>simp at b;subst b;exact e
   | succ j=>exact f j x (by simpa using b)
  ·intro h;exact ⟨h 0 c (by simp),fun j x b=>h (j+1) x (by simpa using b)⟩
theorem gW {cs:List AV} {a:Nat→Option Value} (h:bB P w I ρ cs a) {j:Nat} {c:AV} (b:cs[j]? = some c):∃ v,a j=some v∧VR P w I ρ c v:=lG.1 h j c b
theorem lS {cs:List AV} {a:Nat→Option Value} (h:bB P w I ρ cs a) (k:Nat):bB P w I ρ (cs.drop k) (fun j=>a (k+j)) :=
 lG.2 fun j c b=>gW h (by rw [List.getElem?_drop] at b;exact b)
theorem ad2 {cs:List AV} {a:Nat→Option Value} (h:bB P w I ρ cs a) (k:Nat):bB P w I ρ (cs.take k) a :=
 lG.2 fun j c b=>gW h (by
  rw [List.getElem?_take] at b;split at b;· exact b
  ·cases b)
theorem iK {cs:List AV} {b a:Nat→Option Value} (h:bB P w I ρ cs b) (e:∀ j,j < cs.length→a j=b j):bB P w I ρ cs a :=
 lG.2 fun j c d=>by
  obtain ⟨v,g,f⟩:=gW h d;exact ⟨v,(e j (List.getElem?_eq_some_iff.1 d).1).trans g,f⟩
structure iL (w w':World) (I I':Nat→Prop):Prop where
 imm:∀ g,I g→I' g
 same:∀ g,I g→w'.heap[g]? = w.heap[g]?
 shape:∀ g x,w.shape? g=some x→w'.shape? g=some x
theorem ajc {g o:Nat} (h:w'.heap[g]? = w.heap[g]?):w'.cell? ⟨g,o,none⟩=w.cell? ⟨g,o,none⟩:=by
 unfold World.cell?;rw [h]
mutual
theorem rI (k:iL w w' I I') {ρ ρ':cA} (hρ:∀ b x,ρ b=some x→ρ' b=some x):∀ (av:AV) (v:Value),VR P w I ρ av v→VR P w' I' ρ' av v
 | .val x,v,h=>by simpa only [VR] using h
 | .agg cs,v,h=>by
  simp only [VR] at h ⊢
  obtain ⟨vs,h1,h2,h0,h3⟩:=h
  exact ⟨vs,h1,h2,h0,eN k hρ cs _ h3⟩
 | .tup cs,v,h=>by
  simp only [VR] at h ⊢
  obtain ⟨vs,h1,h2,h3⟩:=h
  exact ⟨vs,h1,h2,eN k hρ cs _ h3⟩
 | .tree len c cells full,v,h=>by
  simp only [VR] at h ⊢
  obtain ⟨g,o,cap,h1,h2,h3,h4,h0,h5⟩:=h
  exact ⟨g,o,cap,h1,k.imm g h2,h3,h4,h0,iK (eN k (fun _ _ h=>h) cells _ h5) (fun j _=>ajc (k.same g h2))⟩
 | .tptr off cells,v,h=>by
  simp only [VR] at h ⊢
  obtain ⟨g,o,h1,h2,h0,h5⟩:=h
  exact ⟨g,o,h1,k.imm g h2,h0,iK (eN k (fun _ _ h=>h) cells _ h5) (fun j _=>ajc (k.same g h2))⟩
 | .emp c full,v,h=>by simpa only [VR] using h
 | .sl b off len c full,v,h=>by
  simp only [VR] at h ⊢
  obtain ⟨g,o,cap,ty,n,s,h1,h2,h3,h4,h5,h6,h7⟩:=h
  exact ⟨g,o,cap,ty,n,s,hρ _ _ h1,h2,h3,h4,k.shape _ _ h5,h6,h7⟩
 | .ptr b off,v,h=>by
  simp only [VR] at h ⊢
  obtain ⟨g,o,h1,h2⟩:=h
  exact ⟨g,o,hρ _ _ h1,h2⟩
 | .clo f caps,v,h=>by
  simp only [VR] at h ⊢
  obtain ⟨vs,h1,h2,h3⟩:=h
  exact ⟨vs,h1,h2,eN k hρ caps _ h3⟩
theorem eN (k:iL w w' I I') {ρ ρ':cA} (hρ:∀ b x,ρ b=some x→ρ' b=some x):∀ (cs:List AV) (get:Nat→Option Value),bB P w I ρ cs get→bB P w' I' ρ' cs get
 | [],_,_=>by simp only [bB]
 | c::cs,get,h=>by
  simp only [bB] at h ⊢
  obtain ⟨⟨v,h1,h2⟩,h3⟩:=h
  exact ⟨⟨v,h1,rI k hρ c v h2⟩,eN k hρ cs _ h3⟩
end
end
structure BR (P:Program) (w:World) (I:Nat→Prop) (ρ:cA) (k:eZ) (g o:Nat):Prop where
 one:dY k.cells
 cells:∃ arr fr,w.heap[g]? = some (.cells arr k.el fr)∧bB P w I (if k.kind = .flat then dA else ρ) k.cells (fun j=>arr[o+j]?)
 wr:k.wr=true→¬ I g∧∀ j,w.frozen? ⟨g,j,none⟩=true→∀ n ty,w.shape? g=some (ty,n)→n≤j
 im:k.wr=false→I g
 all1:k.wr=true→∀ arr ty fr,w.heap[g]? = some (.cells arr ty fr)→∀ v∈arr.toList,v.oneCell'=true
 nostr:k.wr=true→tR P k.el=false→∀ j,w.frozen? ⟨g,j,none⟩=false
structure MR (P:Program) (w:World) (I:Nat→Prop) (ρ:cA) (g:Nat) (c:List (Value×AV)):Prop where
 im:¬ I g
 es:∃ es:Array MapEntry,w.heap[g]? = some (.map es es.size)∧es.size=c.length∧(∀ (j:Nat) (e:MapEntry),es[j]? = some e→e.born=j)∧(∀ j:Nat,(es[j]?).map MapEntry.key=(c[j]?).map Prod.fst)∧bB P w I ρ (c.map Prod.snd) (fun j=>(es[j]?).map MapEntry.val)
structure IR (w:World) (I:Nat→Prop) (mm:Maps) (r:Nat) (x:Nat×List Nat):Prop where
 im:¬ I r
 it:∃ c,mm.maps x.1=some c∧w.heap[r]? = some (.mapIter (some x.1) c.length x.2.toArray c.length)∧x.2.Nodup∧∀ j∈x.2,j < c.length
structure kG (P:Program) (w:World) (I:Nat→Prop) (ρ:cA) (mm:Maps):Prop where
 mp:∀ g c,mm.maps g=some c→MR P w I ρ g c
 it:∀ r x,mm.iters r=some x→IR w I mm r x
structure SR (P:Program) (w:World) (I:Nat→Prop) (ρ:cA) (m:aF):Prop where
 blk:∀ b k g o,m.at_ b=some k→ρ b=some (g,o)→BR P w I ρ k g o
 inj:∀ b b' k k' g o o',m.at_ b=some k→m.at_ b'=some k'→ρ b=some (g,o)→ρ b'=some (g,o')→k.wr=true→b=b'
 lt:∀ g,I g→g < w.heap.size
 mms:kG P w I ρ m.mm
def Wr (ρ:cA) (m:aF) (g:Nat):Prop:=(∃ b k o,m.at_ b=some k∧k.wr=true∧ρ b=some (g,o))∨m.mm.has g
theorem kG.keep {P:Program} {w w':World} {I a:Nat→Prop} {ρ ρ':cA} {mm:Maps} (h:kG P w I ρ mm) (k:iL w w' I a) (p:∀ b x,ρ b=some x→ρ' b=some x) (o:∀ g,mm.has g→w'.heap[g]? = w.heap[g]? ∧ (a g→I g)):kG P w' a ρ' mm:=by
 refine ⟨fun g c m => ?_,fun r x n => ?_⟩
 ·obtain ⟨l,s,i,f,d,t,q⟩:=h.mp g c m;obtain ⟨e,j⟩:=o g (.inl (by rw [m];simp));exact ⟨fun hi=>l (j hi),s,by rw [e];exact i,f,d,t,eN k p _ _ q⟩
 ·obtain ⟨l,c,i,f,d⟩:=h.it r x n;obtain ⟨e,j⟩:=o r (.inr (by rw [n];simp));exact ⟨fun hi=>l (j hi),c,i,by rw [e];exact f,d⟩
theorem kG.not_cells {P:Program} {w:World} {I:Nat→Prop} {ρ:cA} {mm:Maps} (h:kG P w I ρ mm) {g:Nat} (a:mm.has g) {arr:Array Value} {ty:TypeId} {e:Nat×Nat} (b:w.heap[g]? = some (.cells arr ty e)):False:=by
 rcases a with a | a
 ·obtain ⟨c,d⟩:=ayX.1 a;obtain ⟨_,k,j,_⟩:=h.mp g c d;rw [j] at b;cases b
 ·obtain ⟨x,f⟩:=ayX.1 a;obtain ⟨_,c,_,i,_⟩:=h.it g x f;rw [i] at b;cases b
theorem kG.lt {P:Program} {w:World} {I:Nat→Prop} {ρ:cA} {mm:Maps} (h:kG P w I ρ mm) {g:Nat} (a:mm.has g):g < w.heap.size:=by
 by_cases e:g < w.heap.size
 ·exact e
 ·exfalso;have b:w.heap[g]? = none:=Array.getElem?_eq_none (by omega);rcases a with a | a
  ·obtain ⟨c,d⟩:=ayX.1 a;obtain ⟨_,k,j,_⟩:=h.mp g c d;rw [j] at b;cases b
  ·obtain ⟨x,f⟩:=ayX.1 a;obtain ⟨_,c,_,i,_⟩:=h.it g x f;rw [i] at b;cases b
theorem kG.im {P:Program} {w:World} {I:Nat→Prop} {ρ:cA} {mm:Maps} (h:kG P w I ρ mm) {g:Nat} (a:mm.has g):¬ I g:=by
 rcases a with a | a
 ·obtain ⟨c,b⟩:=ayX.1 a;exact (h.mp g c b).im
 ·obtain ⟨x,d⟩:=ayX.1 a;exact (h.it g x d).im
theorem kG.none {P:Program} {w:World} {I:Nat→Prop} {ρ:cA}:kG P w I ρ ⟨fun _=>none,fun _=>none⟩:=⟨fun _ _ h=>(by cases h),fun _ _ h=>(by cases h)⟩
theorem zH {g:Nat}:¬ aF.empty.mm.has g:=by rintro (h | h) <;> exact h rfl
structure cM (w:World) (I:Nat→Prop) (ρ:cA) (m:aF) (w':World) (I':Nat→Prop) (ρ':cA) (m':aF):Prop where
 os:w'.os=w.os
 tape:w'.tape=w.tape
 output:w'.output=w.output
 size:w.heap.size≤w'.heap.size
 same:∀ g,g < w.heap.size→¬ Wr ρ m g→w'.heap[g]? = w.heap[g]?
 shape:∀ g x,w.shape? g=some x→w'.shape? g=some x
 imm:∀ g,I g→I' g
 back:∀ g,I' g→I g∨Wr ρ m g∨w.heap.size≤g
 ext:∀ b x,ρ b=some x→ρ' b=some x
 lo:∀ b,ρ b=none→ρ' b≠none→m.next≤b∧b < m'.next
 own:∀ g,Wr ρ' m' g→Wr ρ m g∨w.heap.size≤g
 next:m.next≤m'.next
section
variable {P:Program} {w w' w'':World} {I I' I'':Nat→Prop} {ρ ρ' ρ'':cA} {m m' m'':aF}
theorem SR.notWr (h:SR P w I ρ m) {g:Nat} (c:I g):¬ Wr ρ m g:=by
 rintro (⟨b,k,o,a,d,e⟩ | a)
 ·exact ((h.blk b k g o a e).wr d).1 c
 ·exact h.mms.im a c
theorem cM.keeps (s:cM w I ρ m w' I' ρ' m') (h:SR P w I ρ m):iL w w' I I' :=
 ⟨s.imm,fun g a=>s.same g (h.lt g a) (h.notWr a),s.shape⟩
theorem cM.refl (w:World) (I:Nat→Prop) (ρ:cA) (m:aF):cM w I ρ m w I ρ m :=
 ⟨rfl,rfl,rfl,Nat.le_refl _,fun _ _ _=>rfl,fun _ _ h=>h,fun _ h=>h,fun _ h => .inl h,fun _ _ h=>h,fun b c a=>absurd c a,fun _ h => .inl h,Nat.le_refl _⟩
theorem cM.trans (s:cM w I ρ m w' I' ρ' m') (t:cM w' I' ρ' m' w'' I'' ρ'' m''):cM w I ρ m w'' I'' ρ'' m'' where
 os:=t.os.trans s.os
 tape:=t.tape.trans s.tape
 output:=t.output.trans s.output
 size:=ayY s.size t.size
 same g hg hn:=by
  rw [t.same g (Nat.lt_of_lt_of_le hg s.size) (fun h => ?_),s.same g hg hn];rcases s.own g h with h | h
  ·exact hn h
  ·omega
 shape g x h:=t.shape g x (s.shape g x h)
 imm g h:=t.imm g (s.imm g h)
 back g h:=by
  rcases t.back g h with h | h | h
  ·exact s.back g h
  ·rcases s.own g h with h | h
   ·exact .inr (.inl h)
   ·exact .inr (.inr h)
  ·exact .inr (.inr (ayY s.size h))
 ext b x h:=t.ext b x (s.ext b x h)
 lo b h1 h2:=by
  by_cases h:ρ' b=none
  ·have:=t.lo b h h2;have:=s.next;omega
  ·have:=s.lo b h1 h;have:=t.next;omega
 own g h:=by
  rcases t.own g h with h | h
  ·exact s.own g h
  ·exact .inr (ayY s.size h)
 next:=ayY s.next t.next
theorem aqz (s:cM w I ρ m w' I' ρ' m') (h:SR P w I ρ m) {a:AV} {v:Value} (b:VR P w I ρ a v):VR P w' I' ρ' a v:=rI (s.keeps h) s.ext a v b
theorem aqA (s:cM w I ρ m w' I' ρ' m') (h:SR P w I ρ m) {cs:List AV} {a:Nat→Option Value} (b:bB P w I ρ cs a):bB P w' I' ρ' cs a:=eN (s.keeps h) s.ext cs a b
def ER (P:Program) (w:World) (I:Nat→Prop) (ρ:cA) (e:bC) (a:Act):Prop:=∀ t,VR P w I ρ (e t) (a.tmps.getD t undef)
theorem ajd (s:cM w I ρ m w' I' ρ' m') (h:SR P w I ρ m) {e:bC} {a:Act} (b:ER P w I ρ e a):ER P w' I' ρ' e a:=fun t=>aqz s h (b t)
theorem age {e:bC} {a:Act} (c:ER P w I ρ e a) {d:Option Nat} {f:AV} {v:Value} (i:∀ t,d=some t→t < a.tmps.size) (g:VR P w I ρ f v):ER P w I ρ (e.put d f) (a.put d v):=by
 intro t;cases d with
 | none=>exact c t
 | some d =>
  have b:=i d rfl;simp only [bC.put,bC.set,Act.put];by_cases h:t=d
  ·subst h;simp only [if_true];rw [ayZ,Array.getElem?_setIfInBounds_self_of_lt b];exact g
  ·rw [if_neg h,ayZ,Array.getElem?_setIfInBounds_ne (fun e=>h e.symm),←ayZ];exact c t
theorem dU {e:bC} {a:Act} (b:ER P w I ρ e a) (x:Operand):VR P w I ρ (opd e x) (a.eval x):=by
 cases x with
 | tmp t=>exact b t
 | const v=>simp only [opd,Act.eval,VR]
 | global g=>simp only [opd,Act.eval,VR]
 | func f=>simp only [opd,Act.eval,VR];exact ⟨#[],rfl,rfl,by simp only [bB]⟩
end
end Go.Tw