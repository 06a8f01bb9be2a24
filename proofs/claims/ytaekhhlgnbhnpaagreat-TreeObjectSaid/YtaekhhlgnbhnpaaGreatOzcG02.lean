import Derived.Test.YtaekhhlgnbhnpaaGreatOzcG01
import Derived.Below
set_option linter.unusedVariables false
set_option linter.unusedSimpArgs false
namespace Go.Tw
open Go
def eF (cs:List AV):Prop:=∀ c,c∈cs→dF c=true
abbrev cK:=Nat→Option (Nat×Nat)
def dL:cK:=fun _=>none
mutual
def VR (P:Program) (w:World) (I:Nat→Prop):cK→AV→Value→Prop
 | _,.val x,v=>v=x
 | ρ,.agg cs,v=>∃ vs:Array Value,v = .agg vs∧vs.size=cs.length∧eF cs∧bK P w I ρ cs (fun j=>vs[j]?)
 | ρ,.tup cs,v=>∃ vs:Array Value,v = .tuple vs∧vs.size=cs.length∧bK P w I ρ cs (fun j=>vs[j]?)
 | _,.tree len c cells full,v=>∃ g o cap,v = .slice (some ⟨g,o,none⟩) len cap∧I g∧(len≤c∧c≤cap)∧(full=true→cap=c)∧eF cells∧bK P w I dL cells (fun j=>w.cell? ⟨g,o+j,none⟩)
 | _,.tptr off cells,v=>∃ g o,v = .pointer (some ⟨g,o+off,none⟩)∧I g∧eF cells∧bK P w I dL cells (fun j=>w.cell? ⟨g,o+j,none⟩)
 | _,.emp c full,v=>∃ (ad:Addr) (cap:Nat),v = .slice (some ad) 0 cap∧c≤cap∧(full=true→cap=c)
 | ρ,.sl b off len c full,v=>∃ g o cap ty n s,ρ b=some (g,o)∧v = .slice (some ⟨g,o+off,none⟩) len cap∧(len≤c∧c≤cap)∧(full=true→cap=c)∧w.shape? g=some (ty,n)∧cH P ty=some s∧o+off+cap*s≤n
 | ρ,.ptr b off,v=>∃ g o,ρ b=some (g,o)∧v = .pointer (some ⟨g,o+off,none⟩)
 | ρ,.clo f caps,v=>∃ vs:Array Value,v = .func (.func f) #[] vs∧vs.size=caps.length∧bK P w I ρ caps (fun j=>vs[j]?)
def bK (P:Program) (w:World) (I:Nat→Prop):cK→List AV→(Nat→Option Value)→Prop
 | _,[],_=>True
 | ρ,c::cs,get=>(∃ v,get 0=some v∧VR P w I ρ c v)∧bK P w I ρ cs (fun j=>get (j+1))
end
section
variable {P:Program} {w w':World} {I I':Nat→Prop} {ρ ρ':cK}
theorem j2 {cs:List AV} {get:Nat→Option Value}:bK P w I ρ cs get↔∀ j c,cs[j]? = some c→∃ v,get j=some v∧VR P w I ρ c v:=by
 induction cs generalizing get with
 | nil=>simp [bK]
 | cons c cs ih =>
  rw [bK,ih]
  constructor
  ·rintro ⟨h0,h1⟩ j x hj
   cases j with
   | zero=>simp at hj;subst hj;exact h0
   | succ j=>exact h1 j x (by simpa using hj)
  ·intro h
   exact ⟨h 0 c (by simp),fun j x hj=>h (j+1) x (by simpa using hj)⟩
theorem fY {cs:List AV} {get:Nat→Option Value} (h:bK P w I ρ cs get) {j:Nat} {c:AV} (hj:cs[j]? = some c):∃ v,get j=some v∧VR P w I ρ c v:=j2.1 h j c hj
theorem kX {cs:List AV} {get:Nat→Option Value} (h:bK P w I ρ cs get) (k:Nat):bK P w I ρ (cs.drop k) (fun j=>get (k+j)) :=
 j2.2 fun j c hj=>fY h (by rw [List.getElem?_drop] at hj;exact hj)
theorem ade {cs : List AV} {get : Nat → Option Value} (h : bK P w I ρ cs get) (k : Nat) : bK P w I ρ (cs.take k) get :=
 j2.2 fun j c hj => fY h (by rw [List.getElem?_take] at hj; split at hj; · exact hj
                             · cases hj)
theorem iB {cs:List AV} {get get':Nat→Option Value} (h:bK P w I ρ cs get) (he:∀ j,j < cs.length→get' j=get j):bK P w I ρ cs get' :=
 j2.2 fun j c hj=>by
  obtain ⟨v,h1,h2⟩:=fY h hj
  exact ⟨v,(he j (List.getElem?_eq_some_iff.1 hj).1).trans h1,h2⟩
structure gT (w w':World) (I I':Nat→Prop):Prop where
 imm:∀ g,I g→I' g
 same:∀ g,I g→w'.heap[g]? = w.heap[g]?
 shape:∀ g x,w.shape? g=some x→w'.shape? g=some x
theorem ahS {g o:Nat} (h:w'.heap[g]? = w.heap[g]?):w'.cell? ⟨g,o,none⟩=w.cell? ⟨g,o,none⟩:=by
 unfold World.cell?;rw [h]
mutual
theorem pP (k:gT w w' I I') {ρ ρ':cK} (hρ:∀ b x,ρ b=some x→ρ' b=some x):∀ (av:AV) (v:Value),VR P w I ρ av v→VR P w' I' ρ' av v
 | .val x,v,h=>by simpa only [VR] using h
 | .agg cs,v,h=>by
  simp only [VR] at h ⊢
  obtain ⟨vs,h1,h2,h0,h3⟩:=h
  exact ⟨vs,h1,h2,h0,eL k hρ cs _ h3⟩
 | .tup cs,v,h=>by
  simp only [VR] at h ⊢
  obtain ⟨vs,h1,h2,h3⟩:=h
  exact ⟨vs,h1,h2,eL k hρ cs _ h3⟩
 | .tree len c cells full,v,h=>by
  simp only [VR] at h ⊢
  obtain ⟨g,o,cap,h1,h2,h3,h4,h0,h5⟩:=h
  exact ⟨g,o,cap,h1,k.imm g h2,h3,h4,h0,iB (eL k (fun _ _ h=>h) cells _ h5) (fun j _=>ahS (k.same g h2))⟩
 | .tptr off cells,v,h=>by
  simp only [VR] at h ⊢
  obtain ⟨g,o,h1,h2,h0,h5⟩:=h
  exact ⟨g,o,h1,k.imm g h2,h0,iB (eL k (fun _ _ h=>h) cells _ h5) (fun j _=>ahS (k.same g h2))⟩
 | .emp c full,v,h=>by simpa only [VR] using h
 | .sl b off len c full,v,h=>by
  simp only [VR] at h ⊢
  obtain ⟨g,o,cap,ty,n,s,h1,h2,h3,h4,h5,h6,h7⟩:=h
  exact ⟨g,o,cap,ty,n,s,hρ _ _ h1,h2,h3,h4,k.shape _ _ h5,h6,h7⟩
 | .ptr b off,v,h=>by
  simp only [VR] at h ⊢
  obtain ⟨g,o,h1,h2⟩:=h
  exact ⟨g,o,hρ _ _ h1,h2⟩
 | .clo f caps,v,h=>by
  simp only [VR] at h ⊢
  obtain ⟨vs,h1,h2,h3⟩:=h
  exact ⟨vs,h1,h2,eL k hρ caps _ h3⟩
theorem eL (k:gT w w' I I') {ρ ρ':cK} (hρ:∀ b x,ρ b=some x→ρ' b=some x):∀ (cs:List AV) (get:Nat→Option Value),bK P w I ρ cs get→bK P w' I' ρ' cs get
 | [],_,_=>by simp only [bK]
 | c::cs,get,h=>by
  simp only [bK] at h ⊢
  obtain ⟨⟨v,h1,h2⟩,h3⟩:=h
  exact ⟨⟨v,h1,pP k hρ c v h2⟩,eL k hρ cs _ h3⟩
end
end
structure BR (P:Program) (w:World) (I:Nat→Prop) (ρ:cK) (k:eP) (g o:Nat):Prop where
 one:eF k.cells
 cells:∃ arr fr,w.heap[g]? = some (.cells arr k.el fr)∧bK P w I (if k.kind = .flat then dL else ρ) k.cells (fun j=>arr[o+j]?)
 wr:k.wr=true→¬ I g∧∀ j,w.frozen? ⟨g,j,none⟩=true→∀ n ty,w.shape? g=some (ty,n)→n≤j
 im:k.wr=false→I g
 all1:k.wr=true→∀ arr ty fr,w.heap[g]? = some (.cells arr ty fr)→∀ v∈arr.toList,v.oneCell'=true
 nostr:k.wr=true→rG P k.el=false→∀ j,w.frozen? ⟨g,j,none⟩=false
structure MR (P:Program) (w:World) (I:Nat→Prop) (ρ:cK) (g:Nat) (c:List (Value×AV)):Prop where
 im:¬ I g
 es:∃ es:Array MapEntry,w.heap[g]? = some (.map es es.size)∧es.size=c.length∧(∀ (j:Nat) (e:MapEntry),es[j]? = some e→e.born=j)∧(∀ j:Nat,(es[j]?).map MapEntry.key=(c[j]?).map Prod.fst)∧bK P w I ρ (c.map Prod.snd) (fun j=>(es[j]?).map MapEntry.val)
structure IR (w:World) (I:Nat→Prop) (mm:Maps) (r:Nat) (x:Nat×List Nat):Prop where
 im:¬ I r
 it:∃ c,mm.maps x.1=some c∧w.heap[r]? = some (.mapIter (some x.1) c.length x.2.toArray c.length)∧x.2.Nodup∧∀ j∈x.2,j < c.length
structure j3 (P:Program) (w:World) (I:Nat→Prop) (ρ:cK) (mm:Maps):Prop where
 mp:∀ g c,mm.maps g=some c→MR P w I ρ g c
 it:∀ r x,mm.iters r=some x→IR w I mm r x
structure SR (P:Program) (w:World) (I:Nat→Prop) (ρ:cK) (m:aF):Prop where
 blk:∀ b k g o,m.at_ b=some k→ρ b=some (g,o)→BR P w I ρ k g o
 inj:∀ b b' k k' g o o',m.at_ b=some k→m.at_ b'=some k'→ρ b=some (g,o)→ρ b'=some (g,o')→k.wr=true→b=b'
 lt:∀ g,I g→g < w.heap.size
 mms:j3 P w I ρ m.mm
def Wr (ρ:cK) (m:aF) (g:Nat):Prop:=(∃ b k o,m.at_ b=some k∧k.wr=true∧ρ b=some (g,o))∨m.mm.has g
theorem j3.keep {P:Program} {w w':World} {I I':Nat→Prop} {ρ ρ':cK} {mm:Maps} (h:j3 P w I ρ mm) (k:gT w w' I I') (hρ:∀ b x,ρ b=some x→ρ' b=some x) (hh:∀ g,mm.has g→w'.heap[g]? = w.heap[g]? ∧ (I' g→I g)):j3 P w' I' ρ' mm:=by
 refine ⟨fun g c hg => ?_,fun r x hr => ?_⟩
 ·obtain ⟨h1,es,h2,h3,h4,h5,h6⟩:=h.mp g c hg
  obtain ⟨h7,h8⟩:=hh g (.inl (by rw [hg];simp))
  exact ⟨fun hi=>h1 (h8 hi),es,by rw [h7];exact h2,h3,h4,h5,eL k hρ _ _ h6⟩
 ·obtain ⟨h1,c,h2,h3,h4⟩:=h.it r x hr
  obtain ⟨h7,h8⟩:=hh r (.inr (by rw [hr];simp))
  exact ⟨fun hi=>h1 (h8 hi),c,h2,by rw [h7];exact h3,h4⟩
theorem j3.not_cells {P:Program} {w:World} {I:Nat→Prop} {ρ:cK} {mm:Maps} (h:j3 P w I ρ mm) {g:Nat} (hg:mm.has g) {arr:Array Value} {ty:TypeId} {fr:Nat×Nat} (hc:w.heap[g]? = some (.cells arr ty fr)):False:=by
 rcases hg with hg | hg
 ·obtain ⟨c,hc'⟩:=Option.ne_none_iff_exists'.1 hg
  obtain ⟨_,es,h2,_⟩:=h.mp g c hc'
  rw [h2] at hc
  cases hc
 ·obtain ⟨x,hx⟩:=Option.ne_none_iff_exists'.1 hg
  obtain ⟨_,c,_,h3,_⟩:=h.it g x hx
  rw [h3] at hc
  cases hc
theorem j3.lt {P:Program} {w:World} {I:Nat→Prop} {ρ:cK} {mm:Maps} (h:j3 P w I ρ mm) {g:Nat} (hg:mm.has g):g < w.heap.size:=by
 by_cases hl:g < w.heap.size
 ·exact hl
 ·exfalso
  have hn:w.heap[g]? = none:=Array.getElem?_eq_none (by omega)
  rcases hg with hg | hg
  ·obtain ⟨c,hc'⟩:=Option.ne_none_iff_exists'.1 hg
   obtain ⟨_,es,h2,_⟩:=h.mp g c hc'
   rw [h2] at hn;cases hn
  ·obtain ⟨x,hx⟩:=Option.ne_none_iff_exists'.1 hg
   obtain ⟨_,c,_,h3,_⟩:=h.it g x hx
   rw [h3] at hn;cases hn
theorem j3.im {P:Program} {w:World} {I:Nat→Prop} {ρ:cK} {mm:Maps} (h:j3 P w I ρ mm) {g:Nat} (hg:mm.has g):¬ I g:=by
 rcases hg with hg | hg
 ·obtain ⟨c,hc'⟩:=Option.ne_none_iff_exists'.1 hg
  exact (h.mp g c hc').im
 ·obtain ⟨x,hx⟩:=Option.ne_none_iff_exists'.1 hg
  exact (h.it g x hx).im
theorem j3.none {P:Program} {w:World} {I:Nat→Prop} {ρ:cK}:j3 P w I ρ ⟨fun _=>none,fun _=>none⟩:=⟨fun _ _ h=>(by cases h),fun _ _ h=>(by cases h)⟩
theorem wS {g:Nat}:¬ aF.empty.mm.has g:=by rintro (h | h) <;> exact h rfl
structure cP (w:World) (I:Nat→Prop) (ρ:cK) (m:aF) (w':World) (I':Nat→Prop) (ρ':cK) (m':aF):Prop where
 os:w'.os=w.os
 tape:w'.tape=w.tape
 output:w'.output=w.output
 size:w.heap.size≤w'.heap.size
 same:∀ g,g < w.heap.size→¬ Wr ρ m g→w'.heap[g]? = w.heap[g]?
 shape:∀ g x,w.shape? g=some x→w'.shape? g=some x
 imm:∀ g,I g→I' g
 back:∀ g,I' g→I g∨Wr ρ m g∨w.heap.size≤g
 ext:∀ b x,ρ b=some x→ρ' b=some x
 lo:∀ b,ρ b=none→ρ' b≠none→m.next≤b∧b < m'.next
 own:∀ g,Wr ρ' m' g→Wr ρ m g∨w.heap.size≤g
 next:m.next≤m'.next
section
variable {P:Program} {w w' w'':World} {I I' I'':Nat→Prop} {ρ ρ' ρ'':cK} {m m' m'':aF}
theorem SR.notWr (h:SR P w I ρ m) {g:Nat} (hg:I g):¬ Wr ρ m g:=by
 rintro (⟨b,k,o,h1,h2,h3⟩ | h1)
 ·exact ((h.blk b k g o h1 h3).wr h2).1 hg
 ·exact h.mms.im h1 hg
theorem cP.keeps (s:cP w I ρ m w' I' ρ' m') (h:SR P w I ρ m):gT w w' I I' :=
 ⟨s.imm,fun g hg=>s.same g (h.lt g hg) (h.notWr hg),s.shape⟩
theorem cP.refl (w:World) (I:Nat→Prop) (ρ:cK) (m:aF):cP w I ρ m w I ρ m :=
 ⟨rfl,rfl,rfl,Nat.le_refl _,fun _ _ _=>rfl,fun _ _ h=>h,fun _ h=>h,fun _ h => .inl h,fun _ _ h=>h,fun b h1 h2=>absurd h1 h2,fun _ h => .inl h,Nat.le_refl _⟩
theorem cP.trans (s:cP w I ρ m w' I' ρ' m') (t:cP w' I' ρ' m' w'' I'' ρ'' m''):cP w I ρ m w'' I'' ρ'' m'' where
 os:=t.os.trans s.os
 tape:=t.tape.trans s.tape
 output:=t.output.trans s.output
 size:=Nat.le_trans s.size t.size
 same g hg hn:=by
  rw [t.same g (Nat.lt_of_lt_of_le hg s.size) (fun h => ?_),s.same g hg hn]
  rcases s.own g h with h | h
  ·exact hn h
  ·omega
 shape g x h:=t.shape g x (s.shape g x h)
 imm g h:=t.imm g (s.imm g h)
 back g h:=by
  rcases t.back g h with h | h | h
  ·exact s.back g h
  ·rcases s.own g h with h | h
   ·exact .inr (.inl h)
   ·exact .inr (.inr h)
  ·exact .inr (.inr (Nat.le_trans s.size h))
 ext b x h:=t.ext b x (s.ext b x h)
 lo b h1 h2:=by
  by_cases h:ρ' b=none
  ·have:=t.lo b h h2
   have:=s.next
   omega
  ·have:=s.lo b h1 h
   have:=t.next
   omega
 own g h:=by
  rcases t.own g h with h | h
  ·exact s.own g h
  ·exact .inr (Nat.le_trans s.size h)
 next:=Nat.le_trans s.next t.next
theorem aoU (s:cP w I ρ m w' I' ρ' m') (h:SR P w I ρ m) {av:AV} {v:Value} (hv:VR P w I ρ av v):VR P w' I' ρ' av v:=pP (s.keeps h) s.ext av v hv
theorem ahT (s:cP w I ρ m w' I' ρ' m') (h:SR P w I ρ m) {cs:List AV} {get:Nat→Option Value} (hv:bK P w I ρ cs get):bK P w' I' ρ' cs get:=eL (s.keeps h) s.ext cs get hv
def ER (P:Program) (w:World) (I:Nat→Prop) (ρ:cK) (e:bN) (a:Act):Prop:=∀ t,VR P w I ρ (e t) (a.tmps.getD t undef)
theorem ae8 (s:cP w I ρ m w' I' ρ' m') (h:SR P w I ρ m) {e:bN} {a:Act} (he:ER P w I ρ e a):ER P w' I' ρ' e a:=fun t=>aoU s h (he t)
theorem ae9 {e:bN} {a:Act} (he:ER P w I ρ e a) {d:Option Nat} {av:AV} {v:Value} (hd:∀ t,d=some t→t < a.tmps.size) (hv:VR P w I ρ av v):ER P w I ρ (e.put d av) (a.put d v):=by
 intro t
 cases d with
 | none=>exact he t
 | some d =>
  have hd':=hd d rfl
  simp only [bN.put,bN.set,Act.put]
  by_cases h:t=d
  ·subst h
   simp only [if_true]
   rw [Array.getD_eq_getD_getElem?,Array.getElem?_setIfInBounds_self_of_lt hd']
   exact hv
  ·rw [if_neg h,Array.getD_eq_getD_getElem?,Array.getElem?_setIfInBounds_ne (fun e=>h e.symm),←Array.getD_eq_getD_getElem?]
   exact he t
theorem d9 {e:bN} {a:Act} (he:ER P w I ρ e a) (x:Operand):VR P w I ρ (opd e x) (a.eval x):=by
 cases x with
 | tmp t=>exact he t
 | const v=>simp only [opd,Act.eval,VR]
 | global g=>simp only [opd,Act.eval,VR]
 | func f=>simp only [opd,Act.eval,VR];exact ⟨#[],rfl,rfl,by simp only [bK]⟩
end
end Go.Tw