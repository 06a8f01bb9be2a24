import Derived.Test.YtaekhhlgnbhnpaaGreatNzcG02
import Derived.Laws.Cells
import Derived.Laws.Rows
import Derived.Laws.Entries
set_option linter.unusedVariables false
set_option linter.unusedSimpArgs false
open Array renaming getElem?_eq_none→azc
open Go.Addr renaming add_lit→ayZ
open Go.Instr renaming loadAt→ay1,sureAddr→ay2,indexAt→ay4,sliceBounds→ay6,slice→ay8,sliceAt→azb
open List renaming getElem?_eq_none→ay3,getElem?_eq_some_iff→ay5,getElem?_append_left→azd,getElem?_append_right→aze
open Nat renaming add_assoc→ay0,le_refl→ay7,sub_self→ay9,lt_of_lt_of_le→aza
open Option renaming map_eq_some_iff→ayY
open Option.some renaming injEq→ayX
namespace Go.Tw
open Go
theorem sA {α:Type} (P:Program):∀ (s:Sem α) (x:α),cF P s=some x→∀ w,s.run P w = .ok x w
 | .pure a,x,h,w=>by simp only [cF,ayX] at h;subst h;rfl
 | .program k,x,h,w=>by simp only [cF] at h;exact sA P (k P) x h w
 | .load _ _ _,x,h,w=>by simp [cF] at h
 | .store _ _ _ _,x,h,w=>by simp [cF] at h
 | .new _ _,x,h,w=>by simp [cF] at h
 | .shape _ _,x,h,w=>by simp [cF] at h
 | .freeze _ _ _,x,h,w=>by simp [cF] at h
 | .frozen _ _,x,h,w=>by simp [cF] at h
 | .getObj _ _,x,h,w=>by simp [cF] at h
 | .setObj _ _ _,x,h,w=>by simp [cF] at h
 | .choose _ _,x,h,w=>by simp [cF] at h
 | .sys _ _,x,h,w=>by simp [cF] at h
 | .mark _ _,x,h,w=>by simp [cF] at h
 | .halt _,x,h,w=>by simp [cF] at h
section
variable {P:Program} {w:World} {I:Nat→Prop} {ρ:cB}
theorem cW {t:TypeId} {d:TypeDesc} (h:P.underlying t=some d):(underlying t).run P w = .ok d w:=by simp [underlying,h]
theorem iC {t:TypeId} {n:Nat} (h:cE P t=some n):(sizeOf t).run P w = .ok n w:=by
 unfold cE at h;obtain ⟨i,hi,rfl⟩:=ayR h;simp [sizeOf,typeInfo,hi]
theorem af2 {t:TypeId} {n:Nat} (h:lB P t=some n):∃ i,P.info? t=some i∧i.bytes=n:=by
 unfold lB at h;obtain ⟨i,hi,rfl⟩:=ayR h;exact ⟨i,hi,rfl⟩
theorem adA {t:TypeId} {b:Bool} (h:xK P t=some b):(isAgg t).run P w = .ok b w:=by
 unfold xK at h;obtain ⟨d,a,rfl⟩:=ayR h;cases d <;> simp [isAgg,cW a]
theorem iJ {t e:TypeId} (h:bZ P t=some e):P.underlying t=some (.slice e):=by
 unfold bZ at h;split at h
 ·cases h;assumption
 ·cases h
theorem zC {t:TypeId} {a:Nat×TypeId} (h:o6 P t=some a):P.underlying t=some (.array a.1 a.2):=by
 unfold o6 at h;split at h
 ·cases h;assumption
 ·cases h
theorem af3 {t:TypeId} {i:Nat} {p:Nat×TypeId} (h:fN P t i=some p):∃ a f,P.underlying t=some (.struct a)∧a[i]? = some f∧f.offset=p.1∧f.type=p.2:=by
 unfold fN at h;split at h
 ·rename_i a b;obtain ⟨f,c,rfl⟩:=ayR h;exact ⟨a,f,b,c,rfl,rfl⟩
 ·cases h
theorem aax {t:TypeId} (h:oH P t=true):P.underlying t=some .string:=by
 unfold oH at h;split at h
 ·assumption
 ·cases h
theorem af4 {t:TypeId} (h:rX P t=true):P.underlying t=some (.int .u8):=by
 unfold rX at h;split at h
 ·assumption
 ·cases h
theorem aiV {cs:List AV}:∀ {a:Nat→Option Value},bC P w I ρ cs a→∃ vs:List Value,vs.length=cs.length∧(∀ j v,vs[j]? = some v→a j=some v)∧bC P w I ρ cs (fun j=>vs[j]?):=by
 induction cs with
 | nil=>intro a _;exact ⟨[],rfl,by simp,by simp only [bC]⟩
 | cons c cs d =>
  intro a h;simp only [bC] at h;obtain ⟨⟨v,i,g⟩,e⟩:=h;obtain ⟨vs,l,f,r⟩:=d e;refine ⟨v::vs,by simp [l], ?_, ?_⟩
  ·intro j u b;cases j with
   | zero=>simp at b;subst b;exact i
   | succ j=>exact f j u (by simpa using b)
  ·simp only [bC];exact ⟨⟨v,by simp,g⟩,by simpa using r⟩
theorem aay {cs:List AV} {a:Nat→Option Value} (h:bC P w I ρ cs a) {j:Nat} (b:j < cs.length):∃ v,a j=some v:=by
 obtain ⟨v,c,_⟩:=gQ h (List.getElem?_eq_getElem b);exact ⟨v,c⟩
theorem aiW {c:AV} (h:d5 c=true) {v:Value} (a:VR P w I ρ c v):v.oneCell'=true:=by
 cases c with
 | val x=>simp only [VR] at a;subst a;cases v <;> simp_all [d5,Value.oneCell']
 | agg cs=>simp [d5] at h
 | tup cs=>simp [d5] at h
 | tree len c cs f=>simp only [VR] at a;obtain ⟨g,o,cap,rfl,_⟩:=a;rfl
 | tptr d cs=>simp only [VR] at a;obtain ⟨g,o,rfl,_⟩:=a;rfl
 | emp c f=>simp only [VR] at a;obtain ⟨e,cap,rfl,_⟩:=a;rfl
 | sl b d len c f=>simp only [VR] at a;obtain ⟨g,o,cap,ty,n,s,_,rfl,_⟩:=a;rfl
 | ptr b d=>simp only [VR] at a;obtain ⟨g,o,_,rfl⟩:=a;rfl
 | clo f cs=>simp only [VR] at a;obtain ⟨vs,rfl,_⟩:=a;rfl
theorem tQ {cs:List AV} (h:eF cs) (k:Nat):eF (cs.take k):=fun c a=>h c (List.mem_of_mem_take a)
theorem lC {cs:List AV} (h:eF cs) (k:Nat):eF (cs.drop k):=fun c a=>h c (List.mem_of_mem_drop a)
theorem acb {cs b:List AV} (h:eF cs) (k:eF b):eF (cs++b):=fun c a=>by
 rcases List.mem_append.1 a with a | a
 ·exact h c a
 ·exact k c a
theorem aaz {cs b:List AV} (h:eF cs) (k:eF b) (a:Nat):eF (cP cs a b) :=
 acb (acb (tQ h _) k) (lC h _)
theorem aiX {t:TypeId} {cs:List AV} {a:Nat} {f:AV} (b:oJ P t cs a=some f) {vs:Array Value} (hs:vs.size=cs.length) (l:eF cs) (g:bC P w I ρ cs (fun j=>vs[j]?)) :
 ∃ v,(part t vs a).run P w = .ok v w∧VR P w I ρ f v:=by
 unfold oJ at b;split at b
 ·rename_i d;obtain ⟨n,k,b⟩:=ayQ b;split at b
  ·rename_i i;cases b;refine ⟨.agg (vs.extract a (a+n)),by simp [part,adA d,iC k], ?_⟩;simp only [VR];refine ⟨_,rfl,by simp;omega,tQ (lC l _) _, ?_⟩;refine iH (adz (lQ g a) n) fun j h => ?_
   simp at h;rw [Array.getElem?_extract];rw [if_pos (by omega)]
  ·cases b
 ·rename_i d;obtain ⟨v,e,c⟩:=gQ g b;exact ⟨v,by simp [part,adA d,e],c⟩
 ·cases b
theorem aiY {t:TypeId} {cs:List AV} {a:Nat} {h:AV} (b:oJ P t cs a=some h) {g o:Nat} (u:eF cs) (i:bC P w I ρ cs (fun j=>w.cell? ⟨g,o+j,none⟩)) :
 ∃ v,(loadVar t ⟨g,o+a,none⟩).run P w = .ok v w∧VR P w I ρ h v:=by
 unfold oJ at b;split at b
 ·rename_i d;obtain ⟨n,q,b⟩:=ayQ b;split at b
  ·rename_i p;cases b;obtain ⟨vs,l,f,r⟩:=aiV (adz (lQ i a) n);have s:vs.length=n:=by simp at l;omega
   have k:=run_loadCells_list (P:=P) (w:=w) ⟨g,o+a,none⟩ vs (fun j v m=>by
    have:=f j v m;rw [ayZ,ay0];exact this)
   rw [s] at k;refine ⟨.agg vs.toArray,by simp [loadVar,adA d,iC q,k], ?_⟩;simp only [VR];exact ⟨_,rfl,by simpa using l,tQ (lC u _) _,by simpa using r⟩
  ·cases b
 ·rename_i d;obtain ⟨v,e,c⟩:=gQ i b;exact ⟨v,by simp [loadVar,adA d,e],c⟩
 ·cases b
end
section
variable {P:Program} {w:World} {I:Nat→Prop} {ρ:cB} {m:aF}
theorem adB (w:World) (I:Nat→Prop):iI w w I I:=⟨fun _ h=>h,fun _ _=>rfl,fun _ _ h=>h⟩
theorem af5 {cs:List AV} {a:Nat→Option Value} (h:bC P w I cZ cs a):bC P w I ρ cs a:=eL (adB w I) (fun b x h=>by simp [cZ] at h) cs a h
def mK (P:Program) (w:World) (I:Nat→Prop) (ρ:cB) (s:Sem Value) (a:AV):Prop:=∃ v,s.run P w = .ok v w∧VR P w I ρ a v
theorem BR.cellsAt {k:eR} {g o:Nat} (h:BR P w I ρ k g o):bC P w I ρ k.cells (fun j=>w.cell? ⟨g,o+j,none⟩):=by
 obtain ⟨arr,fr,b,a⟩:=h.cells;have c:bC P w I ρ k.cells (fun j=>arr[o+j]?):=by
  split at a
  ·exact af5 a
  ·exact a
 exact iH c fun j _=>cell_of_row w g (o+j) arr _ fr b
theorem BR.flatAt {k:eR} {g o:Nat} (h:BR P w I ρ k g o) (b:k.kind = .flat):bC P w I cZ k.cells (fun j=>w.cell? ⟨g,o+j,none⟩):=by
 obtain ⟨arr,fr,c,a⟩:=h.cells;rw [if_pos b] at a;exact iH a fun j _=>cell_of_row w g (o+j) arr _ fr c
theorem aiZ (f:SR P w I ρ m) {t:TypeId} {x i:AV} (h:lO P m t x=some i) {v:Value} (c:VR P w I ρ x v):mK P w I ρ (ay1 t v) i:=by
 cases x with
 | ptr b e =>
  simp only [lO] at h;obtain ⟨k,l,h⟩:=ayQ h;split at h
  ·cases h
  ·simp only [VR] at c;obtain ⟨g,o,j,rfl⟩:=c;obtain ⟨u,a,d⟩:=aiY (P:=P) (w:=w) (ρ:=ρ) h (f.blk b k g o l j).one (f.blk b k g o l j).cellsAt;exact ⟨u,by simpa [ay1,ay2] using a,d⟩
 | tptr e cs =>
  simp only [lO] at h;simp only [VR] at c;obtain ⟨g,o,rfl,p,a,n⟩:=c;obtain ⟨u,a,d⟩:=aiY (P:=P) (w:=w) (ρ:=ρ) h a (af5 n);exact ⟨u,by simpa [ay1,ay2] using a,d⟩
 | _=>simp [lO] at h
theorem ap1 {a:AV} {b:Bool} (h:VR P w I ρ a (.bool b)):a = .val (.bool b):=by
 cases a <;> simp [VR] at h;exact congrArg AV.val h.symm
theorem ap2 {a b c e:AV} (h:ab9 a b c=some e) {x y z:Value} (f:VR P w I ρ a x) (g:VR P w I ρ b y) (d:VR P w I ρ c z) :
 mK P w I ρ (do pure (if ←asBool z then x else y)) e:=by
 unfold ab9 at h;split at h
 ·rename_i t;simp only [VR] at d;subst d;simp only [ayX] at h;subst h;cases t
  ·exact ⟨y,by simp [asBool],g⟩
  ·exact ⟨x,by simp [asBool],f⟩
 ·cases h
mutual
theorem zD:∀ (av:AV) (u v:Value),i6 av=some u→VR P w I ρ av v→v=u
 | .val x,u,v,h,hv=>by
  simp only [i6,ayX] at h
  simp only [VR] at hv
  rw [hv,h]
 | .agg cs,u,v,h,hv=>by
  simp only [i6] at h
  obtain ⟨l,hl,rfl⟩:=ayR h
  simp only [VR] at hv
  obtain ⟨vs,rfl,hs,_,hc⟩:=hv
  have:=adC cs l (fun j=>vs[j]?) hl hc
  congr 1
  apply Array.ext'
  apply List.ext_getElem?
  intro j
  by_cases hj:j < cs.length
  ·have h2:vs[j]? = l[j]? := this.2 j hj
   simpa using h2
  ·rw [ay3 (by simp;omega),ay3 (by simp;omega)]
 | .tup cs,u,v,h,hv=>by simp [i6] at h
 | .tree _ _ _ _,u,v,h,hv=>by simp [i6] at h
 | .tptr _ _,u,v,h,hv=>by simp [i6] at h
 | .emp _ _,u,v,h,hv=>by simp [i6] at h
 | .sl _ _ _ _ _,u,v,h,hv=>by simp [i6] at h
 | .ptr _ _,u,v,h,hv=>by simp [i6] at h
 | .clo _ _,u,v,h,hv=>by simp [i6] at h
theorem adC:∀ (cs:List AV) (l:List Value) (get:Nat→Option Value),pY cs=some l→bC P w I ρ cs get→l.length=cs.length∧∀ j,j < cs.length→get j=l[j]?
 | [],l,get,h,hv=>by
  simp only [pY,ayX] at h
  subst h
  exact ⟨rfl,fun j hj=>absurd hj (by simp)⟩
 | c::cs,l,get,h,hv=>by
  simp only [pY] at h
  obtain ⟨u,hu,h⟩:=ayQ h
  obtain ⟨l',hl',rfl⟩:=ayR h
  simp only [bC] at hv
  obtain ⟨⟨v,h0,h1⟩,h2⟩:=hv
  have e:=zD c u v hu h1
  obtain ⟨e1,e2⟩:=adC cs l' _ hl' h2
  refine ⟨by simp [e1],fun j hj => ?_⟩
  cases j with
  | zero=>simp [h0,e]
  | succ j=>simpa using e2 j (by simpa using hj)
end
theorem ap3 {a:AV} {n:Bool} (h:rY a=some n) {v:Value} (d:VR P w I ρ a v):∃ x len cap,v = .slice x len cap∧x.isNone=n:=by
 cases a with
 | val x =>
  simp only [VR] at d;subst d;unfold rY at h;split at h <;> simp_all
 | tree l c cs f=>simp only [rY,ayX] at h;simp only [VR] at d;obtain ⟨g,o,cap,rfl,_⟩:=d;exact ⟨_,_,_,rfl,by simpa using h⟩
 | emp c f=>simp only [rY,ayX] at h;simp only [VR] at d;obtain ⟨i,cap,rfl,_⟩:=d;exact ⟨_,_,_,rfl,by simpa using h⟩
 | sl b e l c f=>simp only [rY,ayX] at h;simp only [VR] at d;obtain ⟨g,o,cap,ty,n,s,_,rfl,_⟩:=d;exact ⟨_,_,_,rfl,by simpa using h⟩
 | agg cs=>simp [rY] at h
 | tup cs=>simp [rY] at h
 | tptr a b=>simp [rY] at h
 | ptr a b=>simp [rY] at h
 | clo a b=>simp [rY] at h
theorem ai0 (op:BinOp) (t:TypeId) (x y:Operand) (a:Option Addr) (n m:Nat) (v:Value):eqGuard op t x y (.slice a n m) v=pure ():=by cases op <;> rfl
theorem ap4 {op:BinOp} {t:TypeId} {x y:Operand} {a b k:AV} (h:dR P op t x y a b=some k) {u v:Value} (f:VR P w I ρ a u) (e:VR P w I ρ b v) :
 mK P w I ρ (do eqGuard op t x y u v;binOp op t u v) k:=by
 unfold dR at h;split at h
 ·simp only [VR] at f e;subst f;subst e;obtain ⟨z,i,rfl⟩:=ayR h;exact ⟨z,sA P _ _ i w,by simp only [VR]⟩
 ·obtain ⟨A,m,h⟩:=ayQ h;obtain ⟨s,p,h⟩:=ayQ h;obtain ⟨z,i,rfl⟩:=ayR h;have q:=zD _ A u m f;have r:=zD _ s v p e;subst q;subst r;exact ⟨z,sA P _ _ i w,by simp only [VR]⟩
 ·obtain ⟨el,c,h⟩:=ayQ h;obtain ⟨n,o,h⟩:=ayQ h;simp only [VR] at e;subst e;obtain ⟨g,len,cap,rfl,j⟩:=ap3 o f;have l:∀ d,(Op.equalIn (d+1) t (.slice g len cap) (.slice none 0 0)).run P w = .ok n w:=fun d=>by
   cases g with
   | none=>simp [Op.equalIn,cW (iJ c)];simpa using j
   | some g=>simp [Op.equalIn,cW (iJ c)];simpa using j
  split at h
  ·cases h;refine ⟨.bool n, ?_,by simp only [aV,VR]⟩;simp only [ai0,pure_bind,binOp];simp [Op.equal,Op.maxDepth,l 9999]
  ·cases h;refine ⟨.bool !n, ?_,by simp only [aV,VR]⟩;simp only [ai0,pure_bind,binOp];simp [Op.equal,Op.maxDepth,l 9999]
  ·cases h
 ·cases h
theorem ap5 {op:UnOp} {a c:AV} (h:zA P op a=some c) {u:Value} (b:VR P w I ρ a u):mK P w I ρ (Op.unary op u) c:=by
 unfold zA at h;split at h
 ·obtain ⟨z,d,rfl⟩:=ayR h;simp only [VR] at b;subst b;exact ⟨z,sA P _ _ d w,by simp only [VR]⟩
 ·cases h
theorem ap6 {i:Nat} {a b:AV} (h:vR i a=some b) {u:Value} (c:VR P w I ρ a u):mK P w I ρ (Instr.extract u i) b:=by
 unfold vR at h;split at h
 ·simp only [VR] at c;obtain ⟨vs,rfl,hs,d⟩:=c;obtain ⟨v,f,e⟩:=gQ d h;exact ⟨v,by simp [Instr.extract,f],e⟩
 ·cases h
theorem ap7 {s:TypeId} {f:Nat} {a k:AV} (h:aca P s f a=some k) {u:Value} (d:VR P w I ρ a u):mK P w I ρ (Instr.fieldAt s u f) k:=by
 unfold aca at h;obtain ⟨p,v,h⟩:=ayQ h;obtain ⟨y,x,m,l,i,j⟩:=af3 v;split at h
 ·obtain ⟨n,c,h⟩:=ayQ h;split at h
  ·cases h
  ·rename_i b;cases h;simp only [VR] at d;obtain ⟨g,o,q,rfl⟩:=d;refine ⟨.pointer (some ⟨g,o+(_+p.1),none⟩), ?_,by simp only [VR];exact ⟨g,o,q,rfl⟩⟩;rw [←j] at c;simp [Instr.fieldAt,cW m,l,ay2,fieldPlace,iC c,b,i,ayZ,ay0]
 ·obtain ⟨n,c,h⟩:=ayQ h;split at h
  ·cases h
  ·rename_i b;cases h;simp only [VR] at d;obtain ⟨g,o,rfl,t,e,r⟩:=d;refine ⟨.pointer (some ⟨g,o+(_+p.1),none⟩), ?_,by simp only [VR];exact ⟨g,o,rfl,t,e,r⟩⟩;rw [←j] at c;simp [Instr.fieldAt,cW m,l,ay2,fieldPlace,iC c,b,i,ayZ,ay0]
 ·cases h
theorem ap8 {s:TypeId} {f:Nat} {a c:AV} (h:zB P s f a=some c) {u:Value} (d:VR P w I ρ a u):mK P w I ρ (Instr.field s u f) c:=by
 unfold zB at h;split at h
 ·obtain ⟨p,m,h⟩:=ayQ h;obtain ⟨q,o,n,l,g,i⟩:=af3 m;simp only [VR] at d;obtain ⟨vs,rfl,hs,b,k⟩:=d;obtain ⟨v,e,j⟩:=aiX (P:=P) (w:=w) h hs b k;exact ⟨v,by simp [Instr.field,cW n,l,asAgg,g,i,e],j⟩
 ·cases h
theorem acd {a:AV} {k:Nat} (h:jW a=some k) {u:Value} (b:VR P w I ρ a u):∃ kd,u = .int kd (k:Int):=by
 unfold jW at h;split at h
 ·split at h
  ·rename_i kd n c;simp only [ayX] at h;simp only [VR] at b;subst h;exact ⟨kd,by rw [b,Int.toNat_of_nonneg c]⟩
  ·cases h
 ·cases h
theorem ap9 {t:TypeId} {k:Nat} {a q:AV} (h:nL P t k a=some q) {u:Value} (d:VR P w I ρ a u) (kd:IntKind):mK P w I ρ (ay4 t u (.int kd k)) q:=by
 unfold nL at h;split at h
 ·rename_i el i;obtain ⟨sz,c,h⟩:=ayQ h;split at h
  ·split at h
   ·rename_i e;cases h;simp only [VR] at d;obtain ⟨g,o,cap,rfl,m,v,r,b,l⟩:=d;refine ⟨.pointer (some ⟨g,o+k*sz,none⟩), ?_,by simp only [VR];exact ⟨g,o,rfl,m,b,l⟩⟩;have:(0:Int)≤(k:Int)∧k < _:=⟨by omega,e⟩
    simp [ay4,asIntOf,cW (iJ i),iC c,this,ayZ]
   ·cases h
  ·split at h
   ·rename_i e;cases h;simp only [VR] at d;obtain ⟨g,o,cap,ty,n,s,j,rfl,_⟩:=d;refine ⟨.pointer (some ⟨g,o+(_+k*sz),none⟩), ?_,by simp only [VR];exact ⟨g,o,j,rfl⟩⟩;have:(0:Int)≤(k:Int)∧k < _:=⟨by omega,e⟩
    simp [ay4,asIntOf,cW (iJ i),iC c,this,ayZ,ay0]
   ·cases h
  ·cases h
 ·obtain ⟨p,f,h⟩:=ayQ h;obtain ⟨sz,c,h⟩:=ayQ h;split at h
  ·split at h
   ·rename_i e;cases h;simp only [VR] at d;obtain ⟨g,o,rfl,m,b,l⟩:=d;refine ⟨.pointer (some ⟨g,o+(_+k*sz),none⟩), ?_,by simp only [VR];exact ⟨g,o,rfl,m,b,l⟩⟩;have:(0:Int)≤(k:Int)∧k < p.1:=⟨by omega,e⟩
    simp [ay4,asIntOf,cW (zC f),iC c,this,ayZ,ay2,ay0]
   ·cases h
  ·split at h
   ·rename_i e;cases h;simp only [VR] at d;obtain ⟨g,o,j,rfl⟩:=d;refine ⟨.pointer (some ⟨g,o+(_+k*sz),none⟩), ?_,by simp only [VR];exact ⟨g,o,j,rfl⟩⟩;have:(0:Int)≤(k:Int)∧k < p.1:=⟨by omega,e⟩
    simp [ay4,asIntOf,cW (zC f),iC c,this,ayZ,ay2,ay0]
   ·cases h
  ·cases h
theorem aqa {t:TypeId} {k:Nat} {a l:AV} (h:aav P t k a=some l) {u:Value} (e:VR P w I ρ a u) (kd:IntKind):mK P w I ρ (Instr.index t u (.int kd k)) l:=by
 unfold aav at h;split at h
 ·obtain ⟨o,g,h⟩:=ayQ h;obtain ⟨sz,i,h⟩:=ayQ h;split at h
  ·rename_i q;simp only [VR] at e;obtain ⟨vs,rfl,hs,d,x⟩:=e;obtain ⟨v,n,p⟩:=aiX (P:=P) (w:=w) h hs d x;have:(0:Int)≤(k:Int)∧k < o.1:=⟨by omega,q⟩
   exact ⟨v,by simp [Instr.index,asIntOf,cW (zC g),iC i,this,n],p⟩
  ·cases h
 ·split at h
  ·rename_i s c;simp only [VR] at e;subst e;obtain ⟨b,m,rfl⟩:=ayR h;refine ⟨.int .u8 b.toNat, ?_,by simp only [bA,VR]⟩;have f:k < s.size:=by
    have:=(ay5.1 m).1;simpa using this
   have j:s[k]? = some b:=by
    have r:s[k]? = some s[k]:=getElem?_pos s k f;rw [r];have y:=(ay5.1 m).2;rw [←y];rfl
   simp [Instr.index,asIntOf,cW (aax c),j]
  ·cases h
 ·cases h
end
section
variable {P:Program} {w:World} {I:Nat→Prop} {ρ:cB} {m:aF}
def kJ:Option Nat→Option Value→Prop
 | none,none=>True
 | some n,some v=>∃ kd,v = .int kd (n:Int)
 | _,_=>False
theorem af6 {e:bB} {a:Act} (b:ER P w I ρ e a) {x:Option Operand} {n:Option Nat} (h:dB (x.map (opd e))=some n):kJ n (x.map a.eval):=by
 cases x with
 | none=>simp only [Option.map_none,dB,ayX] at h;subst h;trivial
 | some x =>
  simp only [Option.map_some,dB] at h;obtain ⟨k,c,rfl⟩:=ayR h;exact acd c (d7 b x)
theorem vT {kd:IntKind} {n y:Nat} (h:n≤y) (a:BoundsCode):(Instr.sliceBound (.int kd (n:Int)) y a).run P w = .ok n w:=by
 have:(0:Int)≤(n:Int)∧(n:Int)≤(y:Int):=⟨by omega,by omega⟩
 simp [Instr.sliceBound,asIntOf,this]
theorem aaA {b:Bool} {len cap:Nat} {lo hi mx:Option Nat} {h f vm:Option Value} (j:kJ lo h) (e:kJ hi f) (a:kJ mx vm)
 (g:lo.getD 0≤hi.getD len) (c:hi.getD len≤mx.getD cap) (d:mx.getD cap≤cap) (k:(mx.isSome && hi.isNone)=false) :
 (ay6 b len cap h f vm).run P w = .ok (lo.getD 0,hi.getD len,mx.getD cap) w:=by
 cases lo with
 | none =>
  cases h with
  | some v=>simp [kJ] at j
  | none =>
   cases hi with
   | none =>
    cases f with
    | some v=>simp [kJ] at e
    | none =>
     cases mx with
     | none=>cases vm with
      | some v=>simp [kJ] at a
      | none=>simp [ay6]
     | some x=>simp at k
   | some y =>
    cases f with
    | none=>simp [kJ] at e
    | some v =>
     obtain ⟨kd,rfl⟩:=e;cases mx with
     | none=>cases vm with
      | some v=>simp [kJ] at a
      | none=>simp at c d;simp [ay6,vT c]
     | some x=>cases vm with
      | none=>simp [kJ] at a
      | some v =>
       obtain ⟨i,rfl⟩:=a;simp at c d;simp [ay6,vT c,vT d]
 | some l =>
  cases h with
  | none=>simp [kJ] at j
  | some v =>
   obtain ⟨m,rfl⟩:=j;cases hi with
   | none =>
    cases f with
    | some v=>simp [kJ] at e
    | none =>
     cases mx with
     | none=>cases vm with
      | some v=>simp [kJ] at a
      | none=>simp at g;simp [ay6,vT g]
     | some x=>simp at k
   | some y =>
    cases f with
    | none=>simp [kJ] at e
    | some v =>
     obtain ⟨kd,rfl⟩:=e;cases mx with
     | none=>cases vm with
      | some v=>simp [kJ] at a
      | none=>simp at g c d;simp [ay6,vT c,vT g]
     | some x=>cases vm with
      | none=>simp [kJ] at a
      | some v =>
       obtain ⟨i,rfl⟩:=a;simp at g c d;simp [ay6,vT c,vT d,vT g]
theorem af7 {a:Option Nat} {c cap:Nat} (h:a.getD c≤c) (b:c≤cap):a.getD cap≤cap:=by
 cases a with
 | none=>exact ay7 _
 | some x=>simp at h ⊢;omega
theorem ace {a:Option Nat} {c cap x:Nat} (h:x≤a.getD c) (b:c≤cap):x≤a.getD cap:=by
 cases a with
 | none=>simp at h ⊢;omega
 | some y=>simpa using h
theorem af8 {a:Option Nat} {c cap l:Nat} {f:Bool} (d:c≤cap) (b:f=true→cap=c):a.getD c - l≤a.getD cap - l∧((f || a.isSome)=true→a.getD cap - l=a.getD c - l):=by
 cases a with
 | none=>simp;refine ⟨by omega,fun h=>by rw [b h]⟩
 | some y=>simp
theorem aqb {t el:TypeId} {sz:Nat} (p:bZ P t=some el) (q:cE P el=some sz) {lo hi mx:Option Nat} {x Z:AV} (h:jE sz (lo.getD 0) hi mx x=some Z) (L:(mx.isSome && hi.isNone)=false)
 {v:Value} (r:VR P w I ρ x v) (hs:∀ b i n c f,x = .sl b i n c f→∀ g o,ρ b=some (g,o)→∀ ty Q,w.shape? g=some (ty,Q)→cE P ty=some sz) {O N vm:Option Value} (R:kJ lo O) (M:kJ hi N) (S:kJ mx vm):mK P w I ρ (ay8 t v O N vm) Z:=by
 unfold jE at h;split at h
 ·split at h
  ·rename_i B;simp only [ayX] at h;subst h;simp only [VR] at r;subst r;refine ⟨.slice none 0 0, ?_,by simp only [aN,VR]⟩;have A:=aaA (P:=P) (w:=w) (b:=true) (len:=0) (cap:=0) R M S (by omega) (by omega) (by omega) L;simp [ay8,cW (iJ p),iC q,A,B]
  ·cases h
 ·rename_i n c cs f;split at h
  ·rename_i B;obtain ⟨C,u,z⟩:=B;simp only [VR] at r;obtain ⟨g,o,cap,rfl,hI,⟨V,e⟩,E,J,X⟩:=r;have A:=aaA (P:=P) (w:=w) (b:=true) (len:=n) (cap:=cap) R M S C (ace u e) (af7 z e) L;have d:=af8 (a:=mx) (l:=lo.getD 0) e E;have k:(ay8 t (.slice (some ⟨g,o,none⟩) n cap) O N vm).run P w = .ok (.slice (some (if mx.getD cap=lo.getD 0 then ⟨g,o,none⟩ else ⟨g,o+lo.getD 0*sz,none⟩)) (hi.getD n - lo.getD 0) (mx.getD cap - lo.getD 0)) w:=by
    simp [ay8,cW (iJ p),iC q,A,ayZ];split <;> rfl
   split at h
   ·rename_i m;simp only [ayX] at h;subst h;refine ⟨_,k, ?_⟩;simp only [VR];rw [m];by_cases K:mx.getD cap=hi.getD n
    ·rw [if_pos K];exact ⟨_,_,by rw [ay9],by rw [←m];exact d.1,by rw [←m];exact d.2⟩
    ·rw [if_neg K];exact ⟨_,_,by rw [ay9],by rw [←m];exact d.1,by rw [←m];exact d.2⟩
   ·rename_i m;simp only [ayX] at h;subst h;refine ⟨_,k, ?_⟩;have T:lo.getD 0 < mx.getD cap:=aza (by omega) (ace u e);rw [if_neg (by omega)];simp only [VR];refine ⟨g,o+lo.getD 0*sz,_,rfl,hI,⟨by omega,d.1⟩,d.2,lC J _, ?_⟩;refine iH (lQ X _) fun j _=>by rw [ay0]
  ·cases h
 ·rename_i b i n c f;split at h
  ·rename_i B;obtain ⟨C,u,z⟩:=B;simp only [VR] at r;obtain ⟨g,o,cap,ty,Q,s,D,rfl,⟨V,e⟩,E,F,G,U⟩:=r;have H:=hs b i n c f rfl g o D ty Q F;rw [G,ayX] at H;subst H;have A:=aaA (P:=P) (w:=w) (b:=true) (len:=n) (cap:=cap) R M S C (ace u e) (af7 z e) L;have d:=af8 (a:=mx) (l:=lo.getD 0) e E;have k:(ay8 t (.slice (some ⟨g,o+i,none⟩) n cap) O N vm).run P w = .ok (.slice (some (if mx.getD cap=lo.getD 0 then ⟨g,o+i,none⟩ else ⟨g,o+i+lo.getD 0*s,none⟩)) (hi.getD n - lo.getD 0) (mx.getD cap - lo.getD 0)) w:=by
    simp [ay8,cW (iJ p),iC q,A,ayZ];split <;> rfl
   split at h
   ·rename_i m;simp only [ayX] at h;subst h;refine ⟨_,k, ?_⟩;simp only [VR];by_cases K:mx.getD cap=lo.getD 0
    ·rw [if_pos K];exact ⟨_,_,by rw [m.1,ay9],d.1,d.2⟩
    ·rw [if_neg K];exact ⟨_,_,by rw [m.1,ay9],d.1,d.2⟩
   ·rename_i m;simp only [ayX] at h;subst h;refine ⟨_,k, ?_⟩;have y:(if mx.getD cap=lo.getD 0 then (⟨g,o+i,none⟩:Addr) else ⟨g,o+i+lo.getD 0*s,none⟩)=⟨g,o+(i+lo.getD 0*s),none⟩:=by
     by_cases h0:lo.getD 0=0
     ·rw [h0];simp
     ·have T:lo.getD 0 < mx.getD cap:=aza (by omega) (ace u e);rw [if_neg (by omega),ay0]
    rw [y];simp only [VR];refine ⟨g,o,_,ty,Q,s,D,rfl,⟨by omega,d.1⟩,d.2,F,G, ?_⟩;have a0:=af7 z e;have a1:lo.getD 0≤mx.getD cap:=Nat.le_trans C (ace u e);have:lo.getD 0*s+(mx.getD cap - lo.getD 0)*s≤cap*s:=by
     rw [←Nat.add_mul];exact Nat.mul_le_mul_right _ (by omega)
    omega
  ·cases h
 ·rename_i c f;split at h
  ·rename_i B;simp only [ayX] at h;subst h;obtain ⟨C,u,z⟩:=B;simp only [VR] at r;obtain ⟨Y,cap,rfl,e,E⟩:=r;have W:mx.getD cap≤cap:=by
    cases mx with
    | none=>exact ay7 _
    | some x=>simp at z;subst z;simp
   have A:=aaA (P:=P) (w:=w) (b:=true) (len:=0) (cap:=cap) R M S (by omega) (by omega) W L;have d:=af8 (a:=mx) (l:=0) e E;refine ⟨.slice (some Y) 0 (mx.getD cap), ?_, ?_⟩
   ·simp [ay8,cW (iJ p),iC q,A,Addr.add,C,u]
   ·simp only [VR];exact ⟨Y,mx.getD cap,rfl,by simpa using d.1,by simpa using d.2⟩
  ·cases h
 ·cases h
theorem aqc {t:TypeId} {lo hi mx:Option Nat} {x L:AV} (h:mH P t lo hi mx x=some L) {v:Value} (l:VR P w I ρ x v)
 (hs:∀ b a n c f el sz,x = .sl b a n c f→bZ P t=some el→cE P el=some sz→∀ g o,ρ b=some (g,o)→∀ ty T,w.shape? g=some (ty,T)→cE P ty=some sz)
 {B r vm:Option Value} (E:kJ lo B) (q:kJ hi r) (H:kJ mx vm):mK P w I ρ (azb t v B r vm) L:=by
 unfold mH at h;split at h
 ·cases h
 ·rename_i O;have p:(mx.isSome && hi.isNone)=false:=(Bool.not_eq_true _).mp O;split at h
  ·rename_i el k;obtain ⟨sz,d,h⟩:=ayQ h;obtain ⟨u,U,V⟩:=aqb (P:=P) (w:=w) k d h p l (fun b a n c f e=>hs b a n c f el sz e k d) E q H;exact ⟨u,by simpa [azb,cW (iJ k)] using U,V⟩
  ·split at h
   ·rename_i n el y;obtain ⟨sz,d,h⟩:=ayQ h;split at h
    ·rename_i a cs R;split at h
     ·rename_i Q;simp only [VR] at l;obtain ⟨g,o,rfl,S,m,J⟩:=l;have K:=zC y;simp only at K;simp only [jE] at h;split at h
      ·rename_i z;obtain ⟨C,D,A⟩:=z;have G:=aaA (P:=P) (w:=w) (b:=false) (len:=n) (cap:=n) E q H C D A p;have i:(azb t (.pointer (some ⟨g,o+a,none⟩)) B r vm).run P w = .ok (.slice (some (if mx.getD n=lo.getD 0 then ⟨g,o+a,none⟩ else ⟨g,o+a+lo.getD 0*sz,none⟩)) (hi.getD n - lo.getD 0) (mx.getD n - lo.getD 0)) w:=by
        simp [azb,cW K,iC d,G,ay2,ayZ]
       split at h
       ·rename_i M;simp only [ayX] at h;subst h;refine ⟨_,i, ?_⟩;simp only [VR];rw [M];by_cases N:mx.getD n=hi.getD n
        ·rw [if_pos N];exact ⟨_,_,by rw [ay9],ay7 _,fun _=>rfl⟩
        ·rw [if_neg N];exact ⟨_,_,by rw [ay9],ay7 _,fun _=>rfl⟩
       ·rename_i M;simp only [ayX] at h;subst h;refine ⟨_,i, ?_⟩;rw [if_neg (by omega)];simp only [VR];refine ⟨g,o+a+lo.getD 0*sz,_,rfl,S,⟨by omega,ay7 _⟩,fun _=>rfl,lC (lC m _) _, ?_⟩;refine iH (lQ (lQ J a) _) fun j _=>by simp [ay0]
      ·cases h
     ·cases h
    ·cases h
   ·split at h
    ·split at h
     ·rename_i s J;obtain ⟨C,D,A,rfl⟩:=J;simp only [ayX] at h;subst h;simp only [VR] at l;subst l;have G:=aaA (P:=P) (w:=w) (b:=false) (len:=s.size) (cap:=s.size) (mx:=none) (vm:=none) E q trivial D A (ay7 _) rfl;have F:vm=none:=by
       cases vm with
       | none=>rfl
       | some v=>simp [kJ] at H
      subst F;refine ⟨.string (s.extract (lo.getD 0) (hi.getD s.size)), ?_,by simp only [VR]⟩;simp [azb,ay8,cW (aax C),G]
     ·cases h
    ·cases h
theorem aqd (l:List Value):∀ (k a:Nat) (arr:Array Value),((l.zipIdx k).foldl (fun cs (p:Value×Nat)=>cs.setIfInBounds (a+p.2) p.1) arr).size=arr.size ∧
 ∀ i,((l.zipIdx k).foldl (fun cs (p:Value×Nat)=>cs.setIfInBounds (a+p.2) p.1) arr)[i]? = if a+k≤i∧i < a+k+l.length∧i < arr.size then l[i - a - k]? else arr[i]? := by
 induction l with
 | nil=>intro k a arr;refine ⟨rfl,fun i => ?_⟩;simp;intro e c;omega
 | cons v l f =>
  intro k a arr;simp only [List.zipIdx_cons,List.foldl_cons];obtain ⟨e,c⟩:=f (k+1) a (arr.setIfInBounds (a+k) v);refine ⟨by rw [e];simp,fun i => ?_⟩;rw [c i];simp only [Array.size_setIfInBounds,List.length_cons];by_cases hi:a+k=i
  ·subst hi;by_cases g:a+k < arr.size
   ·rw [if_neg (by omega),if_pos (by omega),Array.getElem?_setIfInBounds_self_of_lt g];simp
   ·rw [if_neg (by omega),if_neg (by omega),azc (by simp;omega),azc (by omega)]
  ·by_cases b:a+(k+1)≤i∧i < a+(k+1)+l.length∧i < arr.size
   ·rw [if_pos b,if_pos (by omega)];obtain ⟨d,h⟩:∃ d,i - a - k=d+1:=⟨i - a - k - 1,by omega⟩
    rw [h,List.getElem?_cons_succ];congr 1;omega
   ·rw [if_neg b,if_neg (by omega),Array.getElem?_setIfInBounds_ne hi]
theorem af9 {a:AV} (f:g8 a=true) {v:Value} (e:VR P w I ρ a v):v.cells.size=a.cells.length∧eF a.cells∧bC P w I ρ a.cells (fun j=>v.cells[j]?):=by
 by_cases g:∃ cs,a = .agg cs
 ·obtain ⟨cs,rfl⟩:=g;simp only [VR] at e;obtain ⟨vs,rfl,hs,b,d⟩:=e;exact ⟨hs,b,d⟩
 ·have l:a.cells=[a]:=by cases a <;> first | rfl | exact absurd ⟨_,rfl⟩ g
  have h:d5 a=true:=by cases a <;> first | exact f | exact absurd ⟨_,rfl⟩ g
  have k:=aiW h e;have i:v.cells = #[v]:=by cases v <;> first | rfl | simp [Value.oneCell'] at k
  rw [l,i];refine ⟨rfl,fun c d=>by simp at d;subst d;exact h, ?_⟩;simp only [bC];exact ⟨⟨v,by simp,e⟩,trivial⟩
theorem aga (cs:List AV) (a:Nat) (b:List AV) (h:a+b.length≤cs.length) (i:Nat):(cP cs a b)[i]? = if a≤i∧i < a+b.length then b[i - a]? else cs[i]? := by
 unfold cP;by_cases c:i < a
 ·rw [azd (by simp;omega),azd (by simp;omega),List.getElem?_take,if_pos c,if_neg (by omega)]
 ·by_cases d:i < a+b.length
  ·rw [azd (by simp;omega),aze (by simp;omega),if_pos (by omega)];congr 1;simp;omega
  ·rw [aze (by simp;omega),List.getElem?_drop,if_neg (by omega)];congr 1;simp;omega
theorem aqe (cs:List AV) (a:Nat) (b:List AV) (h:a+b.length≤cs.length):(cP cs a b).length=cs.length:=by
 unfold cP;simp;omega
theorem aaB {place placeE:Nat→Option (Nat×Nat)} (z:∀ i p,placeE i=some p→place i=some p):∀ (parts:List (Nat×AV)) (a:List (Nat×Value)) (cs b:List AV) (arr:Array Value),
 iR placeE cs parts=some b→a.length=parts.length→(∀ (j i:Nat) (e:AV) (k:Nat) (v:Value),parts[j]? = some (i,e)→a[j]? = some (k,v)→i=k∧VR P w I ρ e v) →
 arr.size=cs.length→eF cs→bC P w I ρ cs (fun j=>arr[j]?) →
 ∃ d,Instr.fill place arr a=some d∧d.size=b.length∧b.length=cs.length∧eF b∧bC P w I ρ b (fun j=>d[j]?)
 | [],a,cs,b,arr,h,hl,hv,hs,h1,hc=>by
  simp only [iR,ayX] at h;subst h;obtain rfl:a=[]:=List.eq_nil_of_length_eq_zero hl;exact ⟨arr,rfl,hs,rfl,h1,hc⟩
 | (i,e)::parts,[],cs,b,arr,h,hl,hv,hs,h1,hc=>by simp at hl
 | (i,e)::parts,(k,v)::a,cs,b,arr,h,hl,hv,hs,h1,hc=>by
  simp only [iR] at h;obtain ⟨p,q,h⟩:=ayQ h;split at h
  ·rename_i s;obtain ⟨E,y,D⟩:=s;obtain ⟨rfl,m⟩:=hv 0 i e k v rfl rfl;obtain ⟨t,C,B⟩:=af9 D m;have l:=aqd v.cells.toList 0 p.1 arr;have o:v.cells.zipIdx.foldl (fun cs (x:Value×Nat)=>cs.setIfInBounds (p.1+x.2) x.1) arr=(v.cells.toList.zipIdx 0).foldl (fun cs (x:Value×Nat)=>cs.setIfInBounds (p.1+x.2) x.1) arr:=by
    rw [←Array.foldl_toList,Array.toList_zipIdx]
   rw [←o] at l;have f:(cP cs p.1 e.cells).length=cs.length:=aqe _ _ _ y;obtain ⟨d,r1,r2,F,A,H⟩:=aaB z parts a (cP cs p.1 e.cells) b _ h (by simpa using hl) (fun j=>hv (j+1)) (by rw [l.1,hs,f]) (aaz h1 C _) (by
    refine j6.2 fun j c g => ?_
    rw [aga _ _ _ y] at g;simp only [l.2 j,Nat.add_zero];split at g
    ·rename_i G;obtain ⟨u,n,r⟩:=gQ B g;refine ⟨u, ?_,r⟩;rw [if_pos (by simp;omega)];simpa using n
    ·rename_i G;obtain ⟨u,n,r⟩:=gQ hc g;refine ⟨u, ?_,r⟩;rw [if_neg (by simp;omega)];exact n)
   refine ⟨d, ?_,r2,F.trans f,A,H⟩;rw [Instr.fill,z i p q];simp only;rw [if_neg (by simp only [ne_eq,decide_not,Bool.or_eq_true,Bool.not_eq_true',decide_eq_false_iff_not,decide_eq_true_eq,not_or,Decidable.not_not];exact ⟨by rw [t];exact E,by rw [t,hs];omega⟩)];exact r1
  ·cases h
end
end Go.Tw