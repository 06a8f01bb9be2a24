import Derived.Test.YtaekhhlgnbhnpaaGreatQmcG02
import Derived.Laws.Cells
import Derived.Laws.Rows
import Derived.Laws.Entries
set_option linter.unusedVariables false
set_option linter.unusedSimpArgs false
open Array renaming getElem?_eq_none→azf
open Go.Addr renaming add_lit→ay2
open Go.Instr renaming loadAt→ay4,sureAddr→ay5,indexAt→ay7,sliceBounds→ay9,slice→azb,sliceAt→aze
open List renaming getElem?_eq_none→ay6,getElem?_eq_some_iff→ay8,getElem?_append_left→azg,getElem?_append_right→azh
open Nat renaming add_assoc→ay3,le_refl→aza,sub_self→azc,lt_of_lt_of_le→azd
open Option renaming map_eq_some_iff→ay1
open Option.some renaming injEq→ay0
namespace Go.Tw
open Go
theorem tW {α:Type} (P:Program):∀ (s:Sem α) (x:α),cT P s=some x→∀ w,s.run P w = .ok x w
 | .pure a,x,h,w=>by simp only [cT,ay0] at h;subst h;rfl
 | .program k,x,h,w=>by simp only [cT] at h;exact tW P (k P) x h w
 | .load _ _ _,x,h,w=>by simp [cT] at h
 | .store _ _ _ _,x,h,w=>by simp [cT] at h
 | .new _ _,x,h,w=>by simp [cT] at h
 | .shape _ _,x,h,w=>by simp [cT] at h
 | .freeze _ _ _,x,h,w=>by simp [cT] at h
 | .frozen _ _,x,h,w=>by simp [cT] at h
 | .getObj _ _,x,h,w=>by simp [cT] at h
 | .setObj _ _ _,x,h,w=>by simp [cT] at h
 | .choose _ _,x,h,w=>by simp [cT] at h
 | .sys _ _,x,h,w=>by simp [cT] at h
 | .mark _ _,x,h,w=>by simp [cT] at h
 | .halt _,x,h,w=>by simp [cT] at h
section
variable {P:Program} {w:World} {I:Nat→Prop} {ρ:cA}
theorem cR {t:TypeId} {d:TypeDesc} (h:P.underlying t=some d):(underlying t).run P w = .ok d w:=by simp [underlying,h]
theorem iF {t:TypeId} {n:Nat} (h:bX P t=some n):(sizeOf t).run P w = .ok n w:=by
 unfold bX at h;obtain ⟨i,hi,rfl⟩:=ayT h;simp [sizeOf,typeInfo,hi]
theorem agf {t:TypeId} {n:Nat} (h:jN P t=some n):∃ i,P.info? t=some i∧i.bytes=n:=by
 unfold jN at h;obtain ⟨i,hi,rfl⟩:=ayT h;exact ⟨i,hi,rfl⟩
theorem ad3 {t:TypeId} {b:Bool} (h:adW P t=some b):(isAgg t).run P w = .ok b w:=by
 unfold adW at h;obtain ⟨d,a,rfl⟩:=ayT h;cases d <;> simp [isAgg,cR a]
theorem iM {t e:TypeId} (h:bO P t=some e):P.underlying t=some (.slice e):=by
 unfold bO at h;split at h
 ·cases h;assumption
 ·cases h
theorem aaF {t:TypeId} {a:Nat×TypeId} (h:qK P t=some a):P.underlying t=some (.array a.1 a.2):=by
 unfold qK at h;split at h
 ·cases h;assumption
 ·cases h
theorem agh {t:TypeId} {i:Nat} {p:Nat×TypeId} (h:gG P t i=some p):∃ a f,P.underlying t=some (.struct a)∧a[i]? = some f∧f.offset=p.1∧f.type=p.2:=by
 unfold gG at h;split at h
 ·rename_i a c;obtain ⟨f,b,rfl⟩:=ayT h;exact ⟨a,f,c,b,rfl,rfl⟩
 ·cases h
theorem abo {t:TypeId} (h:pQ P t=true):P.underlying t=some .string:=by
 unfold pQ at h;split at h
 ·assumption
 ·cases h
theorem agi {t:TypeId} (h:tR P t=true):P.underlying t=some (.int .u8):=by
 unfold tR at h;split at h
 ·assumption
 ·cases h
theorem aje {cs:List AV}:∀ {a:Nat→Option Value},bB P w I ρ cs a→∃ vs:List Value,vs.length=cs.length∧(∀ j v,vs[j]? = some v→a j=some v)∧bB P w I ρ cs (fun j=>vs[j]?):=by
 induction cs with
 | nil=>intro a _;exact ⟨[],rfl,by simp,by simp only [bB]⟩
 | cons c cs d =>
  intro a h;simp only [bB] at h;obtain ⟨⟨v,i,g⟩,e⟩:=h;obtain ⟨vs,l,f,r⟩:=d e;refine ⟨v::vs,by simp [l], ?_, ?_⟩
  ·intro j u b;cases j with
   | zero=>simp at b;subst b;exact i
   | succ j=>exact f j u (by simpa using b)
  ·simp only [bB];exact ⟨⟨v,by simp,g⟩,by simpa using r⟩
theorem abp {cs:List AV} {a:Nat→Option Value} (h:bB P w I ρ cs a) {j:Nat} (c:j < cs.length):∃ v,a j=some v:=by
 obtain ⟨v,b,_⟩:=gW h (List.getElem?_eq_getElem c);exact ⟨v,b⟩
theorem ajf {c:AV} (h:dL c=true) {v:Value} (a:VR P w I ρ c v):v.oneCell'=true:=by
 cases c with
 | val x=>simp only [VR] at a;subst a;cases v <;> simp_all [dL,Value.oneCell']
 | agg cs=>simp [dL] at h
 | tup cs=>simp [dL] at h
 | tree len c cs f=>simp only [VR] at a;obtain ⟨g,o,cap,rfl,_⟩:=a;rfl
 | tptr d cs=>simp only [VR] at a;obtain ⟨g,o,rfl,_⟩:=a;rfl
 | emp c f=>simp only [VR] at a;obtain ⟨e,cap,rfl,_⟩:=a;rfl
 | sl b d len c f=>simp only [VR] at a;obtain ⟨g,o,cap,ty,n,s,_,rfl,_⟩:=a;rfl
 | ptr b d=>simp only [VR] at a;obtain ⟨g,o,_,rfl⟩:=a;rfl
 | clo f cs=>simp only [VR] at a;obtain ⟨vs,rfl,_⟩:=a;rfl
theorem vC {cs:List AV} (h:dY cs) (k:Nat):dY (cs.take k):=fun c a=>h c (List.mem_of_mem_take a)
theorem lH {cs:List AV} (h:dY cs) (k:Nat):dY (cs.drop k):=fun c a=>h c (List.mem_of_mem_drop a)
theorem acM {cs b:List AV} (h:dY cs) (k:dY b):dY (cs++b):=fun c a=>by
 rcases List.mem_append.1 a with a | a
 ·exact h c a
 ·exact k c a
theorem abq {cs b:List AV} (h:dY cs) (k:dY b) (a:Nat):dY (cH cs a b) :=
 acM (acM (vC h _) k) (lH h _)
theorem ajg {t:TypeId} {cs:List AV} {a:Nat} {g:AV} (b:qM P t cs a=some g) {vs:Array Value} (hs:vs.size=cs.length) (k:dY cs) (f:bB P w I ρ cs (fun j=>vs[j]?)) :
 ∃ v,(part t vs a).run P w = .ok v w∧VR P w I ρ g v:=by
 unfold qM at b;split at b
 ·rename_i c;obtain ⟨n,l,b⟩:=ayS b;split at b
  ·rename_i h;cases b;refine ⟨.agg (vs.extract a (a+n)),by simp [part,ad3 c,iF l], ?_⟩;simp only [VR];refine ⟨_,rfl,by simp;omega,vC (lH k _) _, ?_⟩;refine iK (ad2 (lS f a) n) fun j i => ?_
   simp at i;rw [Array.getElem?_extract];rw [if_pos (by omega)]
  ·cases b
 ·rename_i c;obtain ⟨v,d,e⟩:=gW f b;exact ⟨v,by simp [part,ad3 c,d],e⟩
 ·cases b
theorem ajh {t:TypeId} {cs:List AV} {b:Nat} {k:AV} (a:qM P t cs b=some k) {g o:Nat} (s:dY cs) (i:bB P w I ρ cs (fun j=>w.cell? ⟨g,o+j,none⟩)) :
 ∃ v,(loadVar t ⟨g,o+b,none⟩).run P w = .ok v w∧VR P w I ρ k v:=by
 unfold qM at a;split at a
 ·rename_i c;obtain ⟨n,u,a⟩:=ayS a;split at a
  ·rename_i p;cases a;obtain ⟨vs,l,f,r⟩:=aje (ad2 (lS i b) n);have m:vs.length=n:=by simp at l;omega
   have h:=run_loadCells_list (P:=P) (w:=w) ⟨g,o+b,none⟩ vs (fun j v q=>by
    have:=f j v q;rw [ay2,ay3];exact this)
   rw [m] at h;refine ⟨.agg vs.toArray,by simp [loadVar,ad3 c,iF u,h], ?_⟩;simp only [VR];exact ⟨_,rfl,by simpa using l,vC (lH s _) _,by simpa using r⟩
  ·cases a
 ·rename_i c;obtain ⟨v,d,e⟩:=gW i a;exact ⟨v,by simp [loadVar,ad3 c,d],e⟩
 ·cases a
end
section
variable {P:Program} {w:World} {I:Nat→Prop} {ρ:cA} {m:aF}
theorem ad4 (w:World) (I:Nat→Prop):iL w w I I:=⟨fun _ h=>h,fun _ _=>rfl,fun _ _ h=>h⟩
theorem agj {cs:List AV} {a:Nat→Option Value} (h:bB P w I dA cs a):bB P w I ρ cs a:=eN (ad4 w I) (fun b x h=>by simp [dA] at h) cs a h
def mT (P:Program) (w:World) (I:Nat→Prop) (ρ:cA) (s:Sem Value) (a:AV):Prop:=∃ v,s.run P w = .ok v w∧VR P w I ρ a v
theorem BR.cellsAt {k:eZ} {g o:Nat} (h:BR P w I ρ k g o):bB P w I ρ k.cells (fun j=>w.cell? ⟨g,o+j,none⟩):=by
 obtain ⟨arr,b,d,a⟩:=h.cells;have c:bB P w I ρ k.cells (fun j=>arr[o+j]?):=by
  split at a
  ·exact agj a
  ·exact a
 exact iK c fun j _=>cell_of_row w g (o+j) arr _ b d
theorem BR.flatAt {k:eZ} {g o:Nat} (h:BR P w I ρ k g o) (d:k.kind = .flat):bB P w I dA k.cells (fun j=>w.cell? ⟨g,o+j,none⟩):=by
 obtain ⟨arr,b,c,a⟩:=h.cells;rw [if_pos d] at a;exact iK a fun j _=>cell_of_row w g (o+j) arr _ b c
theorem aji (i:SR P w I ρ m) {t:TypeId} {x l:AV} (h:mH P m t x=some l) {v:Value} (c:VR P w I ρ x v):mT P w I ρ (ay4 t v) l:=by
 cases x with
 | ptr b e =>
  simp only [mH] at h;obtain ⟨k,f,h⟩:=ayS h;split at h
  ·cases h
  ·simp only [VR] at c;obtain ⟨g,o,j,rfl⟩:=c;obtain ⟨u,a,d⟩:=ajh (P:=P) (w:=w) (ρ:=ρ) h (i.blk b k g o f j).one (i.blk b k g o f j).cellsAt;exact ⟨u,by simpa [ay4,ay5] using a,d⟩
 | tptr e cs =>
  simp only [mH] at h;simp only [VR] at c;obtain ⟨g,o,rfl,p,a,n⟩:=c;obtain ⟨u,a,d⟩:=ajh (P:=P) (w:=w) (ρ:=ρ) h a (agj n);exact ⟨u,by simpa [ay4,ay5] using a,d⟩
 | _=>simp [mH] at h
theorem aqB {a:AV} {b:Bool} (h:VR P w I ρ a (.bool b)):a = .val (.bool b):=by
 cases a <;> simp [VR] at h;exact congrArg AV.val h.symm
theorem aqC {a b c e:AV} (h:acL a b c=some e) {x y z:Value} (f:VR P w I ρ a x) (g:VR P w I ρ b y) (d:VR P w I ρ c z) :
 mT P w I ρ (do pure (if ←asBool z then x else y)) e:=by
 unfold acL at h;split at h
 ·rename_i t;simp only [VR] at d;subst d;simp only [ay0] at h;subst h;cases t
  ·exact ⟨y,by simp [asBool],g⟩
  ·exact ⟨x,by simp [asBool],f⟩
 ·cases h
mutual
theorem aaG:∀ (av:AV) (u v:Value),jO av=some u→VR P w I ρ av v→v=u
 | .val x,u,v,h,hv=>by
  simp only [jO,ay0] at h
  simp only [VR] at hv
  rw [hv,h]
 | .agg cs,u,v,h,hv=>by
  simp only [jO] at h
  obtain ⟨l,hl,rfl⟩:=ayT h
  simp only [VR] at hv
  obtain ⟨vs,rfl,hs,_,hc⟩:=hv
  have:=ad5 cs l (fun j=>vs[j]?) hl hc
  congr 1
  apply Array.ext'
  apply List.ext_getElem?
  intro j
  by_cases hj:j < cs.length
  ·have h2:vs[j]? = l[j]? := this.2 j hj
   simpa using h2
  ·rw [ay6 (by simp;omega),ay6 (by simp;omega)]
 | .tup cs,u,v,h,hv=>by simp [jO] at h
 | .tree _ _ _ _,u,v,h,hv=>by simp [jO] at h
 | .tptr _ _,u,v,h,hv=>by simp [jO] at h
 | .emp _ _,u,v,h,hv=>by simp [jO] at h
 | .sl _ _ _ _ _,u,v,h,hv=>by simp [jO] at h
 | .ptr _ _,u,v,h,hv=>by simp [jO] at h
 | .clo _ _,u,v,h,hv=>by simp [jO] at h
theorem ad5:∀ (cs:List AV) (l:List Value) (get:Nat→Option Value),sM cs=some l→bB P w I ρ cs get→l.length=cs.length∧∀ j,j < cs.length→get j=l[j]?
 | [],l,get,h,hv=>by
  simp only [sM,ay0] at h
  subst h
  exact ⟨rfl,fun j hj=>absurd hj (by simp)⟩
 | c::cs,l,get,h,hv=>by
  simp only [sM] at h
  obtain ⟨u,hu,h⟩:=ayS h
  obtain ⟨l',hl',rfl⟩:=ayT h
  simp only [bB] at hv
  obtain ⟨⟨v,h0,h1⟩,h2⟩:=hv
  have e:=aaG c u v hu h1
  obtain ⟨e1,e2⟩:=ad5 cs l' _ hl' h2
  refine ⟨by simp [e1],fun j hj => ?_⟩
  cases j with
  | zero=>simp [h0,e]
  | succ j=>simpa using e2 j (by simpa using hj)
end
theorem aqD {a:AV} {n:Bool} (h:vB a=some n) {v:Value} (d:VR P w I ρ a v):∃ x len cap,v = .slice x len cap∧x.isNone=n:=by
 cases a with
 | val x =>
  simp only [VR] at d;subst d;unfold vB at h;split at h <;> simp_all
 | tree l c cs f=>simp only [vB,ay0] at h;simp only [VR] at d;obtain ⟨g,o,cap,rfl,_⟩:=d;exact ⟨_,_,_,rfl,by simpa using h⟩
 | emp c f=>simp only [vB,ay0] at h;simp only [VR] at d;obtain ⟨i,cap,rfl,_⟩:=d;exact ⟨_,_,_,rfl,by simpa using h⟩
 | sl b e l c f=>simp only [vB,ay0] at h;simp only [VR] at d;obtain ⟨g,o,cap,ty,n,s,_,rfl,_⟩:=d;exact ⟨_,_,_,rfl,by simpa using h⟩
 | agg cs=>simp [vB] at h
 | tup cs=>simp [vB] at h
 | tptr a b=>simp [vB] at h
 | ptr a b=>simp [vB] at h
 | clo a b=>simp [vB] at h
theorem ajj (op:BinOp) (t:TypeId) (x y:Operand) (a:Option Addr) (n m:Nat) (v:Value):eqGuard op t x y (.slice a n m) v=pure ():=by cases op <;> rfl
theorem aqE {op:BinOp} {t:TypeId} {x y:Operand} {a b j:AV} (h:eA P op t x y a b=some j) {u v:Value} (f:VR P w I ρ a u) (c:VR P w I ρ b v) :
 mT P w I ρ (do eqGuard op t x y u v;binOp op t u v) j:=by
 unfold eA at h;split at h
 ·simp only [VR] at f c;subst f;subst c;obtain ⟨z,i,rfl⟩:=ayT h;exact ⟨z,tW P _ _ i w,by simp only [VR]⟩
 ·obtain ⟨m,p,h⟩:=ayS h;obtain ⟨v',s,h⟩:=ayS h;obtain ⟨z,i,rfl⟩:=ayT h;have q:=aaG _ m u p f;have o:=aaG _ v' v s c;subst q;subst o;exact ⟨z,tW P _ _ i w,by simp only [VR]⟩
 ·obtain ⟨el,e,h⟩:=ayS h;obtain ⟨n,r,h⟩:=ayS h;simp only [VR] at c;subst c;obtain ⟨g,len,cap,rfl,l⟩:=aqD r f;have k:∀ d,(Op.equalIn (d+1) t (.slice g len cap) (.slice none 0 0)).run P w = .ok n w:=fun d=>by
   cases g with
   | none=>simp [Op.equalIn,cR (iM e)];simpa using l
   | some g=>simp [Op.equalIn,cR (iM e)];simpa using l
  split at h
  ·cases h;refine ⟨.bool n, ?_,by simp only [aZ,VR]⟩;simp only [ajj,pure_bind,binOp];simp [Op.equal,Op.maxDepth,k 9999]
  ·cases h;refine ⟨.bool !n, ?_,by simp only [aZ,VR]⟩;simp only [ajj,pure_bind,binOp];simp [Op.equal,Op.maxDepth,k 9999]
  ·cases h
 ·cases h
theorem aqF {op:UnOp} {a c:AV} (h:unE P op a=some c) {u:Value} (b:VR P w I ρ a u):mT P w I ρ (Op.unary op u) c:=by
 unfold unE at h;split at h
 ·obtain ⟨z,d,rfl⟩:=ayT h;simp only [VR] at b;subst b;exact ⟨z,tW P _ _ d w,by simp only [VR]⟩
 ·cases h
theorem aqG {i:Nat} {a c:AV} (h:xS i a=some c) {u:Value} (b:VR P w I ρ a u):mT P w I ρ (Instr.extract u i) c:=by
 unfold xS at h;split at h
 ·simp only [VR] at b;obtain ⟨vs,rfl,hs,f⟩:=b;obtain ⟨v,e,d⟩:=gW f h;exact ⟨v,by simp [Instr.extract,e],d⟩
 ·cases h
theorem aqH {s:TypeId} {f:Nat} {a m:AV} (h:aaC P s f a=some m) {u:Value} (d:VR P w I ρ a u):mT P w I ρ (Instr.fieldAt s u f) m:=by
 unfold aaC at h;obtain ⟨p,q,h⟩:=ayS h;obtain ⟨y,x,l,j,k,i⟩:=agh q;split at h
 ·obtain ⟨n,c,h⟩:=ayS h;split at h
  ·cases h
  ·rename_i b;cases h;simp only [VR] at d;obtain ⟨g,o,v,rfl⟩:=d;refine ⟨.pointer (some ⟨g,o+(_+p.1),none⟩), ?_,by simp only [VR];exact ⟨g,o,v,rfl⟩⟩;rw [←i] at c;simp [Instr.fieldAt,cR l,j,ay5,fieldPlace,iF c,b,k,ay2,ay3]
 ·obtain ⟨n,c,h⟩:=ayS h;split at h
  ·cases h
  ·rename_i b;cases h;simp only [VR] at d;obtain ⟨g,o,rfl,r,e,t⟩:=d;refine ⟨.pointer (some ⟨g,o+(_+p.1),none⟩), ?_,by simp only [VR];exact ⟨g,o,rfl,r,e,t⟩⟩;rw [←i] at c;simp [Instr.fieldAt,cR l,j,ay5,fieldPlace,iF c,b,k,ay2,ay3]
 ·cases h
theorem aqI {s:TypeId} {f:Nat} {a d:AV} (h:aaD P s f a=some d) {u:Value} (c:VR P w I ρ a u):mT P w I ρ (Instr.field s u f) d:=by
 unfold aaD at h;split at h
 ·obtain ⟨p,l,h⟩:=ayS h;obtain ⟨q,o,k,i,g,e⟩:=agh l;simp only [VR] at c;obtain ⟨vs,rfl,hs,b,n⟩:=c;obtain ⟨v,m,j⟩:=ajg (P:=P) (w:=w) h hs b n;exact ⟨v,by simp [Instr.field,cR k,i,asAgg,g,e,m],j⟩
 ·cases h
theorem acN {a:AV} {k:Nat} (h:kS a=some k) {u:Value} (b:VR P w I ρ a u):∃ kd,u = .int kd (k:Int):=by
 unfold kS at h;split at h
 ·split at h
  ·rename_i kd n c;simp only [ay0] at h;simp only [VR] at b;subst h;exact ⟨kd,by rw [b,Int.toNat_of_nonneg c]⟩
  ·cases h
 ·cases h
theorem aqJ {t:TypeId} {k:Nat} {a q:AV} (h:oJ P t k a=some q) {u:Value} (d:VR P w I ρ a u) (kd:IntKind):mT P w I ρ (ay7 t u (.int kd k)) q:=by
 unfold oJ at h;split at h
 ·rename_i el i;obtain ⟨sz,b,h⟩:=ayS h;split at h
  ·split at h
   ·rename_i e;cases h;simp only [VR] at d;obtain ⟨g,o,cap,rfl,j,v,r,c,l⟩:=d;refine ⟨.pointer (some ⟨g,o+k*sz,none⟩), ?_,by simp only [VR];exact ⟨g,o,rfl,j,c,l⟩⟩;have:(0:Int)≤(k:Int)∧k < _:=⟨by omega,e⟩
    simp [ay7,asIntOf,cR (iM i),iF b,this,ay2]
   ·cases h
  ·split at h
   ·rename_i e;cases h;simp only [VR] at d;obtain ⟨g,o,cap,ty,n,s,m,rfl,_⟩:=d;refine ⟨.pointer (some ⟨g,o+(_+k*sz),none⟩), ?_,by simp only [VR];exact ⟨g,o,m,rfl⟩⟩;have:(0:Int)≤(k:Int)∧k < _:=⟨by omega,e⟩
    simp [ay7,asIntOf,cR (iM i),iF b,this,ay2,ay3]
   ·cases h
  ·cases h
 ·obtain ⟨p,f,h⟩:=ayS h;obtain ⟨sz,b,h⟩:=ayS h;split at h
  ·split at h
   ·rename_i e;cases h;simp only [VR] at d;obtain ⟨g,o,rfl,j,c,l⟩:=d;refine ⟨.pointer (some ⟨g,o+(_+k*sz),none⟩), ?_,by simp only [VR];exact ⟨g,o,rfl,j,c,l⟩⟩;have:(0:Int)≤(k:Int)∧k < p.1:=⟨by omega,e⟩
    simp [ay7,asIntOf,cR (aaF f),iF b,this,ay2,ay5,ay3]
   ·cases h
  ·split at h
   ·rename_i e;cases h;simp only [VR] at d;obtain ⟨g,o,m,rfl⟩:=d;refine ⟨.pointer (some ⟨g,o+(_+k*sz),none⟩), ?_,by simp only [VR];exact ⟨g,o,m,rfl⟩⟩;have:(0:Int)≤(k:Int)∧k < p.1:=⟨by omega,e⟩
    simp [ay7,asIntOf,cR (aaF f),iF b,this,ay2,ay5,ay3]
   ·cases h
  ·cases h
theorem aqK {t:TypeId} {k:Nat} {a l:AV} (h:abm P t k a=some l) {u:Value} (e:VR P w I ρ a u) (kd:IntKind):mT P w I ρ (Instr.index t u (.int kd k)) l:=by
 unfold abm at h;split at h
 ·obtain ⟨x,i,h⟩:=ayS h;obtain ⟨sz,f,h⟩:=ayS h;split at h
  ·rename_i y;simp only [VR] at e;obtain ⟨vs,rfl,hs,c,r⟩:=e;obtain ⟨v,p,o⟩:=ajg (P:=P) (w:=w) h hs c r;have:(0:Int)≤(k:Int)∧k < x.1:=⟨by omega,y⟩
   exact ⟨v,by simp [Instr.index,asIntOf,cR (aaF i),iF f,this,p],o⟩
  ·cases h
 ·split at h
  ·rename_i s d;simp only [VR] at e;subst e;obtain ⟨b,m,rfl⟩:=ayT h;refine ⟨.int .u8 b.toNat, ?_,by simp only [bA,VR]⟩;have j:k < s.size:=by
    have:=(ay8.1 m).1;simpa using this
   have g:s[k]? = some b:=by
    have n:s[k]? = some s[k]:=getElem?_pos s k j;rw [n];have q:=(ay8.1 m).2;rw [←q];rfl
   simp [Instr.index,asIntOf,cR (abo d),g]
  ·cases h
 ·cases h
end
section
variable {P:Program} {w:World} {I:Nat→Prop} {ρ:cA} {m:aF}
def kU:Option Nat→Option Value→Prop
 | none,none=>True
 | some n,some v=>∃ kd,v = .int kd (n:Int)
 | _,_=>False
theorem agk {e:bC} {a:Act} (b:ER P w I ρ e a) {x:Option Operand} {n:Option Nat} (h:dD (x.map (opd e))=some n):kU n (x.map a.eval):=by
 cases x with
 | none=>simp only [Option.map_none,dD,ay0] at h;subst h;trivial
 | some x =>
  simp only [Option.map_some,dD] at h;obtain ⟨k,c,rfl⟩:=ayT h;exact acN c (dU b x)
theorem xV {kd:IntKind} {n y:Nat} (h:n≤y) (a:BoundsCode):(Instr.sliceBound (.int kd (n:Int)) y a).run P w = .ok n w:=by
 have:(0:Int)≤(n:Int)∧(n:Int)≤(y:Int):=⟨by omega,by omega⟩
 simp [Instr.sliceBound,asIntOf,this]
theorem abr {b:Bool} {len cap:Nat} {lo hi mx:Option Nat} {h f vm:Option Value} (i:kU lo h) (g:kU hi f) (a:kU mx vm)
 (e:lo.getD 0≤hi.getD len) (c:hi.getD len≤mx.getD cap) (d:mx.getD cap≤cap) (k:(mx.isSome && hi.isNone)=false) :
 (ay9 b len cap h f vm).run P w = .ok (lo.getD 0,hi.getD len,mx.getD cap) w:=by
 cases lo with
 | none =>
  cases h with
  | some v=>simp [kU] at i
  | none =>
   cases hi with
   | none =>
    cases f with
    | some v=>simp [kU] at g
    | none =>
     cases mx with
     | none=>cases vm with
      | some v=>simp [kU] at a
      | none=>simp [ay9]
     | some x=>simp at k
   | some y =>
    cases f with
    | none=>simp [kU] at g
    | some v =>
     obtain ⟨kd,rfl⟩:=g;cases mx with
     | none=>cases vm with
      | some v=>simp [kU] at a
      | none=>simp at c d;simp [ay9,xV c]
     | some x=>cases vm with
      | none=>simp [kU] at a
      | some v =>
       obtain ⟨j,rfl⟩:=a;simp at c d;simp [ay9,xV c,xV d]
 | some l =>
  cases h with
  | none=>simp [kU] at i
  | some v =>
   obtain ⟨m,rfl⟩:=i;cases hi with
   | none =>
    cases f with
    | some v=>simp [kU] at g
    | none =>
     cases mx with
     | none=>cases vm with
      | some v=>simp [kU] at a
      | none=>simp at e;simp [ay9,xV e]
     | some x=>simp at k
   | some y =>
    cases f with
    | none=>simp [kU] at g
    | some v =>
     obtain ⟨kd,rfl⟩:=g;cases mx with
     | none=>cases vm with
      | some v=>simp [kU] at a
      | none=>simp at e c d;simp [ay9,xV c,xV e]
     | some x=>cases vm with
      | none=>simp [kU] at a
      | some v =>
       obtain ⟨j,rfl⟩:=a;simp at e c d;simp [ay9,xV c,xV d,xV e]
theorem agl {a:Option Nat} {c cap:Nat} (h:a.getD c≤c) (b:c≤cap):a.getD cap≤cap:=by
 cases a with
 | none=>exact aza _
 | some x=>simp at h ⊢;omega
theorem acO {a:Option Nat} {c cap x:Nat} (h:x≤a.getD c) (b:c≤cap):x≤a.getD cap:=by
 cases a with
 | none=>simp at h ⊢;omega
 | some y=>simpa using h
theorem agm {a:Option Nat} {c cap l:Nat} {f:Bool} (d:c≤cap) (b:f=true→cap=c):a.getD c - l≤a.getD cap - l∧((f || a.isSome)=true→a.getD cap - l=a.getD c - l):=by
 cases a with
 | none=>simp;refine ⟨by omega,fun h=>by rw [b h]⟩
 | some y=>simp
theorem aqL {t el:TypeId} {sz:Nat} (p:bO P t=some el) (q:bX P el=some sz) {lo hi mx:Option Nat} {x Y:AV} (h:tS sz (lo.getD 0) hi mx x=some Y) (R:(mx.isSome && hi.isNone)=false)
 {v:Value} (u:VR P w I ρ x v) (hs:∀ b i n c f,x = .sl b i n c f→∀ g o,ρ b=some (g,o)→∀ ty O,w.shape? g=some (ty,O)→bX P ty=some sz) {S M vm:Option Value} (N:kU lo S) (Q:kU hi M) (L:kU mx vm):mT P w I ρ (azb t v S M vm) Y:=by
 unfold tS at h;split at h
 ·split at h
  ·rename_i B;simp only [ay0] at h;subst h;simp only [VR] at u;subst u;refine ⟨.slice none 0 0, ?_,by simp only [aW,VR]⟩;have A:=abr (P:=P) (w:=w) (b:=true) (len:=0) (cap:=0) N Q L (by omega) (by omega) (by omega) R;simp [azb,cR (iM p),iF q,A,B]
  ·cases h
 ·rename_i n c cs f;split at h
  ·rename_i B;obtain ⟨C,r,y⟩:=B;simp only [VR] at u;obtain ⟨g,o,cap,rfl,hI,⟨W,e⟩,J,G,V⟩:=u;have A:=abr (P:=P) (w:=w) (b:=true) (len:=n) (cap:=cap) N Q L C (acO r e) (agl y e) R;have d:=agm (a:=mx) (l:=lo.getD 0) e J;have k:(azb t (.slice (some ⟨g,o,none⟩) n cap) S M vm).run P w = .ok (.slice (some (if mx.getD cap=lo.getD 0 then ⟨g,o,none⟩ else ⟨g,o+lo.getD 0*sz,none⟩)) (hi.getD n - lo.getD 0) (mx.getD cap - lo.getD 0)) w:=by
    simp [azb,cR (iM p),iF q,A,ay2];split <;> rfl
   split at h
   ·rename_i m;simp only [ay0] at h;subst h;refine ⟨_,k, ?_⟩;simp only [VR];rw [m];by_cases F:mx.getD cap=hi.getD n
    ·rw [if_pos F];exact ⟨_,_,by rw [azc],by rw [←m];exact d.1,by rw [←m];exact d.2⟩
    ·rw [if_neg F];exact ⟨_,_,by rw [azc],by rw [←m];exact d.1,by rw [←m];exact d.2⟩
   ·rename_i m;simp only [ay0] at h;subst h;refine ⟨_,k, ?_⟩;have X:lo.getD 0 < mx.getD cap:=azd (by omega) (acO r e);rw [if_neg (by omega)];simp only [VR];refine ⟨g,o+lo.getD 0*sz,_,rfl,hI,⟨by omega,d.1⟩,d.2,lH G _, ?_⟩;refine iK (lS V _) fun j _=>by rw [ay3]
  ·cases h
 ·rename_i b i n c f;split at h
  ·rename_i B;obtain ⟨C,r,y⟩:=B;simp only [VR] at u;obtain ⟨g,o,cap,ty,O,s,K,rfl,⟨W,e⟩,J,E,H,T⟩:=u;have D:=hs b i n c f rfl g o K ty O E;rw [H,ay0] at D;subst D;have A:=abr (P:=P) (w:=w) (b:=true) (len:=n) (cap:=cap) N Q L C (acO r e) (agl y e) R;have d:=agm (a:=mx) (l:=lo.getD 0) e J;have k:(azb t (.slice (some ⟨g,o+i,none⟩) n cap) S M vm).run P w = .ok (.slice (some (if mx.getD cap=lo.getD 0 then ⟨g,o+i,none⟩ else ⟨g,o+i+lo.getD 0*s,none⟩)) (hi.getD n - lo.getD 0) (mx.getD cap - lo.getD 0)) w:=by
    simp [azb,cR (iM p),iF q,A,ay2];split <;> rfl
   split at h
   ·rename_i m;simp only [ay0] at h;subst h;refine ⟨_,k, ?_⟩;simp only [VR];by_cases F:mx.getD cap=lo.getD 0
    ·rw [if_pos F];exact ⟨_,_,by rw [m.1,azc],d.1,d.2⟩
    ·rw [if_neg F];exact ⟨_,_,by rw [m.1,azc],d.1,d.2⟩
   ·rename_i m;simp only [ay0] at h;subst h;refine ⟨_,k, ?_⟩;have z:(if mx.getD cap=lo.getD 0 then (⟨g,o+i,none⟩:Addr) else ⟨g,o+i+lo.getD 0*s,none⟩)=⟨g,o+(i+lo.getD 0*s),none⟩:=by
     by_cases h0:lo.getD 0=0
     ·rw [h0];simp
     ·have X:lo.getD 0 < mx.getD cap:=azd (by omega) (acO r e);rw [if_neg (by omega),ay3]
    rw [z];simp only [VR];refine ⟨g,o,_,ty,O,s,K,rfl,⟨by omega,d.1⟩,d.2,E,H, ?_⟩;have a1:=agl y e;have a0:lo.getD 0≤mx.getD cap:=Nat.le_trans C (acO r e);have:lo.getD 0*s+(mx.getD cap - lo.getD 0)*s≤cap*s:=by
     rw [←Nat.add_mul];exact Nat.mul_le_mul_right _ (by omega)
    omega
  ·cases h
 ·rename_i c f;split at h
  ·rename_i B;simp only [ay0] at h;subst h;obtain ⟨C,r,y⟩:=B;simp only [VR] at u;obtain ⟨Z,cap,rfl,e,J⟩:=u;have U:mx.getD cap≤cap:=by
    cases mx with
    | none=>exact aza _
    | some x=>simp at y;subst y;simp
   have A:=abr (P:=P) (w:=w) (b:=true) (len:=0) (cap:=cap) N Q L (by omega) (by omega) U R;have d:=agm (a:=mx) (l:=0) e J;refine ⟨.slice (some Z) 0 (mx.getD cap), ?_, ?_⟩
   ·simp [azb,cR (iM p),iF q,A,Addr.add,C,r]
   ·simp only [VR];exact ⟨Z,mx.getD cap,rfl,by simpa using d.1,by simpa using d.2⟩
  ·cases h
 ·cases h
theorem aqM {t:TypeId} {lo hi mx:Option Nat} {x K:AV} (h:kT P t lo hi mx x=some K) {v:Value} (p:VR P w I ρ x v)
 (hs:∀ b a n c f el sz,x = .sl b a n c f→bO P t=some el→bX P el=some sz→∀ g o,ρ b=some (g,o)→∀ ty U,w.shape? g=some (ty,U)→bX P ty=some sz)
 {H A vm:Option Value} (B:kU lo H) (G:kU hi A) (q:kU mx vm):mT P w I ρ (aze t v H A vm) K:=by
 unfold kT at h;split at h
 ·cases h
 ·rename_i V;have l:(mx.isSome && hi.isNone)=false:=(Bool.not_eq_true _).mp V;split at h
  ·rename_i el k;obtain ⟨sz,d,h⟩:=ayS h;obtain ⟨u,Q,R⟩:=aqL (P:=P) (w:=w) k d h l p (fun b a n c f e=>hs b a n c f el sz e k d) B G q;exact ⟨u,by simpa [aze,cR (iM k)] using Q,R⟩
  ·split at h
   ·rename_i n el C;obtain ⟨sz,d,h⟩:=ayS h;split at h
    ·rename_i a cs O;split at h
     ·rename_i T;simp only [VR] at p;obtain ⟨g,o,rfl,S,m,D⟩:=p;have M:=aaF C;simp only at M;simp only [tS] at h;split at h
      ·rename_i y;obtain ⟨F,z,r⟩:=y;have E:=abr (P:=P) (w:=w) (b:=false) (len:=n) (cap:=n) B G q F z r l;have i:(aze t (.pointer (some ⟨g,o+a,none⟩)) H A vm).run P w = .ok (.slice (some (if mx.getD n=lo.getD 0 then ⟨g,o+a,none⟩ else ⟨g,o+a+lo.getD 0*sz,none⟩)) (hi.getD n - lo.getD 0) (mx.getD n - lo.getD 0)) w:=by
        simp [aze,cR M,iF d,E,ay5,ay2]
       split at h
       ·rename_i N;simp only [ay0] at h;subst h;refine ⟨_,i, ?_⟩;simp only [VR];rw [N];by_cases L:mx.getD n=hi.getD n
        ·rw [if_pos L];exact ⟨_,_,by rw [azc],aza _,fun _=>rfl⟩
        ·rw [if_neg L];exact ⟨_,_,by rw [azc],aza _,fun _=>rfl⟩
       ·rename_i N;simp only [ay0] at h;subst h;refine ⟨_,i, ?_⟩;rw [if_neg (by omega)];simp only [VR];refine ⟨g,o+a+lo.getD 0*sz,_,rfl,S,⟨by omega,aza _⟩,fun _=>rfl,lH (lH m _) _, ?_⟩;refine iK (lS (lS D a) _) fun j _=>by simp [ay3]
      ·cases h
     ·cases h
    ·cases h
   ·split at h
    ·split at h
     ·rename_i s D;obtain ⟨F,z,r,rfl⟩:=D;simp only [ay0] at h;subst h;simp only [VR] at p;subst p;have E:=abr (P:=P) (w:=w) (b:=false) (len:=s.size) (cap:=s.size) (mx:=none) (vm:=none) B G trivial z r (aza _) rfl;have J:vm=none:=by
       cases vm with
       | none=>rfl
       | some v=>simp [kU] at q
      subst J;refine ⟨.string (s.extract (lo.getD 0) (hi.getD s.size)), ?_,by simp only [VR]⟩;simp [aze,azb,cR (abo F),E]
     ·cases h
    ·cases h
theorem aqN (l:List Value):∀ (k a:Nat) (arr:Array Value),((l.zipIdx k).foldl (fun cs (p:Value×Nat)=>cs.setIfInBounds (a+p.2) p.1) arr).size=arr.size ∧
 ∀ i,((l.zipIdx k).foldl (fun cs (p:Value×Nat)=>cs.setIfInBounds (a+p.2) p.1) arr)[i]? = if a+k≤i∧i < a+k+l.length∧i < arr.size then l[i - a - k]? else arr[i]? := by
 induction l with
 | nil=>intro k a arr;refine ⟨rfl,fun i => ?_⟩;simp;intro c b;omega
 | cons v l f =>
  intro k a arr;simp only [List.zipIdx_cons,List.foldl_cons];obtain ⟨c,b⟩:=f (k+1) a (arr.setIfInBounds (a+k) v);refine ⟨by rw [c];simp,fun i => ?_⟩;rw [b i];simp only [Array.size_setIfInBounds,List.length_cons];by_cases hi:a+k=i
  ·subst hi;by_cases g:a+k < arr.size
   ·rw [if_neg (by omega),if_pos (by omega),Array.getElem?_setIfInBounds_self_of_lt g];simp
   ·rw [if_neg (by omega),if_neg (by omega),azf (by simp;omega),azf (by omega)]
  ·by_cases e:a+(k+1)≤i∧i < a+(k+1)+l.length∧i < arr.size
   ·rw [if_pos e,if_pos (by omega)];obtain ⟨d,h⟩:∃ d,i - a - k=d+1:=⟨i - a - k - 1,by omega⟩
    rw [h,List.getElem?_cons_succ];congr 1;omega
   ·rw [if_neg e,if_neg (by omega),Array.getElem?_setIfInBounds_ne hi]
theorem agn {a:AV} (g:gD a=true) {v:Value} (e:VR P w I ρ a v):v.cells.size=a.cells.length∧dY a.cells∧bB P w I ρ a.cells (fun j=>v.cells[j]?):=by
 by_cases f:∃ cs,a = .agg cs
 ·obtain ⟨cs,rfl⟩:=f;simp only [VR] at e;obtain ⟨vs,rfl,hs,b,d⟩:=e;exact ⟨hs,b,d⟩
 ·have l:a.cells=[a]:=by cases a <;> first | rfl | exact absurd ⟨_,rfl⟩ f
  have h:dL a=true:=by cases a <;> first | exact g | exact absurd ⟨_,rfl⟩ f
  have k:=ajf h e;have i:v.cells = #[v]:=by cases v <;> first | rfl | simp [Value.oneCell'] at k
  rw [l,i];refine ⟨rfl,fun c d=>by simp at d;subst d;exact h, ?_⟩;simp only [bB];exact ⟨⟨v,by simp,e⟩,trivial⟩
theorem ago (cs:List AV) (a:Nat) (b:List AV) (h:a+b.length≤cs.length) (i:Nat):(cH cs a b)[i]? = if a≤i∧i < a+b.length then b[i - a]? else cs[i]? := by
 unfold cH;by_cases c:i < a
 ·rw [azg (by simp;omega),azg (by simp;omega),List.getElem?_take,if_pos c,if_neg (by omega)]
 ·by_cases d:i < a+b.length
  ·rw [azg (by simp;omega),azh (by simp;omega),if_pos (by omega)];congr 1;simp;omega
  ·rw [azh (by simp;omega),List.getElem?_drop,if_neg (by omega)];congr 1;simp;omega
theorem ajk (cs:List AV) (a:Nat) (b:List AV) (h:a+b.length≤cs.length):(cH cs a b).length=cs.length:=by
 unfold cH;simp;omega
theorem abt {place placeE:Nat→Option (Nat×Nat)} (y:∀ i p,placeE i=some p→place i=some p):∀ (parts:List (Nat×AV)) (a:List (Nat×Value)) (cs b:List AV) (arr:Array Value),
 hU placeE cs parts=some b→a.length=parts.length→(∀ (j i:Nat) (e:AV) (k:Nat) (v:Value),parts[j]? = some (i,e)→a[j]? = some (k,v)→i=k∧VR P w I ρ e v) →
 arr.size=cs.length→dY cs→bB P w I ρ cs (fun j=>arr[j]?) →
 ∃ d,Instr.fill place arr a=some d∧d.size=b.length∧b.length=cs.length∧dY b∧bB P w I ρ b (fun j=>d[j]?)
 | [],a,cs,b,arr,h,hl,hv,hs,h1,hc=>by
  simp only [hU,ay0] at h;subst h;obtain rfl:a=[]:=List.eq_nil_of_length_eq_zero hl;exact ⟨arr,rfl,hs,rfl,h1,hc⟩
 | (i,e)::parts,[],cs,b,arr,h,hl,hv,hs,h1,hc=>by simp at hl
 | (i,e)::parts,(k,v)::a,cs,b,arr,h,hl,hv,hs,h1,hc=>by
  simp only [hU] at h;obtain ⟨p,m,h⟩:=ayS h;split at h
  ·rename_i n;obtain ⟨D,t,B⟩:=n;obtain ⟨rfl,o⟩:=hv 0 i e k v rfl rfl;obtain ⟨z,H,G⟩:=agn B o;have q:=aqN v.cells.toList 0 p.1 arr;have s:v.cells.zipIdx.foldl (fun cs (x:Value×Nat)=>cs.setIfInBounds (p.1+x.2) x.1) arr=(v.cells.toList.zipIdx 0).foldl (fun cs (x:Value×Nat)=>cs.setIfInBounds (p.1+x.2) x.1) arr:=by
    rw [←Array.foldl_toList,Array.toList_zipIdx]
   rw [←s] at q;have f:(cH cs p.1 e.cells).length=cs.length:=ajk _ _ _ t;obtain ⟨d,r1,r2,F,C,E⟩:=abt y parts a (cH cs p.1 e.cells) b _ h (by simpa using hl) (fun j=>hv (j+1)) (by rw [q.1,hs,f]) (abq h1 H _) (by
    refine lG.2 fun j c g => ?_
    rw [ago _ _ _ t] at g;simp only [q.2 j,Nat.add_zero];split at g
    ·rename_i A;obtain ⟨u,r,l⟩:=gW G g;refine ⟨u, ?_,l⟩;rw [if_pos (by simp;omega)];simpa using r
    ·rename_i A;obtain ⟨u,r,l⟩:=gW hc g;refine ⟨u, ?_,l⟩;rw [if_neg (by simp;omega)];exact r)
   refine ⟨d, ?_,r2,F.trans f,C,E⟩;rw [Instr.fill,y i p m];simp only;rw [if_neg (by simp only [ne_eq,decide_not,Bool.or_eq_true,Bool.not_eq_true',decide_eq_false_iff_not,decide_eq_true_eq,not_or,Decidable.not_not];exact ⟨by rw [z];exact D,by rw [z,hs];omega⟩)];exact r1
  ·cases h
end
end Go.Tw