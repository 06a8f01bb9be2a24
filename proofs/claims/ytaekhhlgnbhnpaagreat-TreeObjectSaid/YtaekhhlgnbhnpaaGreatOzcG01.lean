import Derived.Calls
import Derived.Orders
set_option linter.unusedVariables false
set_option linter.unusedSimpArgs false
namespace Go.Tw
open Go
theorem awC{α β:Type _}{b:β}{o:Option α}{f:α→Option β}(h:o.bind f=some b):∃a,o=some a∧f a=some b:=Option.bind_eq_some_iff.1 h
theorem awD{α β:Type _}{b:β}{o:Option α}{f:α→β}(h:o.map f=some b):∃a,o=some a∧f a=b:=Option.map_eq_some_iff.1 h
inductive AV where
 | val (v:Value)
 | agg (cs:List AV)
 | tup (cs:List AV)
 | tree (len c:Nat) (cells:List AV) (full:Bool)
 | tptr (off:Nat) (cells:List AV)
 | emp (c:Nat) (full:Bool)
 | sl (b off len c:Nat) (full:Bool)
 | ptr (b off:Nat)
 | clo (f:FuncId) (caps:List AV)
 deriving Inhabited
inductive fW where
 | flat | var | hole
 deriving DecidableEq
structure eP where
 cells:List AV
 el:TypeId
 kind:fW
 wr:Bool
structure Maps where
 maps:Nat→Option (List (Value×AV))
 iters:Nat→Option (Nat×List Nat)
structure aF where
 next:Nat
 at_:Nat→Option eP
 mm:Maps
def aF.empty:aF:=⟨0,fun _=>none,fun _=>none,fun _=>none⟩
def aF.put (m:aF) (b:Nat) (x:Option eP):aF:=⟨m.next,fun j=>if j=b then x else m.at_ j,m.mm⟩
def aF.push (m:aF) (x:eP):aF:=⟨m.next+1,fun j=>if j=m.next then some x else m.at_ j,m.mm⟩
def Maps.has (mm:Maps) (g:Nat):Prop:=mm.maps g≠none∨mm.iters g≠none
abbrev bN:=Nat→AV
def bN.set (e:bN) (d:Nat) (v:AV):bN:=fun j=>if j=d then v else e j
def bN.put (e:bN) (d:Option Nat) (v:AV):bN:=match d with | some d=>e.set d v | none=>e
def eE:AV := .val (.tuple #[])
def aO:AV := .val (.slice none 0 0)
def AV.cells:AV→List AV
 | .agg cs=>cs
 | v=>[v]
def dF:AV→Bool
 | .val v=>match v with
  | .agg _ | .tuple _=>false
  | _=>true
 | .agg _ | .tup _=>false
 | _=>true
def fK:AV→Bool
 | .agg _=>true
 | v=>dF v
def rF:Value→Bool
 | .agg _ | .tuple _=>false
 | _=>true
def opd (e:bN):Operand→AV
 | .tmp t=>e t
 | .const v => .val v
 | .global g => .val (.pointer (some ⟨g,0,none⟩))
 | .func f => .clo f []
def cT {α:Type} (P:Program):Sem α→Option α
 | .pure a=>some a
 | .program k=>cT P (k P)
 | _=>none
def aoT:Value→Bool
 | .bool _ | .int .. | .float .. | .complex .. | .string _=>true
 | _=>false
def cH (P:Program) (t:TypeId):Option Nat:=(P.info? t).map (·.size)
def hY (P:Program) (t:TypeId):Option Nat:=(P.info? t).map (·.bytes)
def eX (P:Program) (t:TypeId):Option (List Value):=((P.info? t).bind (·.zero)).bind fun z=>if z.cells.toList.all rF then some z.cells.toList else none
def bW (P:Program) (t:TypeId):fW:=match eX P t with | some z=>if z.all aoT then .flat else .var | none => .var
def wR (P:Program) (t:TypeId):Option Bool:=(P.underlying t).map fun | .struct _ | .array _ _=>true | _=>false
def cD (P:Program) (t:TypeId):Option TypeId:=match P.underlying t with | some (.slice e)=>some e | _=>none
def oN (P:Program) (t:TypeId):Option (Nat×TypeId):=match P.underlying t with | some (.array n e)=>some (n,e) | _=>none
def ac9 (P:Program) (t:TypeId):Option (Nat×TypeId):=match P.underlying t with | some (.pointer a)=>oN P a | _=>none
def fP (P:Program) (t:TypeId) (i:Nat):Option (Nat×TypeId):=match P.underlying t with | some (.struct fs)=>(fs[i]?).map fun f=>(f.offset,f.type) | _=>none
def uA (P:Program) (t:TypeId):Bool:=match P.underlying t with | some (.int _)=>false | some _=>true | none=>false
def ada (P:Program) (t:TypeId):Bool:=match P.underlying t with | some (.struct fs)=>fs.toList.all fun f=>(cH P f.type).isSome | _=>false
def nO (P:Program) (t:TypeId):Bool:=match P.underlying t with | some .string=>true | _=>false
def yL (P:Program) (t:TypeId):Bool:=match P.underlying t with | some (.int _)=>true | _=>false
def rG (P:Program) (t:TypeId):Bool:=match P.underlying t with | some (.int .u8)=>true | _=>false
mutual
def iZ:AV→Option Value
 | .val v=>some v
 | .agg cs=>(qM cs).map fun l => .agg l.toArray
 | _=>none
def qM:List AV→Option (List Value)
 | []=>some []
 | c::cs=>(iZ c).bind fun v=>(qM cs).map (v::·)
end
mutual
def iS:AV→Bool
 | .sl .. | .ptr .. => true
 | .agg cs | .clo _ cs | .tup cs=>jG cs
 | _=>false
def jG:List AV→Bool
 | []=>false
 | c::cs=>iS c || jG cs
end
mutual
def fz (m:aF):AV→Option (AV×aF)
 | .val v=>some (.val v,m)
 | .tree n c cs f=>some (.tree n c cs f,m)
 | .tptr o cs=>some (.tptr o cs,m)
 | .emp c f=>some (.emp c f,m)
 | .agg cs=>(fzs m cs).map fun r=>(.agg r.1,r.2)
 | .sl b off len c full=>match m.at_ b with
  | some ⟨cells,el,.flat,_⟩=>some (.tree len c (cells.drop off) full,m.put b (some ⟨cells,el,.flat,false⟩))
  | some ⟨cells,el,.var,_⟩=>if jG cells=true then none else some (.tree len c (cells.drop off) full,m.put b (some ⟨cells,el,.var,false⟩))
  | _=>none
 | .clo f []=>some (.clo f [],m)
 | _=>none
def fzs (m:aF):List AV→Option (List AV×aF)
 | []=>some ([],m)
 | c::cs=>(fz m c).bind fun r=>(fzs r.2 cs).map fun s=>(r.1::s.1,s.2)
end
def kV (P:Program) (t:TypeId) (cs:List AV) (off:Nat):Option AV :=
 match wR P t with
 | some true=>(cH P t).bind fun n=>if off+n≤cs.length then some (.agg ((cs.drop off).take n)) else none
 | some false=>cs[off]?
 | none=>none
def cN (cs:List AV) (off:Nat) (xs:List AV):List AV:=cs.take off++xs++cs.drop (off+xs.length)
def fX (place:Nat→Option (Nat×Nat)) (cells:List AV):List (Nat×AV)→Option (List AV)
 | []=>some cells
 | (i,v)::rest=>(place i).bind fun p=>if v.cells.length=p.2∧p.1+v.cells.length≤cells.length∧fK v=true then fX place (cN cells p.1 v.cells) rest else none
structure bY where
 v:AV
 m:aF
 wb:Option (Nat×AV)
def bO (v:AV) (m:aF):Option bY:=some ⟨v,m,none⟩
def eQ (v:Option AV) (m:aF):Option bY:=v.map fun v=>⟨v,m,none⟩
def bB (b:Bool):AV := .val (.bool b)
def aD (n:Int):AV := .val (.int .i64 n)
def aU (b:UInt8):AV := .val (.int .u8 b.toNat)
def asB:AV→Option UInt8
 | .val (.int .u8 n)=>some (UInt8.ofNat n.toNat)
 | _=>none
def bytesOf:List AV→Option (List UInt8)
 | []=>some []
 | c::cs=>(asB c).bind fun b=>(bytesOf cs).map (b::·)
def dR (kd:fW) (m:aF):AV→Option (List AV×Nat×Bool)
 | .val (.slice none 0 0)=>some ([],0,true)
 | .tree n c cs f=>some (cs,n,f && c == n)
 | .emp c f=>some ([],0,f && c == 0)
 | .sl b off n c f=>match m.at_ b with
  | some k=>if k.kind=kd then some (k.cells.drop off,n,f && c == n) else none
  | none=>none
 | _=>none
def rH:AV→Option Nat
 | .val (.slice none 0 0)=>some 0
 | .tree n _ _ _=>some n
 | .emp _ _=>some 0
 | .sl _ _ n _ _=>some n
 | _=>none
def qN (P:Program) (op:BinOp) (t:TypeId) (x y:Operand) (u v:Value):Option Value:=cT P (do eqGuard op t x y u v;binOp op t u v)
def rI:AV→Option Bool
 | .val (.slice none 0 0)=>some true
 | .tree .. | .emp .. | .sl .. => some false
 | _=>none
def dV (P:Program) (op:BinOp) (t:TypeId) (x y:Operand):AV→AV→Option AV
 | .val u,.val v=>(qN P op t x y u v).map .val
 | .agg a,.agg b=>(iZ (.agg a)).bind fun u=>(iZ (.agg b)).bind fun v=>(qN P op t x y u v).map .val
 | a,.val (.slice none 0 0)=>(cD P t).bind fun _=>(rI a).bind fun n=>match op with
  | .eql=>some (bB n)
  | .neq=>some (bB !n)
  | _=>none
 | _,_=>none
def iA:AV→Option Nat
 | .val (.int _ n)=>if 0≤n then some n.toNat else none
 | _=>none
def bH:Option AV→Option (Option Nat)
 | none=>some none
 | some a=>(iA a).map some
def cutE (sz:Nat) (l:Nat) (ho:Option Nat) (mx:Option Nat):AV→Option AV
 | .val (.slice none 0 0)=>if l=0∧ho.getD 0=0∧mx.getD 0=0 then some aO else none
 | .tree n c cs f =>
  if l≤ho.getD n∧ho.getD n≤mx.getD c∧mx.getD c≤c then
   (if l=ho.getD n then some (.emp (mx.getD c - l) (f || mx.isSome)) else some (.tree (ho.getD n - l) (mx.getD c - l) (cs.drop (l*sz)) (f || mx.isSome)))
  else none
 | .sl b off n c f =>
  if l≤ho.getD n∧ho.getD n≤mx.getD c∧mx.getD c≤c then
   (if l=ho.getD n∧l≠0 then some (.emp (mx.getD c - l) (f || mx.isSome)) else some (.sl b (off+l*sz) (ho.getD n - l) (mx.getD c - l) (f || mx.isSome)))
  else none
 | .emp c f=>if l=0∧ho.getD 0=0∧mx.getD 0=0 then some (.emp (mx.getD c) (f || mx.isSome)) else none
 | _=>none
def i4 (P:Program) (el:TypeId) (n:Nat):Option (List AV) :=
 (cH P el).bind fun sz=>if n*sz=0 then some [] else (eX P el).bind fun z=>if z.length=sz then some ((List.range (n*sz)).map fun i=>AV.val (z.getD (i % sz) undef)) else none
def i5 (P:Program) (m:aF) (t:TypeId):AV→Option AV
 | .ptr b off=>(m.at_ b).bind fun k=>if k.kind = .hole then none else kV P t k.cells off
 | .tptr off cells=>kV P t cells off
 | _=>none
def lZ (P:Program) (t:TypeId) (k:Nat) (x:AV):Option AV :=
 match cD P t with
 | some el=>(cH P el).bind fun sz=>match x with
  | .tree n _ cs _=>if k < n then some (.tptr (k*sz) cs) else none
  | .sl b off n _ _=>if k < n then some (.ptr b (off+k*sz)) else none
  | _=>none
 | none=>(oN P t).bind fun a=>(cH P a.2).bind fun sz=>match x with
  | .tptr off cs=>if k < a.1 then some (.tptr (off+k*sz) cs) else none
  | .ptr b off=>if k < a.1 then some (.ptr b (off+k*sz)) else none
  | _=>none
def aak (P:Program) (t:TypeId) (k:Nat):AV→Option AV
 | .agg cs=>(oN P t).bind fun a=>(cH P a.2).bind fun sz=>if k < a.1 then kV P a.2 cs (k*sz) else none
 | .val (.string s)=>if nO P t then (s.data.toList[k]?).map aU else none
 | _=>none
def kI (P:Program) (t:TypeId) (lo hi mx:Option Nat) (x:AV):Option AV :=
 if mx.isSome && hi.isNone then none else
 match cD P t with
 | some el=>(cH P el).bind fun sz=>cutE sz (lo.getD 0) hi mx x
 | none=>match oN P t with
  | some (n,el)=>(cH P el).bind fun sz=>match x with
   | .tptr off cs=>if 0 < n then cutE sz (lo.getD 0) hi mx (.tree n n (cs.drop off) true) else none
   | _=>none
  | none=>match x with
   | .val (.string s)=>if nO P t∧lo.getD 0≤hi.getD s.size∧hi.getD s.size≤s.size∧mx=none then some (.val (.string (s.extract (lo.getD 0) (hi.getD s.size)))) else none
   | _=>none
def fQ (s:ByteArray):List AV:=s.data.toList.map aU
def mK (P:Program) (m:aF) (src dst:TypeId) (x:AV):Option bY :=
 match cD P dst with
 | some el=>match x with
  | .val (.string s)=>if rG P el∧nO P src∧cH P el=some 1 then bO (.sl m.next 0 s.size s.size false) (m.push ⟨fQ s,el,.flat,true⟩) else none
  | _=>none
 | none=>match nO P dst,cD P src with
  | true,some el=>if rG P el then (dR .flat m x).bind fun r=>if r.2.1≤r.1.length then (bytesOf (r.1.take r.2.1)).bind fun bs=>bO (.val (.string ⟨bs.toArray⟩)) m else none else none
  | _,_=>match x with
   | .val v=>eQ ((cT P (Go.convert src dst v)).map .val) m
   | _=>none
def aJ (P:Program) (m:aF) (t:TypeId) (slot:Option Nat) (x:AV):AV→Option bY
 | .ptr b off=>(cH P t).bind fun n=>(m.at_ b).bind fun k =>
  if x.cells.length=n∧off+n≤k.cells.length∧k.wr=true∧fK x=true∧0 < n then
   match k.kind with
   | .hole=>slot.bind fun d=>if off=0∧k.cells.length=n then (fzs (m.put b none) x.cells).bind fun r=>some ⟨eE,r.2,some (d,.tptr 0 r.1)⟩ else none
   | .var=>bO eE (m.put b (some ⟨cN k.cells off x.cells,k.el,.var,true⟩))
   | .flat=>(fzs m x.cells).bind fun r=>(r.2.at_ b).bind fun k'=>if k'.wr=true then bO eE (r.2.put b (some ⟨cN k.cells off r.1,k.el,.flat,true⟩)) else none
  else none
 | _=>none
def qO (P:Program) (once:Bool) (m:aF) (t:TypeId) (x:AV):Option bY :=
 (cH P t).bind fun n=>if x.cells.length=n∧fK x=true then
  (if once then (fzs m x.cells).bind fun r=>bO (.tptr 0 r.1) r.2
   else bO (.ptr m.next 0) (m.push ⟨x.cells,t,.var,true⟩))
 else none
def aK (P:Program) (once:Bool) (m:aF) (t:TypeId):Option bY :=
 (eX P t).bind fun z=>bO (.ptr m.next 0) (m.push ⟨z.map .val,t,if once then .hole else .var,true⟩)
def rJ (P:Program) (t:TypeId) (parts:List (Nat×AV)):Option AV :=
 (eX P t).bind fun z =>
  if ada P t then
   (fX (fun i=>(fP P t i).bind fun f=>(cH P f.2).map fun n=>(f.1,n)) (z.map .val) parts).map .agg
  else (oN P t).bind fun a=>(cH P a.2).bind fun n=>(fX (fun i=>some (i*n,n)) (z.map .val) parts).map .agg
def pH (P:Program) (m:aF) (t:TypeId) (len:Nat) (parts:List (Nat×AV)):Option bY :=
 (cD P t).bind fun el=>(cH P el).bind fun n=>(i4 P el len).bind fun z=>if len*n≤16777216 then
  (fX (fun i=>some (i*n,n)) z parts).bind fun cs=>match bW P el with
   | .flat=>(fzs m cs).bind fun r=>bO (.sl r.2.next 0 len len true) (r.2.push ⟨r.1,el,.flat,true⟩)
   | kd=>bO (.sl m.next 0 len len true) (m.push ⟨cs,el,.var,true⟩)
 else none
def eY (P:Program) (m:aF) (t:TypeId) (len:Nat) (parts:List (Nat×AV)):Option bY :=
 (cD P t).bind fun el=>(cH P el).bind fun n=>(i4 P el len).bind fun z=>if len*n≤16777216 then
  (fX (fun i=>some (i*n,n)) z parts).bind fun cs=>if jG cs=true then none else bO (.tree len len cs true) m
 else none
def pJ (P:Program) (m:aF) (t:TypeId) (n k:Nat):Option bY :=
 (cD P t).bind fun el=>(cH P el).bind fun sz=>(hY P el).bind fun y=>(i4 P el k).bind fun z =>
  if n≤k∧k*y≤281474976710656∧k≤9223372036854775807 then bO (.sl m.next 0 n k true) (m.push ⟨z.take (n*sz),el,bW P el,true⟩) else none
def mL:AV→Option AV
 | .ptr b off=>some (.ptr b off)
 | .tptr off cs=>some (.tptr off cs)
 | .clo f cs=>some (.clo f cs)
 | _=>none
def abN (a b:AV):AV→Option AV
 | .val (.bool t)=>some (match t with | true=>a | false=>b)
 | _=>none
def pK (i:Nat):AV→Option AV
 | .tup cs=>cs[i]?
 | _=>none
def yM (P:Program) (op:UnOp):AV→Option AV
 | .val v=>(cT P (Op.unary op v)).map .val
 | _=>none
def rK (P:Program) (s:TypeId) (f:Nat) (x:AV):Option AV :=
 (fP P s f).bind fun p=>match x with
  | .ptr b o=>(cH P p.2).bind fun n=>if n=0 then none else some (.ptr b (o+p.1))
  | .tptr o cs=>(cH P p.2).bind fun n=>if n=0 then none else some (.tptr (o+p.1) cs)
  | _=>none
def pM (P:Program) (t:TypeId) (f:Nat):AV→Option AV
 | .agg cs=>(fP P t f).bind fun p=>kV P p.2 cs p.1
 | _=>none
def pO:Operand→Option Nat
 | .tmp d=>some d
 | _=>none
def slOk (P:Program) (m:aF) (t:TypeId):AV→Bool
 | .sl b _ _ _ _=>match m.at_ b,cD P t with
  | some k,some el=>k.el == el
  | _,_=>false
 | _=>true
def c9 (P:Program) (once:Bool) (e:bN) (m:aF):Op→Option bY
 | .move x=>bO (opd e x) m
 | .assign x=>bO (opd e x) m
 | .pick c a b=>eQ (abN (opd e a) (opd e b) (opd e c)) m
 | .alloc t=>aK P once m t
 | .box t x=>qO P once m t (opd e x)
 | .build t parts=>eQ (rJ P t (parts.toList.map fun p=>(p.1,opd e p.2))) m
 | .buildSlice t len parts=>pH P m t len (parts.toList.map fun p=>(p.1,opd e p.2))
 | .load t a=>eQ (i5 P m t (opd e a)) m
 | .store t a x=>aJ P m t (pO a) (opd e x) (opd e a)
 | .nilCheck x=>eQ (mL (opd e x)) m
 | .binOp op t x y _=>eQ (dV P op t x y (opd e x) (opd e y)) m
 | .unOp op _ x=>eQ (yM P op (opd e x)) m
 | .convert src dst x=>mK P m src dst (opd e x)
 | .slice t x lo hi mx=>if slOk P m t (opd e x) then (bH (lo.map (opd e))).bind fun lo=>(bH (hi.map (opd e))).bind fun hi=>(bH (mx.map (opd e))).bind fun mx=>eQ (kI P t lo hi mx (opd e x)) m else none
 | .fieldAddr s x f=>eQ (rK P s f (opd e x)) m
 | .field t x f=>eQ (pM P t f (opd e x)) m
 | .indexAddr t x i=>(iA (opd e i)).bind fun k=>eQ (lZ P t k (opd e x)) m
 | .index t x i=>(iA (opd e i)).bind fun k=>eQ (aak P t k (opd e x)) m
 | .extract x i=>eQ (pK i (opd e x)) m
 | .makeSlice t l c=>(iA (opd e l)).bind fun n=>(iA (opd e c)).bind fun k=>pJ P m t n k
 | .makeFunc (.func f) first caps=>if first.size=0 then bO (.clo f (caps.toList.map (opd e))) m else none
 | _=>none
def eZ (P:Program) (el:TypeId) (sz:Nat) (m:aF):AV→Option (List AV×Nat)
 | .val (.string b)=>if rG P el∧sz=1 then some (fQ b,b.size) else none
 | x=>(dR (bW P el) m x).bind fun r=>if r.2.1*sz≤r.1.length then some (r.1.take (r.2.1*sz),r.2.1) else none
def vA (s:AV) (n:Nat):Bool:=match s with
 | .sl _ _ len c true=>decide (c < len+n)
 | _=>false
def dW (P : Program) (el : TypeId) (m : aF) (s x : AV) : Option bY :=
 (cH P el).bind fun sz => (hY P el).bind fun y => (eX P el).bind fun zl => (eZ P el sz m x).bind fun new => (dR (bW P el) m s).bind fun r =>
   if (r.2.1 + new.2) * y ≤ 140737488355328 ∧ r.2.1 + new.2 ≤ 140737488355328 ∧ zl.length = sz then
     (if r.2.2 = true then
       (if new.2 = 0 then bO s m else if r.2.1 * sz ≤ r.1.length then
         bO (.sl m.next 0 (r.2.1 + new.2) (r.2.1 + new.2) false) (m.push ⟨r.1.take (r.2.1 * sz) ++ new.1, el, bW P el, true⟩)
        else none)
      else if vA s new.2 = true then (if r.2.1 * sz ≤ r.1.length then
         bO (.sl m.next 0 (r.2.1 + new.2) (r.2.1 + new.2) false) (m.push ⟨r.1.take (r.2.1 * sz) ++ new.1, el, bW P el, true⟩)
        else none)
      else match s with
       | .sl b off len c f => (m.at_ b).bind fun k =>
         if k.wr = true ∧ k.el = el ∧ off + len * sz = k.cells.length then
           bO (.sl m.next 0 (len + new.2) (len + new.2) false) ((m.put b none).push ⟨k.cells.drop off ++ new.1, el, bW P el, true⟩)
         else if k.wr = true ∧ k.el = el ∧ len + new.2 ≤ c ∧ off + (len + new.2) * sz ≤ k.cells.length then
           bO (.sl b off (len + new.2) c f) (m.put b (some ⟨cN k.cells (off + len * sz) new.1, el, bW P el, true⟩))
         else none
       | _ => none)
   else none
def rM (z:List Value) (n:Nat):List AV:=(List.range n).map fun i=>AV.val (z.getD (i % z.length) undef)
def yN (P:Program) (el:TypeId) (m:aF) (s:AV) (n:Nat):Option bY :=
 (cH P el).bind fun sz=>(hY P el).bind fun y=>(eX P el).bind fun zl=>(dR (bW P el) m s).bind fun r =>
  if (r.2.1+n)*y≤140737488355328∧r.2.1+n≤140737488355328∧zl.length=sz∧n≠0∧(r.2.2=true∨vA s n=true)∧r.2.1*sz≤r.1.length then
   bO (.sl m.next 0 (r.2.1+n) (r.2.1+n) false) (m.push ⟨r.1.take (r.2.1*sz)++rM zl (n*sz),el,bW P el,true⟩)
  else none
def abO:AV→Option AV
 | .val (.slice none 0 0)=>some (aD 0)
 | .tree _ c _ true=>some (aD c)
 | .emp c true=>some (aD c)
 | .sl _ _ _ c true=>some (aD c)
 | _=>none
def adb (P:Program) (el:TypeId) (m:aF):AV→Option bY
 | .val (.slice none 0 0)=>bO eE m
 | .emp _ _=>bO eE m
 | .sl b off len _ _=>if len=0 then bO eE m else (cH P el).bind fun sz=>(eX P el).bind fun zl=>(m.at_ b).bind fun k =>
  if k.kind ≠ .hole∧k.wr=true∧zl.length=sz∧off+len*sz≤k.cells.length then
   bO eE (m.put b (some ⟨cN k.cells off (rM zl (len*sz)),k.el,k.kind,true⟩))
  else none
 | _=>none
def sZ (P:Program) (el:TypeId) (m:aF) (d x:AV):Option bY :=
 (cH P el).bind fun sz=>(eZ P el sz m x).bind fun new=>match d with
  | .sl b off len _ _=>(m.at_ b).bind fun k =>
   if k.kind=bW P el∧k.wr=true∧off+len*sz≤k.cells.length then
    bO (aD (min new.2 len:Nat)) (m.put b (some ⟨cN k.cells off (new.1.take (min new.2 len*sz)),k.el,k.kind,true⟩))
   else none
  | d=>(dR (bW P el) m d).bind fun r=>if min new.2 r.2.1=0 then bO (aD 0) m else none
def lenE (P:Program) (t:TypeId):AV→Option AV
 | .val (.string s)=>if nO P t then some (aD s.size) else none
 | x=>match cD P t with
  | some _=>(rH x).map fun (n:Nat)=>aD n
  | none=>match oN P t,ac9 P t with
   | some a,_=>some (aD a.1)
   | none,some a=>some (aD a.1)
   | none,none=>none
def oO (P:Program) (m:aF) (ts:Array TypeId) (type:TypeId) (args:List AV):Builtin→Option bY
 | .len=>match ts.toList,args with
  | [t],[x]=>eQ (lenE P t x) m
  | _,_=>none
 | .append=>match ts.toList,args with
  | [t,t2],[s,x]=>if uA P t2 then (cD P t).bind fun el=>dW P el m s x else (cD P t).bind fun el=>if yL P t2 then (iA x).bind fun n=>yN P el m s n else none
  | _,_=>none
 | .cap=>match ts.toList,args with
  | [t],[x]=>(cD P t).bind fun _=>eQ (abO x) m
  | _,_=>none
 | .clear=>match ts.toList,args with
  | [t],[x]=>(cD P t).bind fun el=>adb P el m x
  | _,_=>none
 | .copy=>match ts.toList,args with
  | t::_,[d,x]=>(cD P t).bind fun el=>sZ P el m d x
  | _,_=>none
 | .min=>(qM args).bind fun vs=>eQ ((cT P (Builtin.min_ ts type vs.toArray)).map .val) m
 | .max=>(qM args).bind fun vs=>eQ ((cT P (Builtin.max_ ts type vs.toArray)).map .val) m
 | _=>none
mutual
def lend:Nat→aF→AV→Option AV
 | _,_,.val v=>some (.val v)
 | _,_,.tree n c cs f=>some (.tree n c cs f)
 | _,_,.tptr o cs=>some (.tptr o cs)
 | _,_,.emp c f=>some (.emp c f)
 | k,m,.agg cs=>(eM k m cs).map .agg
 | k,m,.clo f cs=>(eM k m cs).map (.clo f)
 | 0,m,.sl b off len c full=>(m.at_ b).bind fun x=>if x.kind = .flat then some (.tree len c (x.cells.drop off) full) else none
 | k+1,m,.sl b off len c full=>(m.at_ b).bind fun x=>match x.kind with
  | .flat=>some (.tree len c (x.cells.drop off) full)
  | .var=>(eM k m (x.cells.drop off)).map fun cs => .tree len c cs full
  | .hole=>none
 | k+1,m,.ptr b off=>(m.at_ b).bind fun x=>match x.kind with
  | .flat=>some (.tptr off x.cells)
  | .var=>(eM k m x.cells).map (.tptr off)
  | .hole=>none
 | _,_,_=>none
 termination_by k _ v=>(k,SizeOf.sizeOf v)
def eM:Nat→aF→List AV→Option (List AV)
 | _,_,[]=>some []
 | k,m,c::cs=>(lend k m c).bind fun c'=>(eM k m cs).map (c'::·)
 termination_by k _ v=>(k,SizeOf.sizeOf v)
end
mutual
def rN:AV→Bool
 | .val _=>true
 | .agg cs | .tup cs=>adc cs
 | _=>false
def adc:List AV→Bool
 | []=>true
 | c::cs=>rN c && adc cs
end
structure gJ where
 v:AV
 rows:List (TypeId×List AV)
mutual
def jH:AV→Bool
 | .val _ | .sl .. | .emp .. => true
 | .agg cs | .tup cs=>kW cs
 | _=>false
def kW:List AV→Bool
 | []=>true
 | c::cs=>jH c && kW cs
end
def gJ.apart (r:gJ):Bool:=jH r.v && r.rows.all fun x=>kW x.2
mutual
def shift (n:Nat):AV→AV
 | .sl b off len c f => .sl (n+b) off len c f
 | .agg cs => .agg (gS n cs)
 | .tup cs => .tup (gS n cs)
 | .ptr b off => .ptr (n+b) off
 | .clo f cs => .clo f (gS n cs)
 | .val v => .val v
 | .tree a b c d => .tree a b c d
 | .tptr a b => .tptr a b
 | .emp a b => .emp a b
def gS (n:Nat):List AV→List AV
 | []=>[]
 | c::cs=>shift n c::gS n cs
end
def gG (P:Program) (base:Nat) (m:aF):List (TypeId×List AV)→aF
 | []=>m
 | c::cs=>gG P base (m.push ⟨if bW P c.1 = .flat then c.2 else gS base c.2,c.1,bW P c.1,true⟩) cs
def d8 (P:Program) (m:aF) (rows:List (TypeId×List AV)):aF:=gG P m.next m rows
mutual
def canon (P:Program) (m:aF):Nat→List (Nat×Nat)→List (TypeId×List AV)→AV→Option (AV×List (Nat×Nat)×List (TypeId×List AV))
 | _,ids,rows,.val v=>some (.val v,ids,rows)
 | _,ids,rows,.tree n c cs f=>some (.tree n c cs f,ids,rows)
 | _,ids,rows,.tptr o cs=>some (.tptr o cs,ids,rows)
 | _,ids,rows,.emp c f=>some (.emp c f,ids,rows)
 | k,ids,rows,.agg cs=>(f9 P m k ids rows cs).map fun r=>(.agg r.1,r.2)
 | k,ids,rows,.tup cs=>(f9 P m k ids rows cs).map fun r=>(.tup r.1,r.2)
 | 0,ids,rows,.sl b off len c f=>(m.at_ b).bind fun x =>
  if x.kind = .flat then
   (if x.wr=true then (if ids.any (fun i=>i.1 == b)=true∨bW P x.el ≠ .flat then none else some (.sl rows.length 0 len c f,ids++[(b,off)],rows++[(x.el,x.cells.drop off)]))
    else some (.tree len c (x.cells.drop off) f,ids,rows))
  else none
 | k+1,ids,rows,.sl b off len c f=>(m.at_ b).bind fun x=>match x.kind with
  | .flat =>
   (if x.wr=true then (if ids.any (fun i=>i.1 == b)=true∨bW P x.el ≠ .flat then none else some (.sl rows.length 0 len c f,ids++[(b,off)],rows++[(x.el,x.cells.drop off)]))
    else some (.tree len c (x.cells.drop off) f,ids,rows))
  | .var=>if x.wr=true∧bW P x.el = .var then (f9 P m k ids rows (x.cells.drop off)).bind fun r =>
   if r.2.1.any (fun i=>i.1 == b)=true then none else some (.sl r.2.2.length 0 len c f,r.2.1++[(b,off)],r.2.2++[(x.el,r.1)]) else none
  | .hole=>none
 | _,ids,rows,.clo f []=>some (.clo f [],ids,rows)
 | _,_,_,_=>none
 termination_by k _ _ v=>(k,SizeOf.sizeOf v)
def f9 (P:Program) (m:aF):Nat→List (Nat×Nat)→List (TypeId×List AV)→List AV→Option (List AV×List (Nat×Nat)×List (TypeId×List AV))
 | _,ids,rows,[]=>some ([],ids,rows)
 | k,ids,rows,c::cs=>(canon P m k ids rows c).bind fun r=>(f9 P m k r.2.1 r.2.2 cs).map fun s=>(r.1::s.1,s.2)
 termination_by k _ _ v=>(k,SizeOf.sizeOf v)
end
def iT (P:Program) (m:aF) (v:AV):Option gJ:=(canon P m 3 [] [] v).map fun r=>⟨r.1,r.2.2⟩
def qP (ops:Array Oper) (e:bN) (o:Oper):Bool :=
 match o.guard with
 | none=>true
 | some (j,want)=>match (ops[j]?).bind (·.dst) with
  | some d=>match e d with
   | .val (.bool b)=>b == want
   | _=>false
  | none=>false
inductive Ex where
 | normal | exit (id:Nat) | ret
 deriving DecidableEq
def nP (args:List AV):bN:=fun j=>args.getD j eE
def oP (P:Program) (e:bN) (m:aF):ResultVar→Option AV
 | .tmp t=>some (e t)
 | .cell a t=>i5 P m t (e a)
def mY (P:Program) (e:bN) (m:aF):List ResultVar→Option (List AV)
 | []=>some []
 | r::rs=>(oP P e m r).bind fun v=>(mY P e m rs).map (v::·)
def jZ (P:Program) (rs:List ResultVar) (e:bN) (m:aF):Option AV :=
 (mY P e m rs).map fun vs=>match vs with
  | [v]=>v
  | vs => .tup vs
end Go.Tw