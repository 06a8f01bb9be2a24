import Derived.Calls
import Derived.Orders
set_option linter.unusedVariables false
set_option linter.unusedSimpArgs false
namespace Go.Tw
open Go
inductive AV where
 | val (v:Value)
 | agg (cs:List AV)
 | tup (cs:List AV)
 | tree (len c:Nat) (cells:List AV) (full:Bool)
 | tptr (off:Nat) (cells:List AV)
 | emp (c:Nat) (full:Bool)
 | sl (b off len c:Nat) (full:Bool)
 | ptr (b off:Nat)
 | clo (f:FuncId) (caps:List AV)
 deriving Inhabited
inductive Kind where
 | flat | var | hole
 deriving DecidableEq
structure Blk where
 cells:List AV
 el:TypeId
 kind:Kind
 wr:Bool
structure Maps where
 maps:Nat→Option (List (Value×AV))
 iters:Nat→Option (Nat×List Nat)
structure Mem where
 next:Nat
 at_:Nat→Option Blk
 mm:Maps
def Mem.empty:Mem:=⟨0,fun _=>none,fun _=>none,fun _=>none⟩
def Mem.put (m:Mem) (b:Nat) (x:Option Blk):Mem:=⟨m.next,fun j=>if j=b then x else m.at_ j,m.mm⟩
def Mem.push (m:Mem) (x:Blk):Mem:=⟨m.next+1,fun j=>if j=m.next then some x else m.at_ j,m.mm⟩
def Maps.has (mm:Maps) (g:Nat):Prop:=mm.maps g≠none∨mm.iters g≠none
abbrev Env:=Nat→AV
def Env.set (e:Env) (d:Nat) (v:AV):Env:=fun j=>if j=d then v else e j
def Env.put (e:Env) (d:Option Nat) (v:AV):Env:=match d with | some d=>e.set d v | none=>e
def undefA:AV := .val (.tuple #[])
def nilS:AV := .val (.slice none 0 0)
def AV.cells:AV→List AV
 | .agg cs=>cs
 | v=>[v]
def oneA:AV→Bool
 | .val v=>match v with
  | .agg _ | .tuple _=>false
  | _=>true
 | .agg _ | .tup _=>false
 | _=>true
def okA:AV→Bool
 | .agg _=>true
 | v=>oneA v
def oneV:Value→Bool
 | .agg _ | .tuple _=>false
 | _=>true
def opd (e:Env):Operand→AV
 | .tmp t=>e t
 | .const v => .val v
 | .global g => .val (.pointer (some ⟨g,0,none⟩))
 | .func f => .clo f []
def pureR {α:Type} (P:Program):Sem α→Option α
 | .pure a=>some a
 | .program k=>pureR P (k P)
 | _=>none
def plainV:Value→Bool
 | .bool _ | .int .. | .float .. | .complex .. | .string _=>true
 | _=>false
def szE (P:Program) (t:TypeId):Option Nat:=(P.info? t).map (·.size)
def byE (P:Program) (t:TypeId):Option Nat:=(P.info? t).map (·.bytes)
def zeroE (P:Program) (t:TypeId):Option (List Value):=((P.info? t).bind (·.zero)).bind fun z=>if z.cells.toList.all oneV then some z.cells.toList else none
def kindT (P:Program) (t:TypeId):Kind:=match zeroE P t with | some z=>if z.all plainV then .flat else .var | none => .var
def aggE (P:Program) (t:TypeId):Option Bool:=(P.underlying t).map fun | .struct _ | .array _ _=>true | _=>false
def elE (P:Program) (t:TypeId):Option TypeId:=match P.underlying t with | some (.slice e)=>some e | _=>none
def arrE (P:Program) (t:TypeId):Option (Nat×TypeId):=match P.underlying t with | some (.array n e)=>some (n,e) | _=>none
def parE (P:Program) (t:TypeId):Option (Nat×TypeId):=match P.underlying t with | some (.pointer a)=>arrE P a | _=>none
def fldE (P:Program) (t:TypeId) (i:Nat):Option (Nat×TypeId):=match P.underlying t with | some (.struct fs)=>(fs[i]?).map fun f=>(f.offset,f.type) | _=>none
def notInt (P:Program) (t:TypeId):Bool:=match P.underlying t with | some (.int _)=>false | some _=>true | none=>false
def structE (P:Program) (t:TypeId):Bool:=match P.underlying t with | some (.struct fs)=>fs.toList.all fun f=>(szE P f.type).isSome | _=>false
def isStr (P:Program) (t:TypeId):Bool:=match P.underlying t with | some .string=>true | _=>false
def isInt (P:Program) (t:TypeId):Bool:=match P.underlying t with | some (.int _)=>true | _=>false
def isU8 (P:Program) (t:TypeId):Bool:=match P.underlying t with | some (.int .u8)=>true | _=>false
mutual
def toVal:AV→Option Value
 | .val v=>some v
 | .agg cs=>(toVals cs).map fun l => .agg l.toArray
 | _=>none
def toVals:List AV→Option (List Value)
 | []=>some []
 | c::cs=>(toVal c).bind fun v=>(toVals cs).map (v::·)
end
mutual
def hasRef:AV→Bool
 | .sl .. | .ptr .. => true
 | .agg cs | .clo _ cs | .tup cs=>hasRefs cs
 | _=>false
def hasRefs:List AV→Bool
 | []=>false
 | c::cs=>hasRef c || hasRefs cs
end
mutual
def fz (m:Mem):AV→Option (AV×Mem)
 | .val v=>some (.val v,m)
 | .tree n c cs f=>some (.tree n c cs f,m)
 | .tptr o cs=>some (.tptr o cs,m)
 | .emp c f=>some (.emp c f,m)
 | .agg cs=>(fzs m cs).map fun r=>(.agg r.1,r.2)
 | .sl b off len c full=>match m.at_ b with
  | some ⟨cells,el,.flat,_⟩=>some (.tree len c (cells.drop off) full,m.put b (some ⟨cells,el,.flat,false⟩))
  | some ⟨cells,el,.var,_⟩=>if hasRefs cells=true then none else some (.tree len c (cells.drop off) full,m.put b (some ⟨cells,el,.var,false⟩))
  | _=>none
 | .clo f []=>some (.clo f [],m)
 | _=>none
def fzs (m:Mem):List AV→Option (List AV×Mem)
 | []=>some ([],m)
 | c::cs=>(fz m c).bind fun r=>(fzs r.2 cs).map fun s=>(r.1::s.1,s.2)
end
def partE (P:Program) (t:TypeId) (cs:List AV) (off:Nat):Option AV :=
 match aggE P t with
 | some true=>(szE P t).bind fun n=>if off+n≤cs.length then some (.agg ((cs.drop off).take n)) else none
 | some false=>cs[off]?
 | none=>none
def splice (cs:List AV) (off:Nat) (xs:List AV):List AV:=cs.take off++xs++cs.drop (off+xs.length)
def fillE (place:Nat→Option (Nat×Nat)) (cells:List AV):List (Nat×AV)→Option (List AV)
 | []=>some cells
 | (i,v)::rest=>(place i).bind fun p=>if v.cells.length=p.2∧p.1+v.cells.length≤cells.length∧okA v=true then fillE place (splice cells p.1 v.cells) rest else none
structure Out where
 v:AV
 m:Mem
 wb:Option (Nat×AV)
def outV (v:AV) (m:Mem):Option Out:=some ⟨v,m,none⟩
def outO (v:Option AV) (m:Mem):Option Out:=v.map fun v=>⟨v,m,none⟩
def boolV (b:Bool):AV := .val (.bool b)
def intV (n:Int):AV := .val (.int .i64 n)
def byteV (b:UInt8):AV := .val (.int .u8 b.toNat)
def asB:AV→Option UInt8
 | .val (.int .u8 n)=>some (UInt8.ofNat n.toNat)
 | _=>none
def bytesOf:List AV→Option (List UInt8)
 | []=>some []
 | c::cs=>(asB c).bind fun b=>(bytesOf cs).map (b::·)
def slView (kd:Kind) (m:Mem):AV→Option (List AV×Nat×Bool)
 | .val (.slice none 0 0)=>some ([],0,true)
 | .tree n c cs f=>some (cs,n,f && c == n)
 | .emp c f=>some ([],0,f && c == 0)
 | .sl b off n c f=>match m.at_ b with
  | some k=>if k.kind=kd then some (k.cells.drop off,n,f && c == n) else none
  | none=>none
 | _=>none
def slLen:AV→Option Nat
 | .val (.slice none 0 0)=>some 0
 | .tree n _ _ _=>some n
 | .emp _ _=>some 0
 | .sl _ _ n _ _=>some n
 | _=>none
def binV (P:Program) (op:BinOp) (t:TypeId) (x y:Operand) (u v:Value):Option Value:=pureR P (do eqGuard op t x y u v;binOp op t u v)
def isNil:AV→Option Bool
 | .val (.slice none 0 0)=>some true
 | .tree .. | .emp .. | .sl .. => some false
 | _=>none
def binE (P:Program) (op:BinOp) (t:TypeId) (x y:Operand):AV→AV→Option AV
 | .val u,.val v=>(binV P op t x y u v).map .val
 | .agg a,.agg b=>(toVal (.agg a)).bind fun u=>(toVal (.agg b)).bind fun v=>(binV P op t x y u v).map .val
 | a,.val (.slice none 0 0)=>(elE P t).bind fun _=>(isNil a).bind fun n=>match op with
  | .eql=>some (boolV n)
  | .neq=>some (boolV !n)
  | _=>none
 | _,_=>none
def natOf:AV→Option Nat
 | .val (.int _ n)=>if 0≤n then some n.toNat else none
 | _=>none
def optNat:Option AV→Option (Option Nat)
 | none=>some none
 | some a=>(natOf a).map some
def cutE (sz:Nat) (l:Nat) (ho:Option Nat) (mx:Option Nat):AV→Option AV
 | .val (.slice none 0 0)=>if l=0∧ho.getD 0=0∧mx.getD 0=0 then some nilS else none
 | .tree n c cs f =>
  if l≤ho.getD n∧ho.getD n≤mx.getD c∧mx.getD c≤c then
   (if l=ho.getD n then some (.emp (mx.getD c - l) (f || mx.isSome)) else some (.tree (ho.getD n - l) (mx.getD c - l) (cs.drop (l*sz)) (f || mx.isSome)))
  else none
 | .sl b off n c f =>
  if l≤ho.getD n∧ho.getD n≤mx.getD c∧mx.getD c≤c then
   (if l=ho.getD n∧l≠0 then some (.emp (mx.getD c - l) (f || mx.isSome)) else some (.sl b (off+l*sz) (ho.getD n - l) (mx.getD c - l) (f || mx.isSome)))
  else none
 | .emp c f=>if l=0∧ho.getD 0=0∧mx.getD 0=0 then some (.emp (mx.getD c) (f || mx.isSome)) else none
 | _=>none
def zerosE (P:Program) (el:TypeId) (n:Nat):Option (List AV) :=
 (szE P el).bind fun sz=>if n*sz=0 then some [] else (zeroE P el).bind fun z=>if z.length=sz then some ((List.range (n*sz)).map fun i=>AV.val (z.getD (i % sz) undef)) else none
def loadE (P:Program) (m:Mem) (t:TypeId):AV→Option AV
 | .ptr b off=>(m.at_ b).bind fun k=>if k.kind = .hole then none else partE P t k.cells off
 | .tptr off cells=>partE P t cells off
 | _=>none
def addrE (P:Program) (t:TypeId) (k:Nat) (x:AV):Option AV :=
 match elE P t with
 | some el=>(szE P el).bind fun sz=>match x with
  | .tree n _ cs _=>if k < n then some (.tptr (k*sz) cs) else none
  | .sl b off n _ _=>if k < n then some (.ptr b (off+k*sz)) else none
  | _=>none
 | none=>(arrE P t).bind fun a=>(szE P a.2).bind fun sz=>match x with
  | .tptr off cs=>if k < a.1 then some (.tptr (off+k*sz) cs) else none
  | .ptr b off=>if k < a.1 then some (.ptr b (off+k*sz)) else none
  | _=>none
def indexE (P:Program) (t:TypeId) (k:Nat):AV→Option AV
 | .agg cs=>(arrE P t).bind fun a=>(szE P a.2).bind fun sz=>if k < a.1 then partE P a.2 cs (k*sz) else none
 | .val (.string s)=>if isStr P t then (s.data.toList[k]?).map byteV else none
 | _=>none
def sliceE (P:Program) (t:TypeId) (lo hi mx:Option Nat) (x:AV):Option AV :=
 if mx.isSome && hi.isNone then none else
 match elE P t with
 | some el=>(szE P el).bind fun sz=>cutE sz (lo.getD 0) hi mx x
 | none=>match arrE P t with
  | some (n,el)=>(szE P el).bind fun sz=>match x with
   | .tptr off cs=>if 0 < n then cutE sz (lo.getD 0) hi mx (.tree n n (cs.drop off) true) else none
   | _=>none
  | none=>match x with
   | .val (.string s)=>if isStr P t∧lo.getD 0≤hi.getD s.size∧hi.getD s.size≤s.size∧mx=none then some (.val (.string (s.extract (lo.getD 0) (hi.getD s.size)))) else none
   | _=>none
def bytesV (s:ByteArray):List AV:=s.data.toList.map byteV
def convE (P:Program) (m:Mem) (src dst:TypeId) (x:AV):Option Out :=
 match elE P dst with
 | some el=>match x with
  | .val (.string s)=>if isU8 P el∧isStr P src∧szE P el=some 1 then outV (.sl m.next 0 s.size s.size false) (m.push ⟨bytesV s,el,.flat,true⟩) else none
  | _=>none
 | none=>match isStr P dst,elE P src with
  | true,some el=>if isU8 P el then (slView .flat m x).bind fun r=>if r.2.1≤r.1.length then (bytesOf (r.1.take r.2.1)).bind fun bs=>outV (.val (.string ⟨bs.toArray⟩)) m else none else none
  | _,_=>match x with
   | .val v=>outO ((pureR P (Go.convert src dst v)).map .val) m
   | _=>none
def storeE (P:Program) (m:Mem) (t:TypeId) (slot:Option Nat) (x:AV):AV→Option Out
 | .ptr b off=>(szE P t).bind fun n=>(m.at_ b).bind fun k =>
  if x.cells.length=n∧off+n≤k.cells.length∧k.wr=true∧okA x=true∧0 < n then
   match k.kind with
   | .hole=>slot.bind fun d=>if off=0∧k.cells.length=n then (fzs (m.put b none) x.cells).bind fun r=>some ⟨undefA,r.2,some (d,.tptr 0 r.1)⟩ else none
   | .var=>outV undefA (m.put b (some ⟨splice k.cells off x.cells,k.el,.var,true⟩))
   | .flat=>(fzs m x.cells).bind fun r=>(r.2.at_ b).bind fun k'=>if k'.wr=true then outV undefA (r.2.put b (some ⟨splice k.cells off r.1,k.el,.flat,true⟩)) else none
  else none
 | _=>none
def boxE (P:Program) (once:Bool) (m:Mem) (t:TypeId) (x:AV):Option Out :=
 (szE P t).bind fun n=>if x.cells.length=n∧okA x=true then
  (if once then (fzs m x.cells).bind fun r=>outV (.tptr 0 r.1) r.2
   else outV (.ptr m.next 0) (m.push ⟨x.cells,t,.var,true⟩))
 else none
def allocE (P:Program) (once:Bool) (m:Mem) (t:TypeId):Option Out :=
 (zeroE P t).bind fun z=>outV (.ptr m.next 0) (m.push ⟨z.map .val,t,if once then .hole else .var,true⟩)
def buildE (P:Program) (t:TypeId) (parts:List (Nat×AV)):Option AV :=
 (zeroE P t).bind fun z =>
  if structE P t then
   (fillE (fun i=>(fldE P t i).bind fun f=>(szE P f.2).map fun n=>(f.1,n)) (z.map .val) parts).map .agg
  else (arrE P t).bind fun a=>(szE P a.2).bind fun n=>(fillE (fun i=>some (i*n,n)) (z.map .val) parts).map .agg
def buildSliceE (P:Program) (m:Mem) (t:TypeId) (len:Nat) (parts:List (Nat×AV)):Option Out :=
 (elE P t).bind fun el=>(szE P el).bind fun n=>(zerosE P el len).bind fun z=>if len*n≤16777216 then
  (fillE (fun i=>some (i*n,n)) z parts).bind fun cs=>match kindT P el with
   | .flat=>(fzs m cs).bind fun r=>outV (.sl r.2.next 0 len len true) (r.2.push ⟨r.1,el,.flat,true⟩)
   | kd=>outV (.sl m.next 0 len len true) (m.push ⟨cs,el,.var,true⟩)
 else none
def buildTreeE (P:Program) (m:Mem) (t:TypeId) (len:Nat) (parts:List (Nat×AV)):Option Out :=
 (elE P t).bind fun el=>(szE P el).bind fun n=>(zerosE P el len).bind fun z=>if len*n≤16777216 then
  (fillE (fun i=>some (i*n,n)) z parts).bind fun cs=>if hasRefs cs=true then none else outV (.tree len len cs true) m
 else none
def makeE (P:Program) (m:Mem) (t:TypeId) (n k:Nat):Option Out :=
 (elE P t).bind fun el=>(szE P el).bind fun sz=>(byE P el).bind fun y=>(zerosE P el k).bind fun z =>
  if n≤k∧k*y≤281474976710656∧k≤9223372036854775807 then outV (.sl m.next 0 n k true) (m.push ⟨z.take (n*sz),el,kindT P el,true⟩) else none
def checkE:AV→Option AV
 | .ptr b off=>some (.ptr b off)
 | .tptr off cs=>some (.tptr off cs)
 | .clo f cs=>some (.clo f cs)
 | _=>none
def pickE (a b:AV):AV→Option AV
 | .val (.bool t)=>some (match t with | true=>a | false=>b)
 | _=>none
def extractE (i:Nat):AV→Option AV
 | .tup cs=>cs[i]?
 | _=>none
def unE (P:Program) (op:UnOp):AV→Option AV
 | .val v=>(pureR P (Op.unary op v)).map .val
 | _=>none
def faddrE (P:Program) (s:TypeId) (f:Nat) (x:AV):Option AV :=
 (fldE P s f).bind fun p=>match x with
  | .ptr b o=>(szE P p.2).bind fun n=>if n=0 then none else some (.ptr b (o+p.1))
  | .tptr o cs=>(szE P p.2).bind fun n=>if n=0 then none else some (.tptr (o+p.1) cs)
  | _=>none
def fieldE (P:Program) (t:TypeId) (f:Nat):AV→Option AV
 | .agg cs=>(fldE P t f).bind fun p=>partE P p.2 cs p.1
 | _=>none
def opTmp:Operand→Option Nat
 | .tmp d=>some d
 | _=>none
def slOk (P:Program) (m:Mem) (t:TypeId):AV→Bool
 | .sl b _ _ _ _=>match m.at_ b,elE P t with
  | some k,some el=>k.el == el
  | _,_=>false
 | _=>true
def opE (P:Program) (once:Bool) (e:Env) (m:Mem):Op→Option Out
 | .move x=>outV (opd e x) m
 | .assign x=>outV (opd e x) m
 | .pick c a b=>outO (pickE (opd e a) (opd e b) (opd e c)) m
 | .alloc t=>allocE P once m t
 | .box t x=>boxE P once m t (opd e x)
 | .build t parts=>outO (buildE P t (parts.toList.map fun p=>(p.1,opd e p.2))) m
 | .buildSlice t len parts=>buildSliceE P m t len (parts.toList.map fun p=>(p.1,opd e p.2))
 | .load t a=>outO (loadE P m t (opd e a)) m
 | .store t a x=>storeE P m t (opTmp a) (opd e x) (opd e a)
 | .nilCheck x=>outO (checkE (opd e x)) m
 | .binOp op t x y _=>outO (binE P op t x y (opd e x) (opd e y)) m
 | .unOp op _ x=>outO (unE P op (opd e x)) m
 | .convert src dst x=>convE P m src dst (opd e x)
 | .slice t x lo hi mx=>if slOk P m t (opd e x) then (optNat (lo.map (opd e))).bind fun lo=>(optNat (hi.map (opd e))).bind fun hi=>(optNat (mx.map (opd e))).bind fun mx=>outO (sliceE P t lo hi mx (opd e x)) m else none
 | .fieldAddr s x f=>outO (faddrE P s f (opd e x)) m
 | .field t x f=>outO (fieldE P t f (opd e x)) m
 | .indexAddr t x i=>(natOf (opd e i)).bind fun k=>outO (addrE P t k (opd e x)) m
 | .index t x i=>(natOf (opd e i)).bind fun k=>outO (indexE P t k (opd e x)) m
 | .extract x i=>outO (extractE i (opd e x)) m
 | .makeSlice t l c=>(natOf (opd e l)).bind fun n=>(natOf (opd e c)).bind fun k=>makeE P m t n k
 | .makeFunc (.func f) first caps=>if first.size=0 then outV (.clo f (caps.toList.map (opd e))) m else none
 | _=>none
def srcE (P:Program) (el:TypeId) (sz:Nat) (m:Mem):AV→Option (List AV×Nat)
 | .val (.string b)=>if isU8 P el∧sz=1 then some (bytesV b,b.size) else none
 | x=>(slView (kindT P el) m x).bind fun r=>if r.2.1*sz≤r.1.length then some (r.1.take (r.2.1*sz),r.2.1) else none
def tight (s:AV) (n:Nat):Bool:=match s with
 | .sl _ _ len c true=>decide (c < len+n)
 | _=>false
def appE (P : Program) (el : TypeId) (m : Mem) (s x : AV) : Option Out :=
 (szE P el).bind fun sz => (byE P el).bind fun y => (zeroE P el).bind fun zl => (srcE P el sz m x).bind fun new => (slView (kindT P el) m s).bind fun r =>
   if (r.2.1 + new.2) * y ≤ 140737488355328 ∧ r.2.1 + new.2 ≤ 140737488355328 ∧ zl.length = sz then
     (if r.2.2 = true then
       (if new.2 = 0 then outV s m else if r.2.1 * sz ≤ r.1.length then
         outV (.sl m.next 0 (r.2.1 + new.2) (r.2.1 + new.2) false) (m.push ⟨r.1.take (r.2.1 * sz) ++ new.1, el, kindT P el, true⟩)
        else none)
      else if tight s new.2 = true then (if r.2.1 * sz ≤ r.1.length then
         outV (.sl m.next 0 (r.2.1 + new.2) (r.2.1 + new.2) false) (m.push ⟨r.1.take (r.2.1 * sz) ++ new.1, el, kindT P el, true⟩)
        else none)
      else match s with
       | .sl b off len c f => (m.at_ b).bind fun k =>
         if k.wr = true ∧ k.el = el ∧ off + len * sz = k.cells.length then
           outV (.sl m.next 0 (len + new.2) (len + new.2) false) ((m.put b none).push ⟨k.cells.drop off ++ new.1, el, kindT P el, true⟩)
         else if k.wr = true ∧ k.el = el ∧ len + new.2 ≤ c ∧ off + (len + new.2) * sz ≤ k.cells.length then
           outV (.sl b off (len + new.2) c f) (m.put b (some ⟨splice k.cells (off + len * sz) new.1, el, kindT P el, true⟩))
         else none
       | _ => none)
   else none
def zcells (z:List Value) (n:Nat):List AV:=(List.range n).map fun i=>AV.val (z.getD (i % z.length) undef)
def appZ (P:Program) (el:TypeId) (m:Mem) (s:AV) (n:Nat):Option Out :=
 (szE P el).bind fun sz=>(byE P el).bind fun y=>(zeroE P el).bind fun zl=>(slView (kindT P el) m s).bind fun r =>
  if (r.2.1+n)*y≤140737488355328∧r.2.1+n≤140737488355328∧zl.length=sz∧n≠0∧(r.2.2=true∨tight s n=true)∧r.2.1*sz≤r.1.length then
   outV (.sl m.next 0 (r.2.1+n) (r.2.1+n) false) (m.push ⟨r.1.take (r.2.1*sz)++zcells zl (n*sz),el,kindT P el,true⟩)
  else none
def capE:AV→Option AV
 | .val (.slice none 0 0)=>some (intV 0)
 | .tree _ c _ true=>some (intV c)
 | .emp c true=>some (intV c)
 | .sl _ _ _ c true=>some (intV c)
 | _=>none
def clearE (P:Program) (el:TypeId) (m:Mem):AV→Option Out
 | .val (.slice none 0 0)=>outV undefA m
 | .emp _ _=>outV undefA m
 | .sl b off len _ _=>if len=0 then outV undefA m else (szE P el).bind fun sz=>(zeroE P el).bind fun zl=>(m.at_ b).bind fun k =>
  if k.kind ≠ .hole∧k.wr=true∧zl.length=sz∧off+len*sz≤k.cells.length then
   outV undefA (m.put b (some ⟨splice k.cells off (zcells zl (len*sz)),k.el,k.kind,true⟩))
  else none
 | _=>none
def copyE (P:Program) (el:TypeId) (m:Mem) (d x:AV):Option Out :=
 (szE P el).bind fun sz=>(srcE P el sz m x).bind fun new=>match d with
  | .sl b off len _ _=>(m.at_ b).bind fun k =>
   if k.kind=kindT P el∧k.wr=true∧off+len*sz≤k.cells.length then
    outV (intV (min new.2 len:Nat)) (m.put b (some ⟨splice k.cells off (new.1.take (min new.2 len*sz)),k.el,k.kind,true⟩))
   else none
  | d=>(slView (kindT P el) m d).bind fun r=>if min new.2 r.2.1=0 then outV (intV 0) m else none
def lenE (P:Program) (t:TypeId):AV→Option AV
 | .val (.string s)=>if isStr P t then some (intV s.size) else none
 | x=>match elE P t with
  | some _=>(slLen x).map fun (n:Nat)=>intV n
  | none=>match arrE P t,parE P t with
   | some a,_=>some (intV a.1)
   | none,some a=>some (intV a.1)
   | none,none=>none
def builtinE (P:Program) (m:Mem) (ts:Array TypeId) (type:TypeId) (args:List AV):Builtin→Option Out
 | .len=>match ts.toList,args with
  | [t],[x]=>outO (lenE P t x) m
  | _,_=>none
 | .append=>match ts.toList,args with
  | [t,t2],[s,x]=>if notInt P t2 then (elE P t).bind fun el=>appE P el m s x else (elE P t).bind fun el=>if isInt P t2 then (natOf x).bind fun n=>appZ P el m s n else none
  | _,_=>none
 | .cap=>match ts.toList,args with
  | [t],[x]=>(elE P t).bind fun _=>outO (capE x) m
  | _,_=>none
 | .clear=>match ts.toList,args with
  | [t],[x]=>(elE P t).bind fun el=>clearE P el m x
  | _,_=>none
 | .copy=>match ts.toList,args with
  | t::_,[d,x]=>(elE P t).bind fun el=>copyE P el m d x
  | _,_=>none
 | .min=>(toVals args).bind fun vs=>outO ((pureR P (Builtin.min_ ts type vs.toArray)).map .val) m
 | .max=>(toVals args).bind fun vs=>outO ((pureR P (Builtin.max_ ts type vs.toArray)).map .val) m
 | _=>none
mutual
def lend:Nat→Mem→AV→Option AV
 | _,_,.val v=>some (.val v)
 | _,_,.tree n c cs f=>some (.tree n c cs f)
 | _,_,.tptr o cs=>some (.tptr o cs)
 | _,_,.emp c f=>some (.emp c f)
 | k,m,.agg cs=>(lends k m cs).map .agg
 | k,m,.clo f cs=>(lends k m cs).map (.clo f)
 | 0,m,.sl b off len c full=>(m.at_ b).bind fun x=>if x.kind = .flat then some (.tree len c (x.cells.drop off) full) else none
 | k+1,m,.sl b off len c full=>(m.at_ b).bind fun x=>match x.kind with
  | .flat=>some (.tree len c (x.cells.drop off) full)
  | .var=>(lends k m (x.cells.drop off)).map fun cs => .tree len c cs full
  | .hole=>none
 | k+1,m,.ptr b off=>(m.at_ b).bind fun x=>match x.kind with
  | .flat=>some (.tptr off x.cells)
  | .var=>(lends k m x.cells).map (.tptr off)
  | .hole=>none
 | _,_,_=>none
 termination_by k _ v=>(k,SizeOf.sizeOf v)
def lends:Nat→Mem→List AV→Option (List AV)
 | _,_,[]=>some []
 | k,m,c::cs=>(lend k m c).bind fun c'=>(lends k m cs).map (c'::·)
 termination_by k _ v=>(k,SizeOf.sizeOf v)
end
mutual
def scalar:AV→Bool
 | .val _=>true
 | .agg cs | .tup cs=>scalars cs
 | _=>false
def scalars:List AV→Bool
 | []=>true
 | c::cs=>scalar c && scalars cs
end
structure Res where
 v:AV
 rows:List (TypeId×List AV)
mutual
def noTree:AV→Bool
 | .val _ | .sl .. | .emp .. => true
 | .agg cs | .tup cs=>noTrees cs
 | _=>false
def noTrees:List AV→Bool
 | []=>true
 | c::cs=>noTree c && noTrees cs
end
def Res.apart (r:Res):Bool:=noTree r.v && r.rows.all fun x=>noTrees x.2
mutual
def shift (n:Nat):AV→AV
 | .sl b off len c f => .sl (n+b) off len c f
 | .agg cs => .agg (shifts n cs)
 | .tup cs => .tup (shifts n cs)
 | .ptr b off => .ptr (n+b) off
 | .clo f cs => .clo f (shifts n cs)
 | .val v => .val v
 | .tree a b c d => .tree a b c d
 | .tptr a b => .tptr a b
 | .emp a b => .emp a b
def shifts (n:Nat):List AV→List AV
 | []=>[]
 | c::cs=>shift n c::shifts n cs
end
def pushFrom (P:Program) (base:Nat) (m:Mem):List (TypeId×List AV)→Mem
 | []=>m
 | c::cs=>pushFrom P base (m.push ⟨if kindT P c.1 = .flat then c.2 else shifts base c.2,c.1,kindT P c.1,true⟩) cs
def pushAll (P:Program) (m:Mem) (rows:List (TypeId×List AV)):Mem:=pushFrom P m.next m rows
mutual
def canon (P:Program) (m:Mem):Nat→List (Nat×Nat)→List (TypeId×List AV)→AV→Option (AV×List (Nat×Nat)×List (TypeId×List AV))
 | _,ids,rows,.val v=>some (.val v,ids,rows)
 | _,ids,rows,.tree n c cs f=>some (.tree n c cs f,ids,rows)
 | _,ids,rows,.tptr o cs=>some (.tptr o cs,ids,rows)
 | _,ids,rows,.emp c f=>some (.emp c f,ids,rows)
 | k,ids,rows,.agg cs=>(canons P m k ids rows cs).map fun r=>(.agg r.1,r.2)
 | k,ids,rows,.tup cs=>(canons P m k ids rows cs).map fun r=>(.tup r.1,r.2)
 | 0,ids,rows,.sl b off len c f=>(m.at_ b).bind fun x =>
  if x.kind = .flat then
   (if x.wr=true then (if ids.any (fun i=>i.1 == b)=true∨kindT P x.el ≠ .flat then none else some (.sl rows.length 0 len c f,ids++[(b,off)],rows++[(x.el,x.cells.drop off)]))
    else some (.tree len c (x.cells.drop off) f,ids,rows))
  else none
 | k+1,ids,rows,.sl b off len c f=>(m.at_ b).bind fun x=>match x.kind with
  | .flat =>
   (if x.wr=true then (if ids.any (fun i=>i.1 == b)=true∨kindT P x.el ≠ .flat then none else some (.sl rows.length 0 len c f,ids++[(b,off)],rows++[(x.el,x.cells.drop off)]))
    else some (.tree len c (x.cells.drop off) f,ids,rows))
  | .var=>if x.wr=true∧kindT P x.el = .var then (canons P m k ids rows (x.cells.drop off)).bind fun r =>
   if r.2.1.any (fun i=>i.1 == b)=true then none else some (.sl r.2.2.length 0 len c f,r.2.1++[(b,off)],r.2.2++[(x.el,r.1)]) else none
  | .hole=>none
 | _,ids,rows,.clo f []=>some (.clo f [],ids,rows)
 | _,_,_,_=>none
 termination_by k _ _ v=>(k,SizeOf.sizeOf v)
def canons (P:Program) (m:Mem):Nat→List (Nat×Nat)→List (TypeId×List AV)→List AV→Option (List AV×List (Nat×Nat)×List (TypeId×List AV))
 | _,ids,rows,[]=>some ([],ids,rows)
 | k,ids,rows,c::cs=>(canon P m k ids rows c).bind fun r=>(canons P m k r.2.1 r.2.2 cs).map fun s=>(r.1::s.1,s.2)
 termination_by k _ _ v=>(k,SizeOf.sizeOf v)
end
def canonR (P:Program) (m:Mem) (v:AV):Option Res:=(canon P m 3 [] [] v).map fun r=>⟨r.1,r.2.2⟩
def wantE (ops:Array Oper) (e:Env) (o:Oper):Bool :=
 match o.guard with
 | none=>true
 | some (j,want)=>match (ops[j]?).bind (·.dst) with
  | some d=>match e d with
   | .val (.bool b)=>b == want
   | _=>false
  | none=>false
inductive Ex where
 | normal | exit (id:Nat) | ret
 deriving DecidableEq
def entryE (args:List AV):Env:=fun j=>args.getD j undefA
def resE (P:Program) (e:Env) (m:Mem):ResultVar→Option AV
 | .tmp t=>some (e t)
 | .cell a t=>loadE P m t (e a)
def resEs (P:Program) (e:Env) (m:Mem):List ResultVar→Option (List AV)
 | []=>some []
 | r::rs=>(resE P e m r).bind fun v=>(resEs P e m rs).map (v::·)
def resultsE (P:Program) (rs:List ResultVar) (e:Env) (m:Mem):Option AV :=
 (resEs P e m rs).map fun vs=>match vs with
  | [v]=>v
  | vs => .tup vs
end Go.Tw