import Derived.Calls
import Derived.Orders
set_option linter.defProp false
set_option linter.unusedVariables false
set_option linter.unusedSimpArgs false
open SizeOf renaming sizeOf→ayW
namespace Go.Tw
open Go
theorem ayS{α β:Type _}{b:β}{o:Option α}{f:α→Option β}(h:o.bind f=some b):∃a,o=some a∧f a=some b:=Option.bind_eq_some_iff.1 h
theorem ayT{α β:Type _}{b:β}{o:Option α}{f:α→β}(h:o.map f=some b):∃a,o=some a∧f a=b:=Option.map_eq_some_iff.1 h
inductive AV where
 | val (v:Value)
 | agg (cs:List AV)
 | tup (cs:List AV)
 | tree (len c:Nat) (cells:List AV) (full:Bool)
 | tptr (off:Nat) (cells:List AV)
 | emp (c:Nat) (full:Bool)
 | sl (b off len c:Nat) (full:Bool)
 | ptr (b off:Nat)
 | clo (f:FuncId) (caps:List AV)
 deriving Inhabited
inductive gJ where
 | flat | var | hole
 deriving DecidableEq
structure eZ where
 cells:List AV
 el:TypeId
 kind:gJ
 wr:Bool
structure Maps where
 maps:Nat→Option (List (Value×AV))
 iters:Nat→Option (Nat×List Nat)
structure aF where
 next:Nat
 at_:Nat→Option eZ
 mm:Maps
def aF.empty:aF:=⟨0,fun _=>none,fun _=>none,fun _=>none⟩
def aF.put (m:aF) (b:Nat) (x:Option eZ):aF:=⟨m.next,fun j=>if j=b then x else m.at_ j,m.mm⟩
def aF.push (m:aF) (x:eZ):aF:=⟨m.next+1,fun j=>if j=m.next then some x else m.at_ j,m.mm⟩
def Maps.has (mm:Maps) (g:Nat):Prop:=mm.maps g≠none∨mm.iters g≠none
abbrev bC:=Nat→AV
def bC.set (e:bC) (d:Nat) (v:AV):bC:=fun j=>if j=d then v else e j
def bC.put (e:bC) (d:Option Nat) (v:AV):bC:=match d with | some d=>e.set d v | none=>e
def eI:AV := .val (.tuple #[])
def aW:AV := .val (.slice none 0 0)
def AV.cells:AV→List AV
 | .agg cs=>cs
 | v=>[v]
def dL:AV→Bool
 | .val v=>match v with
  | .agg _ | .tuple _=>false
  | _=>true
 | .agg _ | .tup _=>false
 | _=>true
def gD:AV→Bool
 | .agg _=>true
 | v=>dL v
def vA:Value→Bool
 | .agg _ | .tuple _=>false
 | _=>true
def opd (e:bC):Operand→AV
 | .tmp t=>e t
 | .const v => .val v
 | .global g => .val (.pointer (some ⟨g,0,none⟩))
 | .func f => .clo f []
def cT {α:Type} (P:Program):Sem α→Option α
 | .pure a=>some a
 | .program k=>cT P (k P)
 | _=>none
def aqy:Value→Bool
 | .bool _ | .int .. | .float .. | .complex .. | .string _=>true
 | _=>false
def bX (P:Program) (t:TypeId):Option Nat:=(P.info? t).map (·.size)
def jN (P:Program) (t:TypeId):Option Nat:=(P.info? t).map (·.bytes)
def gF (P:Program) (t:TypeId):Option (List Value):=((P.info? t).bind (·.zero)).bind fun z=>if z.cells.toList.all vA then some z.cells.toList else none
def bK (P:Program) (t:TypeId):gJ:=match gF P t with | some z=>if z.all aqy then .flat else .var | none => .var
def adW (P:Program) (t:TypeId):Option Bool:=(P.underlying t).map fun | .struct _ | .array _ _=>true | _=>false
def bO (P:Program) (t:TypeId):Option TypeId:=match P.underlying t with | some (.slice e)=>some e | _=>none
def qK (P:Program) (t:TypeId):Option (Nat×TypeId):=match P.underlying t with | some (.array n e)=>some (n,e) | _=>none
def adX (P:Program) (t:TypeId):Option (Nat×TypeId):=match P.underlying t with | some (.pointer a)=>qK P a | _=>none
def gG (P:Program) (t:TypeId) (i:Nat):Option (Nat×TypeId):=match P.underlying t with | some (.struct fs)=>(fs[i]?).map fun f=>(f.offset,f.type) | _=>none
def zF (P:Program) (t:TypeId):Bool:=match P.underlying t with | some (.int _)=>false | some _=>true | none=>false
def adY (P:Program) (t:TypeId):Bool:=match P.underlying t with | some (.struct fs)=>fs.toList.all fun f=>(bX P f.type).isSome | _=>false
def pQ (P:Program) (t:TypeId):Bool:=match P.underlying t with | some .string=>true | _=>false
def acJ (P:Program) (t:TypeId):Bool:=match P.underlying t with | some (.int _)=>true | _=>false
def tR (P:Program) (t:TypeId):Bool:=match P.underlying t with | some (.int .u8)=>true | _=>false
mutual
def jO:AV→Option Value
 | .val v=>some v
 | .agg cs=>(sM cs).map fun l => .agg l.toArray
 | _=>none
def sM:List AV→Option (List Value)
 | []=>some []
 | c::cs=>(jO c).bind fun v=>(sM cs).map (v::·)
end
mutual
def iI:AV→Bool
 | .sl .. | .ptr .. => true
 | .agg cs | .clo _ cs | .tup cs=>kF cs
 | _=>false
def kF:List AV→Bool
 | []=>false
 | c::cs=>iI c || kF cs
end
mutual
def fz (m:aF):AV→Option (AV×aF)
 | .val v=>some (.val v,m)
 | .tree n c cs f=>some (.tree n c cs f,m)
 | .tptr o cs=>some (.tptr o cs,m)
 | .emp c f=>some (.emp c f,m)
 | .agg cs=>(fzs m cs).map fun r=>(.agg r.1,r.2)
 | .sl b off len c full=>match m.at_ b with
  | some ⟨cells,el,.flat,_⟩=>some (.tree len c (cells.drop off) full,m.put b (some ⟨cells,el,.flat,false⟩))
  | some ⟨cells,el,.var,_⟩=>if kF cells=true then none else some (.tree len c (cells.drop off) full,m.put b (some ⟨cells,el,.var,false⟩))
  | _=>none
 | .clo f []=>some (.clo f [],m)
 | _=>none
def fzs (m:aF):List AV→Option (List AV×aF)
 | []=>some ([],m)
 | c::cs=>(fz m c).bind fun r=>(fzs r.2 cs).map fun s=>(r.1::s.1,s.2)
end
def qM (P:Program) (t:TypeId) (cs:List AV) (a:Nat):Option AV :=
 match adW P t with
 | some true=>(bX P t).bind fun n=>if a+n≤cs.length then some (.agg ((cs.drop a).take n)) else none
 | some false=>cs[a]?
 | none=>none
def cH (cs:List AV) (a:Nat) (b:List AV):List AV:=cs.take a++b++cs.drop (a+b.length)
def hU (place:Nat→Option (Nat×Nat)) (cells:List AV):List (Nat×AV)→Option (List AV)
 | []=>some cells
 | (i,v)::rest=>(place i).bind fun p=>if v.cells.length=p.2∧p.1+v.cells.length≤cells.length∧gD v=true then hU place (cH cells p.1 v.cells) rest else none
structure bL where
 v:AV
 m:aF
 wb:Option (Nat×AV)
def bI (v:AV) (m:aF):Option bL:=some ⟨v,m,none⟩
def eV (v:Option AV) (m:aF):Option bL:=v.map fun v=>⟨v,m,none⟩
def aZ (b:Bool):AV := .val (.bool b)
def aB (n:Int):AV := .val (.int .i64 n)
def bA (b:UInt8):AV := .val (.int .u8 b.toNat)
def asB:AV→Option UInt8
 | .val (.int .u8 n)=>some (UInt8.ofNat n.toNat)
 | _=>none
def bytesOf:List AV→Option (List UInt8)
 | []=>some []
 | c::cs=>(asB c).bind fun b=>(bytesOf cs).map (b::·)
def dR (kd:gJ) (m:aF):AV→Option (List AV×Nat×Bool)
 | .val (.slice none 0 0)=>some ([],0,true)
 | .tree n c cs f=>some (cs,n,f && c == n)
 | .emp c f=>some ([],0,f && c == 0)
 | .sl b a n c f=>match m.at_ b with
  | some k=>if k.kind=kd then some (k.cells.drop a,n,f && c == n) else none
  | none=>none
 | _=>none
def sN:AV→Option Nat
 | .val (.slice none 0 0)=>some 0
 | .tree n _ _ _=>some n
 | .emp _ _=>some 0
 | .sl _ _ n _ _=>some n
 | _=>none
def sO (P:Program) (op:BinOp) (t:TypeId) (x y:Operand) (u v:Value):Option Value:=cT P (do eqGuard op t x y u v;binOp op t u v)
def vB:AV→Option Bool
 | .val (.slice none 0 0)=>some true
 | .tree .. | .emp .. | .sl .. => some false
 | _=>none
def eA (P:Program) (op:BinOp) (t:TypeId) (x y:Operand):AV→AV→Option AV
 | .val u,.val v=>(sO P op t x y u v).map .val
 | .agg a,.agg b=>(jO (.agg a)).bind fun u=>(jO (.agg b)).bind fun v=>(sO P op t x y u v).map .val
 | a,.val (.slice none 0 0)=>(bO P t).bind fun _=>(vB a).bind fun n=>match op with
  | .eql=>some (aZ n)
  | .neq=>some (aZ !n)
  | _=>none
 | _,_=>none
def kS:AV→Option Nat
 | .val (.int _ n)=>if 0≤n then some n.toNat else none
 | _=>none
def dD:Option AV→Option (Option Nat)
 | none=>some none
 | some a=>(kS a).map some
def tS (sz:Nat) (l:Nat) (a:Option Nat) (mx:Option Nat):AV→Option AV
 | .val (.slice none 0 0)=>if l=0∧a.getD 0=0∧mx.getD 0=0 then some aW else none
 | .tree n c cs f =>
  if l≤a.getD n∧a.getD n≤mx.getD c∧mx.getD c≤c then
   (if l=a.getD n then some (.emp (mx.getD c - l) (f || mx.isSome)) else some (.tree (a.getD n - l) (mx.getD c - l) (cs.drop (l*sz)) (f || mx.isSome)))
  else none
 | .sl b d n c f =>
  if l≤a.getD n∧a.getD n≤mx.getD c∧mx.getD c≤c then
   (if l=a.getD n∧l≠0 then some (.emp (mx.getD c - l) (f || mx.isSome)) else some (.sl b (d+l*sz) (a.getD n - l) (mx.getD c - l) (f || mx.isSome)))
  else none
 | .emp c f=>if l=0∧a.getD 0=0∧mx.getD 0=0 then some (.emp (mx.getD c) (f || mx.isSome)) else none
 | _=>none
def iJ (P:Program) (el:TypeId) (n:Nat):Option (List AV) :=
 (bX P el).bind fun sz=>if n*sz=0 then some [] else (gF P el).bind fun z=>if z.length=sz then some ((List.range (n*sz)).map fun i=>AV.val (z.getD (i % sz) undef)) else none
def mH (P:Program) (m:aF) (t:TypeId):AV→Option AV
 | .ptr b a=>(m.at_ b).bind fun k=>if k.kind = .hole then none else qM P t k.cells a
 | .tptr a cells=>qM P t cells a
 | _=>none
def oJ (P:Program) (t:TypeId) (k:Nat) (x:AV):Option AV :=
 match bO P t with
 | some el=>(bX P el).bind fun sz=>match x with
  | .tree n _ cs _=>if k < n then some (.tptr (k*sz) cs) else none
  | .sl b c n _ _=>if k < n then some (.ptr b (c+k*sz)) else none
  | _=>none
 | none=>(qK P t).bind fun a=>(bX P a.2).bind fun sz=>match x with
  | .tptr c cs=>if k < a.1 then some (.tptr (c+k*sz) cs) else none
  | .ptr b c=>if k < a.1 then some (.ptr b (c+k*sz)) else none
  | _=>none
def abm (P:Program) (t:TypeId) (k:Nat):AV→Option AV
 | .agg cs=>(qK P t).bind fun a=>(bX P a.2).bind fun sz=>if k < a.1 then qM P a.2 cs (k*sz) else none
 | .val (.string s)=>if pQ P t then (s.data.toList[k]?).map bA else none
 | _=>none
def kT (P:Program) (t:TypeId) (lo hi mx:Option Nat) (x:AV):Option AV :=
 if mx.isSome && hi.isNone then none else
 match bO P t with
 | some el=>(bX P el).bind fun sz=>tS sz (lo.getD 0) hi mx x
 | none=>match qK P t with
  | some (n,el)=>(bX P el).bind fun sz=>match x with
   | .tptr a cs=>if 0 < n then tS sz (lo.getD 0) hi mx (.tree n n (cs.drop a) true) else none
   | _=>none
  | none=>match x with
   | .val (.string s)=>if pQ P t∧lo.getD 0≤hi.getD s.size∧hi.getD s.size≤s.size∧mx=none then some (.val (.string (s.extract (lo.getD 0) (hi.getD s.size)))) else none
   | _=>none
def jA (s:ByteArray):List AV:=s.data.toList.map bA
def nJ (P:Program) (m:aF) (src dst:TypeId) (x:AV):Option bL :=
 match bO P dst with
 | some el=>match x with
  | .val (.string s)=>if tR P el∧pQ P src∧bX P el=some 1 then bI (.sl m.next 0 s.size s.size false) (m.push ⟨jA s,el,.flat,true⟩) else none
  | _=>none
 | none=>match pQ P dst,bO P src with
  | true,some el=>if tR P el then (dR .flat m x).bind fun r=>if r.2.1≤r.1.length then (bytesOf (r.1.take r.2.1)).bind fun bs=>bI (.val (.string ⟨bs.toArray⟩)) m else none else none
  | _,_=>match x with
   | .val v=>eV ((cT P (Go.convert src dst v)).map .val) m
   | _=>none
def aS (P:Program) (m:aF) (t:TypeId) (c:Option Nat) (x:AV):AV→Option bL
 | .ptr b a=>(bX P t).bind fun n=>(m.at_ b).bind fun k =>
  if x.cells.length=n∧a+n≤k.cells.length∧k.wr=true∧gD x=true∧0 < n then
   match k.kind with
   | .hole=>c.bind fun d=>if a=0∧k.cells.length=n then (fzs (m.put b none) x.cells).bind fun r=>some ⟨eI,r.2,some (d,.tptr 0 r.1)⟩ else none
   | .var=>bI eI (m.put b (some ⟨cH k.cells a x.cells,k.el,.var,true⟩))
   | .flat=>(fzs m x.cells).bind fun r=>(r.2.at_ b).bind fun k'=>if k'.wr=true then bI eI (r.2.put b (some ⟨cH k.cells a r.1,k.el,.flat,true⟩)) else none
  else none
 | _=>none
def abn (P:Program) (a:Bool) (m:aF) (t:TypeId) (x:AV):Option bL :=
 (bX P t).bind fun n=>if x.cells.length=n∧gD x=true then
  (if a then (fzs m x.cells).bind fun r=>bI (.tptr 0 r.1) r.2
   else bI (.ptr m.next 0) (m.push ⟨x.cells,t,.var,true⟩))
 else none
def bD (P:Program) (a:Bool) (m:aF) (t:TypeId):Option bL :=
 (gF P t).bind fun z=>bI (.ptr m.next 0) (m.push ⟨z.map .val,t,if a then .hole else .var,true⟩)
def acK (P:Program) (t:TypeId) (parts:List (Nat×AV)):Option AV :=
 (gF P t).bind fun z =>
  if adY P t then
   (hU (fun i=>(gG P t i).bind fun f=>(bX P f.2).map fun n=>(f.1,n)) (z.map .val) parts).map .agg
  else (qK P t).bind fun a=>(bX P a.2).bind fun n=>(hU (fun i=>some (i*n,n)) (z.map .val) parts).map .agg
def pR (P:Program) (m:aF) (t:TypeId) (len:Nat) (parts:List (Nat×AV)):Option bL :=
 (bO P t).bind fun el=>(bX P el).bind fun n=>(iJ P el len).bind fun z=>if len*n≤16777216 then
  (hU (fun i=>some (i*n,n)) z parts).bind fun cs=>match bK P el with
   | .flat=>(fzs m cs).bind fun r=>bI (.sl r.2.next 0 len len true) (r.2.push ⟨r.1,el,.flat,true⟩)
   | kd=>bI (.sl m.next 0 len len true) (m.push ⟨cs,el,.var,true⟩)
 else none
def fY (P:Program) (m:aF) (t:TypeId) (len:Nat) (parts:List (Nat×AV)):Option bL :=
 (bO P t).bind fun el=>(bX P el).bind fun n=>(iJ P el len).bind fun z=>if len*n≤16777216 then
  (hU (fun i=>some (i*n,n)) z parts).bind fun cs=>if kF cs=true then none else bI (.tree len len cs true) m
 else none
def nK (P:Program) (m:aF) (t:TypeId) (n k:Nat):Option bL :=
 (bO P t).bind fun el=>(bX P el).bind fun sz=>(jN P el).bind fun y=>(iJ P el k).bind fun z =>
  if n≤k∧k*y≤281474976710656∧k≤9223372036854775807 then bI (.sl m.next 0 n k true) (m.push ⟨z.take (n*sz),el,bK P el,true⟩) else none
def sQ:AV→Option AV
 | .ptr b a=>some (.ptr b a)
 | .tptr a cs=>some (.tptr a cs)
 | .clo f cs=>some (.clo f cs)
 | _=>none
def acL (a b:AV):AV→Option AV
 | .val (.bool t)=>some (match t with | true=>a | false=>b)
 | _=>none
def xS (i:Nat):AV→Option AV
 | .tup cs=>cs[i]?
 | _=>none
def unE (P:Program) (op:UnOp):AV→Option AV
 | .val v=>(cT P (Op.unary op v)).map .val
 | _=>none
def aaC (P:Program) (s:TypeId) (f:Nat) (x:AV):Option AV :=
 (gG P s f).bind fun p=>match x with
  | .ptr b o=>(bX P p.2).bind fun n=>if n=0 then none else some (.ptr b (o+p.1))
  | .tptr o cs=>(bX P p.2).bind fun n=>if n=0 then none else some (.tptr (o+p.1) cs)
  | _=>none
def aaD (P:Program) (t:TypeId) (f:Nat):AV→Option AV
 | .agg cs=>(gG P t f).bind fun p=>qM P p.2 cs p.1
 | _=>none
def zG:Operand→Option Nat
 | .tmp d=>some d
 | _=>none
def slOk (P:Program) (m:aF) (t:TypeId):AV→Bool
 | .sl b _ _ _ _=>match m.at_ b,bO P t with
  | some k,some el=>k.el == el
  | _,_=>false
 | _=>true
def cZ (P:Program) (d:Bool) (e:bC) (m:aF):Op→Option bL
 | .move x=>bI (opd e x) m
 | .assign x=>bI (opd e x) m
 | .pick c a b=>eV (acL (opd e a) (opd e b) (opd e c)) m
 | .alloc t=>bD P d m t
 | .box t x=>abn P d m t (opd e x)
 | .build t parts=>eV (acK P t (parts.toList.map fun p=>(p.1,opd e p.2))) m
 | .buildSlice t len parts=>pR P m t len (parts.toList.map fun p=>(p.1,opd e p.2))
 | .load t a=>eV (mH P m t (opd e a)) m
 | .store t a x=>aS P m t (zG a) (opd e x) (opd e a)
 | .nilCheck x=>eV (sQ (opd e x)) m
 | .binOp op t x y _=>eV (eA P op t x y (opd e x) (opd e y)) m
 | .unOp op _ x=>eV (unE P op (opd e x)) m
 | .convert src dst x=>nJ P m src dst (opd e x)
 | .slice t x lo hi mx=>if slOk P m t (opd e x) then (dD (lo.map (opd e))).bind fun lo=>(dD (hi.map (opd e))).bind fun hi=>(dD (mx.map (opd e))).bind fun mx=>eV (kT P t lo hi mx (opd e x)) m else none
 | .fieldAddr s x f=>eV (aaC P s f (opd e x)) m
 | .field t x f=>eV (aaD P t f (opd e x)) m
 | .indexAddr t x i=>(kS (opd e i)).bind fun k=>eV (oJ P t k (opd e x)) m
 | .index t x i=>(kS (opd e i)).bind fun k=>eV (abm P t k (opd e x)) m
 | .extract x i=>eV (xS i (opd e x)) m
 | .makeSlice t l c=>(kS (opd e l)).bind fun n=>(kS (opd e c)).bind fun k=>nK P m t n k
 | .makeFunc (.func f) first caps=>if first.size=0 then bI (.clo f (caps.toList.map (opd e))) m else none
 | _=>none
def eM (P:Program) (el:TypeId) (sz:Nat) (m:aF):AV→Option (List AV×Nat)
 | .val (.string b)=>if tR P el∧sz=1 then some (jA b,b.size) else none
 | x=>(dR (bK P el) m x).bind fun r=>if r.2.1*sz≤r.1.length then some (r.1.take (r.2.1*sz),r.2.1) else none
def xT (s:AV) (n:Nat):Bool:=match s with
 | .sl _ _ len c true=>decide (c < len+n)
 | _=>false
def fR (P:Program) (el:TypeId) (m:aF) (s x:AV):Option bL :=
 (bX P el).bind fun sz=>(jN P el).bind fun y=>(gF P el).bind fun zl=>(eM P el sz m x).bind fun new=>(dR (bK P el) m s).bind fun r =>
  if (r.2.1+new.2)*y≤140737488355328∧r.2.1+new.2≤140737488355328∧zl.length=sz then
   (if r.2.2=true then
    (if new.2=0 then bI s m else if r.2.1*sz≤r.1.length then
     bI (.sl m.next 0 (r.2.1+new.2) (r.2.1+new.2) false) (m.push ⟨r.1.take (r.2.1*sz)++new.1,el,bK P el,true⟩)
     else none)
    else if xT s new.2=true then (if r.2.1*sz≤r.1.length then
     bI (.sl m.next 0 (r.2.1+new.2) (r.2.1+new.2) false) (m.push ⟨r.1.take (r.2.1*sz)++new.1,el,bK P el,true⟩)
     else none)
    else match s with
     | .sl b a len c f=>(m.at_ b).bind fun k =>
      if k.wr=true∧k.el=el∧a+len*sz=k.cells.length then
       bI (.sl m.next 0 (len+new.2) (len+new.2) false) ((m.put b none).push ⟨k.cells.drop a++new.1,el,bK P el,true⟩)
      else if k.wr=true∧k.el=el∧len+new.2≤c∧a+(len+new.2)*sz≤k.cells.length then
       bI (.sl b a (len+new.2) c f) (m.put b (some ⟨cH k.cells (a+len*sz) new.1,el,bK P el,true⟩))
      else none
     | _=>none)
  else none
def wQ (z:List Value) (n:Nat):List AV:=(List.range n).map fun i=>AV.val (z.getD (i % z.length) undef)
def adZ (P:Program) (el:TypeId) (m:aF) (s:AV) (n:Nat):Option bL :=
 (bX P el).bind fun sz=>(jN P el).bind fun y=>(gF P el).bind fun zl=>(dR (bK P el) m s).bind fun r =>
  if (r.2.1+n)*y≤140737488355328∧r.2.1+n≤140737488355328∧zl.length=sz∧n≠0∧(r.2.2=true∨xT s n=true)∧r.2.1*sz≤r.1.length then
   bI (.sl m.next 0 (r.2.1+n) (r.2.1+n) false) (m.push ⟨r.1.take (r.2.1*sz)++wQ zl (n*sz),el,bK P el,true⟩)
  else none
def agd:AV→Option AV
 | .val (.slice none 0 0)=>some (aB 0)
 | .tree _ c _ true=>some (aB c)
 | .emp c true=>some (aB c)
 | .sl _ _ _ c true=>some (aB c)
 | _=>none
def ad0 (P:Program) (el:TypeId) (m:aF):AV→Option bL
 | .val (.slice none 0 0)=>bI eI m
 | .emp _ _=>bI eI m
 | .sl b a len _ _=>if len=0 then bI eI m else (bX P el).bind fun sz=>(gF P el).bind fun zl=>(m.at_ b).bind fun k =>
  if k.kind ≠ .hole∧k.wr=true∧zl.length=sz∧a+len*sz≤k.cells.length then
   bI eI (m.put b (some ⟨cH k.cells a (wQ zl (len*sz)),k.el,k.kind,true⟩))
  else none
 | _=>none
def sR (P:Program) (el:TypeId) (m:aF) (d x:AV):Option bL :=
 (bX P el).bind fun sz=>(eM P el sz m x).bind fun new=>match d with
  | .sl b a len _ _=>(m.at_ b).bind fun k =>
   if k.kind=bK P el∧k.wr=true∧a+len*sz≤k.cells.length then
    bI (aB (min new.2 len:Nat)) (m.put b (some ⟨cH k.cells a (new.1.take (min new.2 len*sz)),k.el,k.kind,true⟩))
   else none
  | d=>(dR (bK P el) m d).bind fun r=>if min new.2 r.2.1=0 then bI (aB 0) m else none
def lenE (P:Program) (t:TypeId):AV→Option AV
 | .val (.string s)=>if pQ P t then some (aB s.size) else none
 | x=>match bO P t with
  | some _=>(sN x).map fun (n:Nat)=>aB n
  | none=>match qK P t,adX P t with
   | some a,_=>some (aB a.1)
   | none,some a=>some (aB a.1)
   | none,none=>none
def tT (P:Program) (m:aF) (ts:Array TypeId) (type:TypeId) (args:List AV):Builtin→Option bL
 | .len=>match ts.toList,args with
  | [t],[x]=>eV (lenE P t x) m
  | _,_=>none
 | .append=>match ts.toList,args with
  | [t,t2],[s,x]=>if zF P t2 then (bO P t).bind fun el=>fR P el m s x else (bO P t).bind fun el=>if acJ P t2 then (kS x).bind fun n=>adZ P el m s n else none
  | _,_=>none
 | .cap=>match ts.toList,args with
  | [t],[x]=>(bO P t).bind fun _=>eV (agd x) m
  | _,_=>none
 | .clear=>match ts.toList,args with
  | [t],[x]=>(bO P t).bind fun el=>ad0 P el m x
  | _,_=>none
 | .copy=>match ts.toList,args with
  | t::_,[d,x]=>(bO P t).bind fun el=>sR P el m d x
  | _,_=>none
 | .min=>(sM args).bind fun vs=>eV ((cT P (Builtin.min_ ts type vs.toArray)).map .val) m
 | .max=>(sM args).bind fun vs=>eV ((cT P (Builtin.max_ ts type vs.toArray)).map .val) m
 | _=>none
mutual
def lend:Nat→aF→AV→Option AV
 | _,_,.val v=>some (.val v)
 | _,_,.tree n c cs f=>some (.tree n c cs f)
 | _,_,.tptr o cs=>some (.tptr o cs)
 | _,_,.emp c f=>some (.emp c f)
 | k,m,.agg cs=>(dN k m cs).map .agg
 | k,m,.clo f cs=>(dN k m cs).map (.clo f)
 | 0,m,.sl b off len c full=>(m.at_ b).bind fun x=>if x.kind = .flat then some (.tree len c (x.cells.drop off) full) else none
 | k+1,m,.sl b off len c full=>(m.at_ b).bind fun x=>match x.kind with
  | .flat=>some (.tree len c (x.cells.drop off) full)
  | .var=>(dN k m (x.cells.drop off)).map fun cs => .tree len c cs full
  | .hole=>none
 | k+1,m,.ptr b off=>(m.at_ b).bind fun x=>match x.kind with
  | .flat=>some (.tptr off x.cells)
  | .var=>(dN k m x.cells).map (.tptr off)
  | .hole=>none
 | _,_,_=>none
 termination_by k _ v=>(k,ayW v)
def dN:Nat→aF→List AV→Option (List AV)
 | _,_,[]=>some []
 | k,m,c::cs=>(lend k m c).bind fun c'=>(dN k m cs).map (c'::·)
 termination_by k _ v=>(k,ayW v)
end
mutual
def tU:AV→Bool
 | .val _=>true
 | .agg cs | .tup cs=>ad1 cs
 | _=>false
def ad1:List AV→Bool
 | []=>true
 | c::cs=>tU c && ad1 cs
end
structure fA where
 v:AV
 rows:List (TypeId×List AV)
mutual
def hY:AV→Bool
 | .val _ | .sl .. | .emp .. => true
 | .agg cs | .tup cs=>iA cs
 | _=>false
def iA:List AV→Bool
 | []=>true
 | c::cs=>hY c && iA cs
end
def fA.apart (r:fA):Bool:=hY r.v && r.rows.all fun x=>iA x.2
mutual
def shift (n:Nat):AV→AV
 | .sl b off len c f => .sl (n+b) off len c f
 | .agg cs => .agg (gT n cs)
 | .tup cs => .tup (gT n cs)
 | .ptr b off => .ptr (n+b) off
 | .clo f cs => .clo f (gT n cs)
 | .val v => .val v
 | .tree a b c d => .tree a b c d
 | .tptr a b => .tptr a b
 | .emp a b => .emp a b
def gT (n:Nat):List AV→List AV
 | []=>[]
 | c::cs=>shift n c::gT n cs
end
def gN (P:Program) (base:Nat) (m:aF):List (TypeId×List AV)→aF
 | []=>m
 | c::cs=>gN P base (m.push ⟨if bK P c.1 = .flat then c.2 else gT base c.2,c.1,bK P c.1,true⟩) cs
def eB (P:Program) (m:aF) (rows:List (TypeId×List AV)):aF:=gN P m.next m rows
mutual
def canon (P:Program) (m:aF):Nat→List (Nat×Nat)→List (TypeId×List AV)→AV→Option (AV×List (Nat×Nat)×List (TypeId×List AV))
 | _,ids,rows,.val v=>some (.val v,ids,rows)
 | _,ids,rows,.tree n c cs f=>some (.tree n c cs f,ids,rows)
 | _,ids,rows,.tptr o cs=>some (.tptr o cs,ids,rows)
 | _,ids,rows,.emp c f=>some (.emp c f,ids,rows)
 | k,ids,rows,.agg cs=>(fN P m k ids rows cs).map fun r=>(.agg r.1,r.2)
 | k,ids,rows,.tup cs=>(fN P m k ids rows cs).map fun r=>(.tup r.1,r.2)
 | 0,ids,rows,.sl b off len c f=>(m.at_ b).bind fun x =>
  if x.kind = .flat then
   (if x.wr=true then (if ids.any (fun i=>i.1 == b)=true∨bK P x.el ≠ .flat then none else some (.sl rows.length 0 len c f,ids++[(b,off)],rows++[(x.el,x.cells.drop off)]))
    else some (.tree len c (x.cells.drop off) f,ids,rows))
  else none
 | k+1,ids,rows,.sl b off len c f=>(m.at_ b).bind fun x=>match x.kind with
  | .flat =>
   (if x.wr=true then (if ids.any (fun i=>i.1 == b)=true∨bK P x.el ≠ .flat then none else some (.sl rows.length 0 len c f,ids++[(b,off)],rows++[(x.el,x.cells.drop off)]))
    else some (.tree len c (x.cells.drop off) f,ids,rows))
  | .var=>if x.wr=true∧bK P x.el = .var then (fN P m k ids rows (x.cells.drop off)).bind fun r =>
   if r.2.1.any (fun i=>i.1 == b)=true then none else some (.sl r.2.2.length 0 len c f,r.2.1++[(b,off)],r.2.2++[(x.el,r.1)]) else none
  | .hole=>none
 | _,ids,rows,.clo f []=>some (.clo f [],ids,rows)
 | _,_,_,_=>none
 termination_by k _ _ v=>(k,ayW v)
def fN (P:Program) (m:aF):Nat→List (Nat×Nat)→List (TypeId×List AV)→List AV→Option (List AV×List (Nat×Nat)×List (TypeId×List AV))
 | _,ids,rows,[]=>some ([],ids,rows)
 | k,ids,rows,c::cs=>(canon P m k ids rows c).bind fun r=>(fN P m k r.2.1 r.2.2 cs).map fun s=>(r.1::s.1,s.2)
 termination_by k _ _ v=>(k,ayW v)
end
def jB (P:Program) (m:aF) (v:AV):Option fA:=(canon P m 3 [] [] v).map fun r=>⟨r.1,r.2.2⟩
def sS (a:Array Oper) (e:bC) (o:Oper):Bool :=
 match o.guard with
 | none=>true
 | some (j,want)=>match (a[j]?).bind (·.dst) with
  | some d=>match e d with
   | .val (.bool b)=>b == want
   | _=>false
  | none=>false
inductive Ex where
 | normal | exit (id:Nat) | ret
 deriving DecidableEq
def rH (args:List AV):bC:=fun j=>args.getD j eI
def aaE (P:Program) (e:bC) (m:aF):ResultVar→Option AV
 | .tmp t=>some (e t)
 | .cell a t=>mH P m t (e a)
def xU (P:Program) (e:bC) (m:aF):List ResultVar→Option (List AV)
 | []=>some []
 | r::rs=>(aaE P e m r).bind fun v=>(xU P e m rs).map (v::·)
def tV (P:Program) (a:List ResultVar) (e:bC) (m:aF):Option AV :=
 (xU P e m a).map fun vs=>match vs with
  | [v]=>v
  | vs => .tup vs
end Go.Tw
namespace Go.Tw
open Go
def zag:=(⟨@Option.some.injEq.{0},@bI.eq_1⟩:_∧_)
def zak:=(⟨@List.length_cons.{0},@List.length_nil.{0}⟩:_∧_)
end Go.Tw
