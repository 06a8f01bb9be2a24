import Derived.Calls
import Derived.Orders
set_option linter.defProp false
set_option linter.unusedVariables false
set_option linter.unusedSimpArgs false
open SizeOf renaming sizeOf→ayT
namespace Go.Tw
open Go
theorem ayQ{α β:Type _}{b:β}{o:Option α}{f:α→Option β}(h:o.bind f=some b):∃a,o=some a∧f a=some b:=Option.bind_eq_some_iff.1 h
theorem ayR{α β:Type _}{b:β}{o:Option α}{f:α→β}(h:o.map f=some b):∃a,o=some a∧f a=b:=Option.map_eq_some_iff.1 h
inductive AV where
 | val (v:Value)
 | agg (cs:List AV)
 | tup (cs:List AV)
 | tree (len c:Nat) (cells:List AV) (full:Bool)
 | tptr (off:Nat) (cells:List AV)
 | emp (c:Nat) (full:Bool)
 | sl (b off len c:Nat) (full:Bool)
 | ptr (b off:Nat)
 | clo (f:FuncId) (caps:List AV)
 deriving Inhabited
inductive fZ where
 | flat | var | hole
 deriving DecidableEq
structure eR where
 cells:List AV
 el:TypeId
 kind:fZ
 wr:Bool
structure Maps where
 maps:Nat→Option (List (Value×AV))
 iters:Nat→Option (Nat×List Nat)
structure aF where
 next:Nat
 at_:Nat→Option eR
 mm:Maps
def aF.empty:aF:=⟨0,fun _=>none,fun _=>none,fun _=>none⟩
def aF.put (m:aF) (b:Nat) (x:Option eR):aF:=⟨m.next,fun j=>if j=b then x else m.at_ j,m.mm⟩
def aF.push (m:aF) (x:eR):aF:=⟨m.next+1,fun j=>if j=m.next then some x else m.at_ j,m.mm⟩
def Maps.has (mm:Maps) (g:Nat):Prop:=mm.maps g≠none∨mm.iters g≠none
abbrev bB:=Nat→AV
def bB.set (e:bB) (d:Nat) (v:AV):bB:=fun j=>if j=d then v else e j
def bB.put (e:bB) (d:Option Nat) (v:AV):bB:=match d with | some d=>e.set d v | none=>e
def eN:AV := .val (.tuple #[])
def aN:AV := .val (.slice none 0 0)
def AV.cells:AV→List AV
 | .agg cs=>cs
 | v=>[v]
def d5:AV→Bool
 | .val v=>match v with
  | .agg _ | .tuple _=>false
  | _=>true
 | .agg _ | .tup _=>false
 | _=>true
def g8:AV→Bool
 | .agg _=>true
 | v=>d5 v
def tO:Value→Bool
 | .agg _ | .tuple _=>false
 | _=>true
def opd (e:bB):Operand→AV
 | .tmp t=>e t
 | .const v => .val v
 | .global g => .val (.pointer (some ⟨g,0,none⟩))
 | .func f => .clo f []
def cF {α:Type} (P:Program):Sem α→Option α
 | .pure a=>some a
 | .program k=>cF P (k P)
 | _=>none
def apZ:Value→Bool
 | .bool _ | .int .. | .float .. | .complex .. | .string _=>true
 | _=>false
def cE (P:Program) (t:TypeId):Option Nat:=(P.info? t).map (·.size)
def lB (P:Program) (t:TypeId):Option Nat:=(P.info? t).map (·.bytes)
def gN (P:Program) (t:TypeId):Option (List Value):=((P.info? t).bind (·.zero)).bind fun z=>if z.cells.toList.all tO then some z.cells.toList else none
def bP (P:Program) (t:TypeId):fZ:=match gN P t with | some z=>if z.all apZ then .flat else .var | none => .var
def xK (P:Program) (t:TypeId):Option Bool:=(P.underlying t).map fun | .struct _ | .array _ _=>true | _=>false
def bZ (P:Program) (t:TypeId):Option TypeId:=match P.underlying t with | some (.slice e)=>some e | _=>none
def o6 (P:Program) (t:TypeId):Option (Nat×TypeId):=match P.underlying t with | some (.array n e)=>some (n,e) | _=>none
def adu (P:Program) (t:TypeId):Option (Nat×TypeId):=match P.underlying t with | some (.pointer a)=>o6 P a | _=>none
def fN (P:Program) (t:TypeId) (i:Nat):Option (Nat×TypeId):=match P.underlying t with | some (.struct fs)=>(fs[i]?).map fun f=>(f.offset,f.type) | _=>none
def xL (P:Program) (t:TypeId):Bool:=match P.underlying t with | some (.int _)=>false | some _=>true | none=>false
def adv (P:Program) (t:TypeId):Bool:=match P.underlying t with | some (.struct fs)=>fs.toList.all fun f=>(cE P f.type).isSome | _=>false
def oH (P:Program) (t:TypeId):Bool:=match P.underlying t with | some .string=>true | _=>false
def ab7 (P:Program) (t:TypeId):Bool:=match P.underlying t with | some (.int _)=>true | _=>false
def rX (P:Program) (t:TypeId):Bool:=match P.underlying t with | some (.int .u8)=>true | _=>false
mutual
def i6:AV→Option Value
 | .val v=>some v
 | .agg cs=>(pY cs).map fun l => .agg l.toArray
 | _=>none
def pY:List AV→Option (List Value)
 | []=>some []
 | c::cs=>(i6 c).bind fun v=>(pY cs).map (v::·)
end
mutual
def i7:AV→Bool
 | .sl .. | .ptr .. => true
 | .agg cs | .clo _ cs | .tup cs=>j5 cs
 | _=>false
def j5:List AV→Bool
 | []=>false
 | c::cs=>i7 c || j5 cs
end
mutual
def fz (m:aF):AV→Option (AV×aF)
 | .val v=>some (.val v,m)
 | .tree n c cs f=>some (.tree n c cs f,m)
 | .tptr o cs=>some (.tptr o cs,m)
 | .emp c f=>some (.emp c f,m)
 | .agg cs=>(fzs m cs).map fun r=>(.agg r.1,r.2)
 | .sl b off len c full=>match m.at_ b with
  | some ⟨cells,el,.flat,_⟩=>some (.tree len c (cells.drop off) full,m.put b (some ⟨cells,el,.flat,false⟩))
  | some ⟨cells,el,.var,_⟩=>if j5 cells=true then none else some (.tree len c (cells.drop off) full,m.put b (some ⟨cells,el,.var,false⟩))
  | _=>none
 | .clo f []=>some (.clo f [],m)
 | _=>none
def fzs (m:aF):List AV→Option (List AV×aF)
 | []=>some ([],m)
 | c::cs=>(fz m c).bind fun r=>(fzs r.2 cs).map fun s=>(r.1::s.1,s.2)
end
def oJ (P:Program) (t:TypeId) (cs:List AV) (a:Nat):Option AV :=
 match xK P t with
 | some true=>(cE P t).bind fun n=>if a+n≤cs.length then some (.agg ((cs.drop a).take n)) else none
 | some false=>cs[a]?
 | none=>none
def cP (cs:List AV) (a:Nat) (b:List AV):List AV:=cs.take a++b++cs.drop (a+b.length)
def iR (place:Nat→Option (Nat×Nat)) (cells:List AV):List (Nat×AV)→Option (List AV)
 | []=>some cells
 | (i,v)::rest=>(place i).bind fun p=>if v.cells.length=p.2∧p.1+v.cells.length≤cells.length∧g8 v=true then iR place (cP cells p.1 v.cells) rest else none
structure bR where
 v:AV
 m:aF
 wb:Option (Nat×AV)
def bL (v:AV) (m:aF):Option bR:=some ⟨v,m,none⟩
def eX (v:Option AV) (m:aF):Option bR:=v.map fun v=>⟨v,m,none⟩
def aV (b:Bool):AV := .val (.bool b)
def aC (n:Int):AV := .val (.int .i64 n)
def bA (b:UInt8):AV := .val (.int .u8 b.toNat)
def asB:AV→Option UInt8
 | .val (.int .u8 n)=>some (UInt8.ofNat n.toNat)
 | _=>none
def bytesOf:List AV→Option (List UInt8)
 | []=>some []
 | c::cs=>(asB c).bind fun b=>(bytesOf cs).map (b::·)
def eE (kd:fZ) (m:aF):AV→Option (List AV×Nat×Bool)
 | .val (.slice none 0 0)=>some ([],0,true)
 | .tree n c cs f=>some (cs,n,f && c == n)
 | .emp c f=>some ([],0,f && c == 0)
 | .sl b a n c f=>match m.at_ b with
  | some k=>if k.kind=kd then some (k.cells.drop a,n,f && c == n) else none
  | none=>none
 | _=>none
def vQ:AV→Option Nat
 | .val (.slice none 0 0)=>some 0
 | .tree n _ _ _=>some n
 | .emp _ _=>some 0
 | .sl _ _ n _ _=>some n
 | _=>none
def pZ (P:Program) (op:BinOp) (t:TypeId) (x y:Operand) (u v:Value):Option Value:=cF P (do eqGuard op t x y u v;binOp op t u v)
def rY:AV→Option Bool
 | .val (.slice none 0 0)=>some true
 | .tree .. | .emp .. | .sl .. => some false
 | _=>none
def dR (P:Program) (op:BinOp) (t:TypeId) (x y:Operand):AV→AV→Option AV
 | .val u,.val v=>(pZ P op t x y u v).map .val
 | .agg a,.agg b=>(i6 (.agg a)).bind fun u=>(i6 (.agg b)).bind fun v=>(pZ P op t x y u v).map .val
 | a,.val (.slice none 0 0)=>(bZ P t).bind fun _=>(rY a).bind fun n=>match op with
  | .eql=>some (aV n)
  | .neq=>some (aV !n)
  | _=>none
 | _,_=>none
def jW:AV→Option Nat
 | .val (.int _ n)=>if 0≤n then some n.toNat else none
 | _=>none
def dB:Option AV→Option (Option Nat)
 | none=>some none
 | some a=>(jW a).map some
def jE (sz:Nat) (l:Nat) (a:Option Nat) (mx:Option Nat):AV→Option AV
 | .val (.slice none 0 0)=>if l=0∧a.getD 0=0∧mx.getD 0=0 then some aN else none
 | .tree n c cs f =>
  if l≤a.getD n∧a.getD n≤mx.getD c∧mx.getD c≤c then
   (if l=a.getD n then some (.emp (mx.getD c - l) (f || mx.isSome)) else some (.tree (a.getD n - l) (mx.getD c - l) (cs.drop (l*sz)) (f || mx.isSome)))
  else none
 | .sl b d n c f =>
  if l≤a.getD n∧a.getD n≤mx.getD c∧mx.getD c≤c then
   (if l=a.getD n∧l≠0 then some (.emp (mx.getD c - l) (f || mx.isSome)) else some (.sl b (d+l*sz) (a.getD n - l) (mx.getD c - l) (f || mx.isSome)))
  else none
 | .emp c f=>if l=0∧a.getD 0=0∧mx.getD 0=0 then some (.emp (mx.getD c) (f || mx.isSome)) else none
 | _=>none
def jF (P:Program) (el:TypeId) (n:Nat):Option (List AV) :=
 (cE P el).bind fun sz=>if n*sz=0 then some [] else (gN P el).bind fun z=>if z.length=sz then some ((List.range (n*sz)).map fun i=>AV.val (z.getD (i % sz) undef)) else none
def lO (P:Program) (m:aF) (t:TypeId):AV→Option AV
 | .ptr b a=>(m.at_ b).bind fun k=>if k.kind = .hole then none else oJ P t k.cells a
 | .tptr a cells=>oJ P t cells a
 | _=>none
def nL (P:Program) (t:TypeId) (k:Nat) (x:AV):Option AV :=
 match bZ P t with
 | some el=>(cE P el).bind fun sz=>match x with
  | .tree n _ cs _=>if k < n then some (.tptr (k*sz) cs) else none
  | .sl b c n _ _=>if k < n then some (.ptr b (c+k*sz)) else none
  | _=>none
 | none=>(o6 P t).bind fun a=>(cE P a.2).bind fun sz=>match x with
  | .tptr c cs=>if k < a.1 then some (.tptr (c+k*sz) cs) else none
  | .ptr b c=>if k < a.1 then some (.ptr b (c+k*sz)) else none
  | _=>none
def aav (P:Program) (t:TypeId) (k:Nat):AV→Option AV
 | .agg cs=>(o6 P t).bind fun a=>(cE P a.2).bind fun sz=>if k < a.1 then oJ P a.2 cs (k*sz) else none
 | .val (.string s)=>if oH P t then (s.data.toList[k]?).map bA else none
 | _=>none
def mH (P:Program) (t:TypeId) (lo hi mx:Option Nat) (x:AV):Option AV :=
 if mx.isSome && hi.isNone then none else
 match bZ P t with
 | some el=>(cE P el).bind fun sz=>jE sz (lo.getD 0) hi mx x
 | none=>match o6 P t with
  | some (n,el)=>(cE P el).bind fun sz=>match x with
   | .tptr a cs=>if 0 < n then jE sz (lo.getD 0) hi mx (.tree n n (cs.drop a) true) else none
   | _=>none
  | none=>match x with
   | .val (.string s)=>if oH P t∧lo.getD 0≤hi.getD s.size∧hi.getD s.size≤s.size∧mx=none then some (.val (.string (s.extract (lo.getD 0) (hi.getD s.size)))) else none
   | _=>none
def fT (s:ByteArray):List AV:=s.data.toList.map bA
def mJ (P:Program) (m:aF) (src dst:TypeId) (x:AV):Option bR :=
 match bZ P dst with
 | some el=>match x with
  | .val (.string s)=>if rX P el∧oH P src∧cE P el=some 1 then bL (.sl m.next 0 s.size s.size false) (m.push ⟨fT s,el,.flat,true⟩) else none
  | _=>none
 | none=>match oH P dst,bZ P src with
  | true,some el=>if rX P el then (eE .flat m x).bind fun r=>if r.2.1≤r.1.length then (bytesOf (r.1.take r.2.1)).bind fun bs=>bL (.val (.string ⟨bs.toArray⟩)) m else none else none
  | _,_=>match x with
   | .val v=>eX ((cF P (Go.convert src dst v)).map .val) m
   | _=>none
def aJ (P:Program) (m:aF) (t:TypeId) (c:Option Nat) (x:AV):AV→Option bR
 | .ptr b a=>(cE P t).bind fun n=>(m.at_ b).bind fun k =>
  if x.cells.length=n∧a+n≤k.cells.length∧k.wr=true∧g8 x=true∧0 < n then
   match k.kind with
   | .hole=>c.bind fun d=>if a=0∧k.cells.length=n then (fzs (m.put b none) x.cells).bind fun r=>some ⟨eN,r.2,some (d,.tptr 0 r.1)⟩ else none
   | .var=>bL eN (m.put b (some ⟨cP k.cells a x.cells,k.el,.var,true⟩))
   | .flat=>(fzs m x.cells).bind fun r=>(r.2.at_ b).bind fun k'=>if k'.wr=true then bL eN (r.2.put b (some ⟨cP k.cells a r.1,k.el,.flat,true⟩)) else none
  else none
 | _=>none
def aaw (P:Program) (once:Bool) (m:aF) (t:TypeId) (x:AV):Option bR :=
 (cE P t).bind fun n=>if x.cells.length=n∧g8 x=true then
  (if once then (fzs m x.cells).bind fun r=>bL (.tptr 0 r.1) r.2
   else bL (.ptr m.next 0) (m.push ⟨x.cells,t,.var,true⟩))
 else none
def aM (P:Program) (once:Bool) (m:aF) (t:TypeId):Option bR :=
 (gN P t).bind fun z=>bL (.ptr m.next 0) (m.push ⟨z.map .val,t,if once then .hole else .var,true⟩)
def ab8 (P:Program) (t:TypeId) (parts:List (Nat×AV)):Option AV :=
 (gN P t).bind fun z =>
  if adv P t then
   (iR (fun i=>(fN P t i).bind fun f=>(cE P f.2).map fun n=>(f.1,n)) (z.map .val) parts).map .agg
  else (o6 P t).bind fun a=>(cE P a.2).bind fun n=>(iR (fun i=>some (i*n,n)) (z.map .val) parts).map .agg
def p6 (P:Program) (m:aF) (t:TypeId) (len:Nat) (parts:List (Nat×AV)):Option bR :=
 (bZ P t).bind fun el=>(cE P el).bind fun n=>(jF P el len).bind fun z=>if len*n≤16777216 then
  (iR (fun i=>some (i*n,n)) z parts).bind fun cs=>match bP P el with
   | .flat=>(fzs m cs).bind fun r=>bL (.sl r.2.next 0 len len true) (r.2.push ⟨r.1,el,.flat,true⟩)
   | kd=>bL (.sl m.next 0 len len true) (m.push ⟨cs,el,.var,true⟩)
 else none
def gF (P:Program) (m:aF) (t:TypeId) (len:Nat) (parts:List (Nat×AV)):Option bR :=
 (bZ P t).bind fun el=>(cE P el).bind fun n=>(jF P el len).bind fun z=>if len*n≤16777216 then
  (iR (fun i=>some (i*n,n)) z parts).bind fun cs=>if j5 cs=true then none else bL (.tree len len cs true) m
 else none
def rZ (P:Program) (m:aF) (t:TypeId) (n k:Nat):Option bR :=
 (bZ P t).bind fun el=>(cE P el).bind fun sz=>(lB P el).bind fun y=>(jF P el k).bind fun z =>
  if n≤k∧k*y≤281474976710656∧k≤9223372036854775807 then bL (.sl m.next 0 n k true) (m.push ⟨z.take (n*sz),el,bP P el,true⟩) else none
def tP:AV→Option AV
 | .ptr b a=>some (.ptr b a)
 | .tptr a cs=>some (.tptr a cs)
 | .clo f cs=>some (.clo f cs)
 | _=>none
def ab9 (a b:AV):AV→Option AV
 | .val (.bool t)=>some (match t with | true=>a | false=>b)
 | _=>none
def vR (i:Nat):AV→Option AV
 | .tup cs=>cs[i]?
 | _=>none
def zA (P:Program) (op:UnOp):AV→Option AV
 | .val v=>(cF P (Op.unary op v)).map .val
 | _=>none
def aca (P:Program) (s:TypeId) (f:Nat) (x:AV):Option AV :=
 (fN P s f).bind fun p=>match x with
  | .ptr b o=>(cE P p.2).bind fun n=>if n=0 then none else some (.ptr b (o+p.1))
  | .tptr o cs=>(cE P p.2).bind fun n=>if n=0 then none else some (.tptr (o+p.1) cs)
  | _=>none
def zB (P:Program) (t:TypeId) (f:Nat):AV→Option AV
 | .agg cs=>(fN P t f).bind fun p=>oJ P p.2 cs p.1
 | _=>none
def xM:Operand→Option Nat
 | .tmp d=>some d
 | _=>none
def slOk (P:Program) (m:aF) (t:TypeId):AV→Bool
 | .sl b _ _ _ _=>match m.at_ b,bZ P t with
  | some k,some el=>k.el == el
  | _,_=>false
 | _=>true
def dG (P:Program) (once:Bool) (e:bB) (m:aF):Op→Option bR
 | .move x=>bL (opd e x) m
 | .assign x=>bL (opd e x) m
 | .pick c a b=>eX (ab9 (opd e a) (opd e b) (opd e c)) m
 | .alloc t=>aM P once m t
 | .box t x=>aaw P once m t (opd e x)
 | .build t parts=>eX (ab8 P t (parts.toList.map fun p=>(p.1,opd e p.2))) m
 | .buildSlice t len parts=>p6 P m t len (parts.toList.map fun p=>(p.1,opd e p.2))
 | .load t a=>eX (lO P m t (opd e a)) m
 | .store t a x=>aJ P m t (xM a) (opd e x) (opd e a)
 | .nilCheck x=>eX (tP (opd e x)) m
 | .binOp op t x y _=>eX (dR P op t x y (opd e x) (opd e y)) m
 | .unOp op _ x=>eX (zA P op (opd e x)) m
 | .convert src dst x=>mJ P m src dst (opd e x)
 | .slice t x lo hi mx=>if slOk P m t (opd e x) then (dB (lo.map (opd e))).bind fun lo=>(dB (hi.map (opd e))).bind fun hi=>(dB (mx.map (opd e))).bind fun mx=>eX (mH P t lo hi mx (opd e x)) m else none
 | .fieldAddr s x f=>eX (aca P s f (opd e x)) m
 | .field t x f=>eX (zB P t f (opd e x)) m
 | .indexAddr t x i=>(jW (opd e i)).bind fun k=>eX (nL P t k (opd e x)) m
 | .index t x i=>(jW (opd e i)).bind fun k=>eX (aav P t k (opd e x)) m
 | .extract x i=>eX (vR i (opd e x)) m
 | .makeSlice t l c=>(jW (opd e l)).bind fun n=>(jW (opd e c)).bind fun k=>rZ P m t n k
 | .makeFunc (.func f) first caps=>if first.size=0 then bL (.clo f (caps.toList.map (opd e))) m else none
 | _=>none
def f9 (P:Program) (el:TypeId) (sz:Nat) (m:aF):AV→Option (List AV×Nat)
 | .val (.string b)=>if rX P el∧sz=1 then some (fT b,b.size) else none
 | x=>(eE (bP P el) m x).bind fun r=>if r.2.1*sz≤r.1.length then some (r.1.take (r.2.1*sz),r.2.1) else none
def vS (s:AV) (n:Nat):Bool:=match s with
 | .sl _ _ len c true=>decide (c < len+n)
 | _=>false
def gA (P:Program) (el:TypeId) (m:aF) (s x:AV):Option bR :=
 (cE P el).bind fun sz=>(lB P el).bind fun y=>(gN P el).bind fun zl=>(f9 P el sz m x).bind fun new=>(eE (bP P el) m s).bind fun r =>
  if (r.2.1+new.2)*y≤140737488355328∧r.2.1+new.2≤140737488355328∧zl.length=sz then
   (if r.2.2=true then
    (if new.2=0 then bL s m else if r.2.1*sz≤r.1.length then
     bL (.sl m.next 0 (r.2.1+new.2) (r.2.1+new.2) false) (m.push ⟨r.1.take (r.2.1*sz)++new.1,el,bP P el,true⟩)
     else none)
    else if vS s new.2=true then (if r.2.1*sz≤r.1.length then
     bL (.sl m.next 0 (r.2.1+new.2) (r.2.1+new.2) false) (m.push ⟨r.1.take (r.2.1*sz)++new.1,el,bP P el,true⟩)
     else none)
    else match s with
     | .sl b a len c f=>(m.at_ b).bind fun k =>
      if k.wr=true∧k.el=el∧a+len*sz=k.cells.length then
       bL (.sl m.next 0 (len+new.2) (len+new.2) false) ((m.put b none).push ⟨k.cells.drop a++new.1,el,bP P el,true⟩)
      else if k.wr=true∧k.el=el∧len+new.2≤c∧a+(len+new.2)*sz≤k.cells.length then
       bL (.sl b a (len+new.2) c f) (m.put b (some ⟨cP k.cells (a+len*sz) new.1,el,bP P el,true⟩))
      else none
     | _=>none)
  else none
def uS (z:List Value) (n:Nat):List AV:=(List.range n).map fun i=>AV.val (z.getD (i % z.length) undef)
def adw (P:Program) (el:TypeId) (m:aF) (s:AV) (n:Nat):Option bR :=
 (cE P el).bind fun sz=>(lB P el).bind fun y=>(gN P el).bind fun zl=>(eE (bP P el) m s).bind fun r =>
  if (r.2.1+n)*y≤140737488355328∧r.2.1+n≤140737488355328∧zl.length=sz∧n≠0∧(r.2.2=true∨vS s n=true)∧r.2.1*sz≤r.1.length then
   bL (.sl m.next 0 (r.2.1+n) (r.2.1+n) false) (m.push ⟨r.1.take (r.2.1*sz)++uS zl (n*sz),el,bP P el,true⟩)
  else none
def afZ:AV→Option AV
 | .val (.slice none 0 0)=>some (aC 0)
 | .tree _ c _ true=>some (aC c)
 | .emp c true=>some (aC c)
 | .sl _ _ _ c true=>some (aC c)
 | _=>none
def adx (P:Program) (el:TypeId) (m:aF):AV→Option bR
 | .val (.slice none 0 0)=>bL eN m
 | .emp _ _=>bL eN m
 | .sl b a len _ _=>if len=0 then bL eN m else (cE P el).bind fun sz=>(gN P el).bind fun zl=>(m.at_ b).bind fun k =>
  if k.kind ≠ .hole∧k.wr=true∧zl.length=sz∧a+len*sz≤k.cells.length then
   bL eN (m.put b (some ⟨cP k.cells a (uS zl (len*sz)),k.el,k.kind,true⟩))
  else none
 | _=>none
def p7 (P:Program) (el:TypeId) (m:aF) (d x:AV):Option bR :=
 (cE P el).bind fun sz=>(f9 P el sz m x).bind fun new=>match d with
  | .sl b a len _ _=>(m.at_ b).bind fun k =>
   if k.kind=bP P el∧k.wr=true∧a+len*sz≤k.cells.length then
    bL (aC (min new.2 len:Nat)) (m.put b (some ⟨cP k.cells a (new.1.take (min new.2 len*sz)),k.el,k.kind,true⟩))
   else none
  | d=>(eE (bP P el) m d).bind fun r=>if min new.2 r.2.1=0 then bL (aC 0) m else none
def lenE (P:Program) (t:TypeId):AV→Option AV
 | .val (.string s)=>if oH P t then some (aC s.size) else none
 | x=>match bZ P t with
  | some _=>(vQ x).map fun (n:Nat)=>aC n
  | none=>match o6 P t,adu P t with
   | some a,_=>some (aC a.1)
   | none,some a=>some (aC a.1)
   | none,none=>none
def r6 (P:Program) (m:aF) (ts:Array TypeId) (type:TypeId) (args:List AV):Builtin→Option bR
 | .len=>match ts.toList,args with
  | [t],[x]=>eX (lenE P t x) m
  | _,_=>none
 | .append=>match ts.toList,args with
  | [t,t2],[s,x]=>if xL P t2 then (bZ P t).bind fun el=>gA P el m s x else (bZ P t).bind fun el=>if ab7 P t2 then (jW x).bind fun n=>adw P el m s n else none
  | _,_=>none
 | .cap=>match ts.toList,args with
  | [t],[x]=>(bZ P t).bind fun _=>eX (afZ x) m
  | _,_=>none
 | .clear=>match ts.toList,args with
  | [t],[x]=>(bZ P t).bind fun el=>adx P el m x
  | _,_=>none
 | .copy=>match ts.toList,args with
  | t::_,[d,x]=>(bZ P t).bind fun el=>p7 P el m d x
  | _,_=>none
 | .min=>(pY args).bind fun vs=>eX ((cF P (Builtin.min_ ts type vs.toArray)).map .val) m
 | .max=>(pY args).bind fun vs=>eX ((cF P (Builtin.max_ ts type vs.toArray)).map .val) m
 | _=>none
mutual
def lend:Nat→aF→AV→Option AV
 | _,_,.val v=>some (.val v)
 | _,_,.tree n c cs f=>some (.tree n c cs f)
 | _,_,.tptr o cs=>some (.tptr o cs)
 | _,_,.emp c f=>some (.emp c f)
 | k,m,.agg cs=>(d9 k m cs).map .agg
 | k,m,.clo f cs=>(d9 k m cs).map (.clo f)
 | 0,m,.sl b off len c full=>(m.at_ b).bind fun x=>if x.kind = .flat then some (.tree len c (x.cells.drop off) full) else none
 | k+1,m,.sl b off len c full=>(m.at_ b).bind fun x=>match x.kind with
  | .flat=>some (.tree len c (x.cells.drop off) full)
  | .var=>(d9 k m (x.cells.drop off)).map fun cs => .tree len c cs full
  | .hole=>none
 | k+1,m,.ptr b off=>(m.at_ b).bind fun x=>match x.kind with
  | .flat=>some (.tptr off x.cells)
  | .var=>(d9 k m x.cells).map (.tptr off)
  | .hole=>none
 | _,_,_=>none
 termination_by k _ v=>(k,ayT v)
def d9:Nat→aF→List AV→Option (List AV)
 | _,_,[]=>some []
 | k,m,c::cs=>(lend k m c).bind fun c'=>(d9 k m cs).map (c'::·)
 termination_by k _ v=>(k,ayT v)
end
mutual
def r7:AV→Bool
 | .val _=>true
 | .agg cs | .tup cs=>ady cs
 | _=>false
def ady:List AV→Bool
 | []=>true
 | c::cs=>r7 c && ady cs
end
structure fF where
 v:AV
 rows:List (TypeId×List AV)
mutual
def jX:AV→Bool
 | .val _ | .sl .. | .emp .. => true
 | .agg cs | .tup cs=>lP cs
 | _=>false
def lP:List AV→Bool
 | []=>true
 | c::cs=>jX c && lP cs
end
def fF.apart (r:fF):Bool:=jX r.v && r.rows.all fun x=>lP x.2
mutual
def shift (n:Nat):AV→AV
 | .sl b off len c f => .sl (n+b) off len c f
 | .agg cs => .agg (iG n cs)
 | .tup cs => .tup (iG n cs)
 | .ptr b off => .ptr (n+b) off
 | .clo f cs => .clo f (iG n cs)
 | .val v => .val v
 | .tree a b c d => .tree a b c d
 | .tptr a b => .tptr a b
 | .emp a b => .emp a b
def iG (n:Nat):List AV→List AV
 | []=>[]
 | c::cs=>shift n c::iG n cs
end
def gO (P:Program) (base:Nat) (m:aF):List (TypeId×List AV)→aF
 | []=>m
 | c::cs=>gO P base (m.push ⟨if bP P c.1 = .flat then c.2 else iG base c.2,c.1,bP P c.1,true⟩) cs
def dT (P:Program) (m:aF) (rows:List (TypeId×List AV)):aF:=gO P m.next m rows
mutual
def canon (P:Program) (m:aF):Nat→List (Nat×Nat)→List (TypeId×List AV)→AV→Option (AV×List (Nat×Nat)×List (TypeId×List AV))
 | _,ids,rows,.val v=>some (.val v,ids,rows)
 | _,ids,rows,.tree n c cs f=>some (.tree n c cs f,ids,rows)
 | _,ids,rows,.tptr o cs=>some (.tptr o cs,ids,rows)
 | _,ids,rows,.emp c f=>some (.emp c f,ids,rows)
 | k,ids,rows,.agg cs=>(gP P m k ids rows cs).map fun r=>(.agg r.1,r.2)
 | k,ids,rows,.tup cs=>(gP P m k ids rows cs).map fun r=>(.tup r.1,r.2)
 | 0,ids,rows,.sl b off len c f=>(m.at_ b).bind fun x =>
  if x.kind = .flat then
   (if x.wr=true then (if ids.any (fun i=>i.1 == b)=true∨bP P x.el ≠ .flat then none else some (.sl rows.length 0 len c f,ids++[(b,off)],rows++[(x.el,x.cells.drop off)]))
    else some (.tree len c (x.cells.drop off) f,ids,rows))
  else none
 | k+1,ids,rows,.sl b off len c f=>(m.at_ b).bind fun x=>match x.kind with
  | .flat =>
   (if x.wr=true then (if ids.any (fun i=>i.1 == b)=true∨bP P x.el ≠ .flat then none else some (.sl rows.length 0 len c f,ids++[(b,off)],rows++[(x.el,x.cells.drop off)]))
    else some (.tree len c (x.cells.drop off) f,ids,rows))
  | .var=>if x.wr=true∧bP P x.el = .var then (gP P m k ids rows (x.cells.drop off)).bind fun r =>
   if r.2.1.any (fun i=>i.1 == b)=true then none else some (.sl r.2.2.length 0 len c f,r.2.1++[(b,off)],r.2.2++[(x.el,r.1)]) else none
  | .hole=>none
 | _,ids,rows,.clo f []=>some (.clo f [],ids,rows)
 | _,_,_,_=>none
 termination_by k _ _ v=>(k,ayT v)
def gP (P:Program) (m:aF):Nat→List (Nat×Nat)→List (TypeId×List AV)→List AV→Option (List AV×List (Nat×Nat)×List (TypeId×List AV))
 | _,ids,rows,[]=>some ([],ids,rows)
 | k,ids,rows,c::cs=>(canon P m k ids rows c).bind fun r=>(gP P m k r.2.1 r.2.2 cs).map fun s=>(r.1::s.1,s.2)
 termination_by k _ _ v=>(k,ayT v)
end
def jG (P:Program) (m:aF) (v:AV):Option fF:=(canon P m 3 [] [] v).map fun r=>⟨r.1,r.2.2⟩
def q8 (a:Array Oper) (e:bB) (o:Oper):Bool :=
 match o.guard with
 | none=>true
 | some (j,want)=>match (a[j]?).bind (·.dst) with
  | some d=>match e d with
   | .val (.bool b)=>b == want
   | _=>false
  | none=>false
inductive Ex where
 | normal | exit (id:Nat) | ret
 deriving DecidableEq
def jY (args:List AV):bB:=fun j=>args.getD j eN
def xN (P:Program) (e:bB) (m:aF):ResultVar→Option AV
 | .tmp t=>some (e t)
 | .cell a t=>lO P m t (e a)
def uT (P:Program) (e:bB) (m:aF):List ResultVar→Option (List AV)
 | []=>some []
 | r::rs=>(xN P e m r).bind fun v=>(uT P e m rs).map (v::·)
def oK (P:Program) (a:List ResultVar) (e:bB) (m:aF):Option AV :=
 (uT P e m a).map fun vs=>match vs with
  | [v]=>v
  | vs => .tup vs
end Go.Tw
namespace Go.Tw
open Go
def zak:=(⟨@Option.some.injEq.{0},@bL.eq_1⟩:_∧_)
end Go.Tw
