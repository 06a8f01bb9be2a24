import Derived.Calls
import Derived.Orders
set_option linter.unusedVariables false
set_option linter.unusedSimpArgs false
namespace Go.Tw
open Go
inductive AV where
 | val (v:Value)
 | agg (cs:List AV)
 | tup (cs:List AV)
 | tree (len c:Nat) (cells:List AV) (full:Bool)
 | tptr (off:Nat) (cells:List AV)
 | emp (c:Nat) (full:Bool)
 | sl (b off len c:Nat) (full:Bool)
 | ptr (b off:Nat)
 | clo (f:FuncId) (caps:List AV)
 deriving Inhabited
inductive fO where
 | flat | var | hole
 deriving DecidableEq
structure eQ where
 cells:List AV
 el:TypeId
 kind:fO
 wr:Bool
structure Maps where
 maps:Nat→Option (List (Value×AV))
 iters:Nat→Option (Nat×List Nat)
structure aH where
 next:Nat
 at_:Nat→Option eQ
 mm:Maps
def aH.empty:aH:=⟨0,fun _=>none,fun _=>none,fun _=>none⟩
def aH.put (m:aH) (b:Nat) (x:Option eQ):aH:=⟨m.next,fun j=>if j=b then x else m.at_ j,m.mm⟩
def aH.push (m:aH) (x:eQ):aH:=⟨m.next+1,fun j=>if j=m.next then some x else m.at_ j,m.mm⟩
def Maps.has (mm:Maps) (g:Nat):Prop:=mm.maps g≠none∨mm.iters g≠none
abbrev bI:=Nat→AV
def bI.set (e:bI) (d:Nat) (v:AV):bI:=fun j=>if j=d then v else e j
def bI.put (e:bI) (d:Option Nat) (v:AV):bI:=match d with | some d=>e.set d v | none=>e
def eI:AV := .val (.tuple #[])
def aP:AV := .val (.slice none 0 0)
def AV.cells:AV→List AV
 | .agg cs=>cs
 | v=>[v]
def dB:AV→Bool
 | .val v=>match v with
  | .agg _ | .tuple _=>false
  | _=>true
 | .agg _ | .tup _=>false
 | _=>true
def fC:AV→Bool
 | .agg _=>true
 | v=>dB v
def qQ:Value→Bool
 | .agg _ | .tuple _=>false
 | _=>true
def opd (e:bI):Operand→AV
 | .tmp t=>e t
 | .const v => .val v
 | .global g => .val (.pointer (some ⟨g,0,none⟩))
 | .func f => .clo f []
def cN {α:Type} (P:Program):Sem α→Option α
 | .pure a=>some a
 | .program k=>cN P (k P)
 | _=>none
def anM:Value→Bool
 | .bool _ | .int .. | .float .. | .complex .. | .string _=>true
 | _=>false
def cG (P:Program) (t:TypeId):Option Nat:=(P.info? t).map (·.size)
def j8 (P:Program) (t:TypeId):Option Nat:=(P.info? t).map (·.bytes)
def gB (P:Program) (t:TypeId):Option (List Value):=((P.info? t).bind (·.zero)).bind fun z=>if z.cells.toList.all qQ then some z.cells.toList else none
def bR (P:Program) (t:TypeId):fO:=match gB P t with | some z=>if z.all anM then .flat else .var | none => .var
def vF (P:Program) (t:TypeId):Option Bool:=(P.underlying t).map fun | .struct _ | .array _ _=>true | _=>false
def bZ (P:Program) (t:TypeId):Option TypeId:=match P.underlying t with | some (.slice e)=>some e | _=>none
def nT (P:Program) (t:TypeId):Option (Nat×TypeId):=match P.underlying t with | some (.array n e)=>some (n,e) | _=>none
def acB (P:Program) (t:TypeId):Option (Nat×TypeId):=match P.underlying t with | some (.pointer a)=>nT P a | _=>none
def gC (P:Program) (t:TypeId) (i:Nat):Option (Nat×TypeId):=match P.underlying t with | some (.struct fs)=>(fs[i]?).map fun f=>(f.offset,f.type) | _=>none
def vG (P:Program) (t:TypeId):Bool:=match P.underlying t with | some (.int _)=>false | some _=>true | none=>false
def acC (P:Program) (t:TypeId):Bool:=match P.underlying t with | some (.struct fs)=>fs.toList.all fun f=>(cG P f.type).isSome | _=>false
def mQ (P:Program) (t:TypeId):Bool:=match P.underlying t with | some .string=>true | _=>false
def aa5 (P:Program) (t:TypeId):Bool:=match P.underlying t with | some (.int _)=>true | _=>false
def p7 (P:Program) (t:TypeId):Bool:=match P.underlying t with | some (.int .u8)=>true | _=>false
mutual
def iV:AV→Option Value
 | .val v=>some v
 | .agg cs=>(p9 cs).map fun l => .agg l.toArray
 | _=>none
def p9:List AV→Option (List Value)
 | []=>some []
 | c::cs=>(iV c).bind fun v=>(p9 cs).map (v::·)
end
mutual
def iN:AV→Bool
 | .sl .. | .ptr .. => true
 | .agg cs | .clo _ cs | .tup cs=>jH cs
 | _=>false
def jH:List AV→Bool
 | []=>false
 | c::cs=>iN c || jH cs
end
mutual
def fz (m:aH):AV→Option (AV×aH)
 | .val v=>some (.val v,m)
 | .tree n c cs f=>some (.tree n c cs f,m)
 | .tptr o cs=>some (.tptr o cs,m)
 | .emp c f=>some (.emp c f,m)
 | .agg cs=>(fzs m cs).map fun r=>(.agg r.1,r.2)
 | .sl b off len c full=>match m.at_ b with
  | some ⟨cells,el,.flat,_⟩=>some (.tree len c (cells.drop off) full,m.put b (some ⟨cells,el,.flat,false⟩))
  | some ⟨cells,el,.var,_⟩=>if jH cells=true then none else some (.tree len c (cells.drop off) full,m.put b (some ⟨cells,el,.var,false⟩))
  | _=>none
 | .clo f []=>some (.clo f [],m)
 | _=>none
def fzs (m:aH):List AV→Option (List AV×aH)
 | []=>some ([],m)
 | c::cs=>(fz m c).bind fun r=>(fzs r.2 cs).map fun s=>(r.1::s.1,s.2)
end
def kO (P:Program) (t:TypeId) (cs:List AV) (off:Nat):Option AV :=
 match vF P t with
 | some true=>(cG P t).bind fun n=>if off+n≤cs.length then some (.agg ((cs.drop off).take n)) else none
 | some false=>cs[off]?
 | none=>none
def cI (cs:List AV) (off:Nat) (xs:List AV):List AV:=cs.take off++xs++cs.drop (off+xs.length)
def fU (place:Nat→Option (Nat×Nat)) (cells:List AV):List (Nat×AV)→Option (List AV)
 | []=>some cells
 | (i,v)::rest=>(place i).bind fun p=>if v.cells.length=p.2∧p.1+v.cells.length≤cells.length∧fC v=true then fU place (cI cells p.1 v.cells) rest else none
structure bS where
 v:AV
 m:aH
 wb:Option (Nat×AV)
def bK (v:AV) (m:aH):Option bS:=some ⟨v,m,none⟩
def eR (v:Option AV) (m:aH):Option bS:=v.map fun v=>⟨v,m,none⟩
def bC (b:Bool):AV := .val (.bool b)
def aE (n:Int):AV := .val (.int .i64 n)
def aU (b:UInt8):AV := .val (.int .u8 b.toNat)
def asB:AV→Option UInt8
 | .val (.int .u8 n)=>some (UInt8.ofNat n.toNat)
 | _=>none
def bytesOf:List AV→Option (List UInt8)
 | []=>some []
 | c::cs=>(asB c).bind fun b=>(bytesOf cs).map (b::·)
def d6 (kd:fO) (m:aH):AV→Option (List AV×Nat×Bool)
 | .val (.slice none 0 0)=>some ([],0,true)
 | .tree n c cs f=>some (cs,n,f && c == n)
 | .emp c f=>some ([],0,f && c == 0)
 | .sl b off n c f=>match m.at_ b with
  | some k=>if k.kind=kd then some (k.cells.drop off,n,f && c == n) else none
  | none=>none
 | _=>none
def vH:AV→Option Nat
 | .val (.slice none 0 0)=>some 0
 | .tree n _ _ _=>some n
 | .emp _ _=>some 0
 | .sl _ _ n _ _=>some n
 | _=>none
def qA (P:Program) (op:BinOp) (t:TypeId) (x y:Operand) (u v:Value):Option Value:=cN P (do eqGuard op t x y u v;binOp op t u v)
def qR:AV→Option Bool
 | .val (.slice none 0 0)=>some true
 | .tree .. | .emp .. | .sl .. => some false
 | _=>none
def dP (P:Program) (op:BinOp) (t:TypeId) (x y:Operand):AV→AV→Option AV
 | .val u,.val v=>(qA P op t x y u v).map .val
 | .agg a,.agg b=>(iV (.agg a)).bind fun u=>(iV (.agg b)).bind fun v=>(qA P op t x y u v).map .val
 | a,.val (.slice none 0 0)=>(bZ P t).bind fun _=>(qR a).bind fun n=>match op with
  | .eql=>some (bC n)
  | .neq=>some (bC !n)
  | _=>none
 | _,_=>none
def jB:AV→Option Nat
 | .val (.int _ n)=>if 0≤n then some n.toNat else none
 | _=>none
def a8:Option AV→Option (Option Nat)
 | none=>some none
 | some a=>(jB a).map some
def iG (sz:Nat) (l:Nat) (ho:Option Nat) (mx:Option Nat):AV→Option AV
 | .val (.slice none 0 0)=>if l=0∧ho.getD 0=0∧mx.getD 0=0 then some aP else none
 | .tree n c cs f =>
  if l≤ho.getD n∧ho.getD n≤mx.getD c∧mx.getD c≤c then
   (if l=ho.getD n then some (.emp (mx.getD c - l) (f || mx.isSome)) else some (.tree (ho.getD n - l) (mx.getD c - l) (cs.drop (l*sz)) (f || mx.isSome)))
  else none
 | .sl b off n c f =>
  if l≤ho.getD n∧ho.getD n≤mx.getD c∧mx.getD c≤c then
   (if l=ho.getD n∧l≠0 then some (.emp (mx.getD c - l) (f || mx.isSome)) else some (.sl b (off+l*sz) (ho.getD n - l) (mx.getD c - l) (f || mx.isSome)))
  else none
 | .emp c f=>if l=0∧ho.getD 0=0∧mx.getD 0=0 then some (.emp (mx.getD c) (f || mx.isSome)) else none
 | _=>none
def iW (P:Program) (el:TypeId) (n:Nat):Option (List AV) :=
 (cG P el).bind fun sz=>if n*sz=0 then some [] else (gB P el).bind fun z=>if z.length=sz then some ((List.range (n*sz)).map fun i=>AV.val (z.getD (i % sz) undef)) else none
def iX (P:Program) (m:aH) (t:TypeId):AV→Option AV
 | .ptr b off=>(m.at_ b).bind fun k=>if k.kind = .hole then none else kO P t k.cells off
 | .tptr off cells=>kO P t cells off
 | _=>none
def mR (P:Program) (t:TypeId) (k:Nat) (x:AV):Option AV :=
 match bZ P t with
 | some el=>(cG P el).bind fun sz=>match x with
  | .tree n _ cs _=>if k < n then some (.tptr (k*sz) cs) else none
  | .sl b off n _ _=>if k < n then some (.ptr b (off+k*sz)) else none
  | _=>none
 | none=>(nT P t).bind fun a=>(cG P a.2).bind fun sz=>match x with
  | .tptr off cs=>if k < a.1 then some (.tptr (off+k*sz) cs) else none
  | .ptr b off=>if k < a.1 then some (.ptr b (off+k*sz)) else none
  | _=>none
def zE (P:Program) (t:TypeId) (k:Nat):AV→Option AV
 | .agg cs=>(nT P t).bind fun a=>(cG P a.2).bind fun sz=>if k < a.1 then kO P a.2 cs (k*sz) else none
 | .val (.string s)=>if mQ P t then (s.data.toList[k]?).map aU else none
 | _=>none
def lU (P:Program) (t:TypeId) (lo hi mx:Option Nat) (x:AV):Option AV :=
 if mx.isSome && hi.isNone then none else
 match bZ P t with
 | some el=>(cG P el).bind fun sz=>iG sz (lo.getD 0) hi mx x
 | none=>match nT P t with
  | some (n,el)=>(cG P el).bind fun sz=>match x with
   | .tptr off cs=>if 0 < n then iG sz (lo.getD 0) hi mx (.tree n n (cs.drop off) true) else none
   | _=>none
  | none=>match x with
   | .val (.string s)=>if mQ P t∧lo.getD 0≤hi.getD s.size∧hi.getD s.size≤s.size∧mx=none then some (.val (.string (s.extract (lo.getD 0) (hi.getD s.size)))) else none
   | _=>none
def fE (s:ByteArray):List AV:=s.data.toList.map aU
def lG (P:Program) (m:aH) (src dst:TypeId) (x:AV):Option bS :=
 match bZ P dst with
 | some el=>match x with
  | .val (.string s)=>if p7 P el∧mQ P src∧cG P el=some 1 then bK (.sl m.next 0 s.size s.size false) (m.push ⟨fE s,el,.flat,true⟩) else none
  | _=>none
 | none=>match mQ P dst,bZ P src with
  | true,some el=>if p7 P el then (d6 .flat m x).bind fun r=>if r.2.1≤r.1.length then (bytesOf (r.1.take r.2.1)).bind fun bs=>bK (.val (.string ⟨bs.toArray⟩)) m else none else none
  | _,_=>match x with
   | .val v=>eR ((cN P (Go.convert src dst v)).map .val) m
   | _=>none
def aJ (P:Program) (m:aH) (t:TypeId) (slot:Option Nat) (x:AV):AV→Option bS
 | .ptr b off=>(cG P t).bind fun n=>(m.at_ b).bind fun k =>
  if x.cells.length=n∧off+n≤k.cells.length∧k.wr=true∧fC x=true∧0 < n then
   match k.kind with
   | .hole=>slot.bind fun d=>if off=0∧k.cells.length=n then (fzs (m.put b none) x.cells).bind fun r=>some ⟨eI,r.2,some (d,.tptr 0 r.1)⟩ else none
   | .var=>bK eI (m.put b (some ⟨cI k.cells off x.cells,k.el,.var,true⟩))
   | .flat=>(fzs m x.cells).bind fun r=>(r.2.at_ b).bind fun k'=>if k'.wr=true then bK eI (r.2.put b (some ⟨cI k.cells off r.1,k.el,.flat,true⟩)) else none
  else none
 | _=>none
def qB (P:Program) (once:Bool) (m:aH) (t:TypeId) (x:AV):Option bS :=
 (cG P t).bind fun n=>if x.cells.length=n∧fC x=true then
  (if once then (fzs m x.cells).bind fun r=>bK (.tptr 0 r.1) r.2
   else bK (.ptr m.next 0) (m.push ⟨x.cells,t,.var,true⟩))
 else none
def aK (P:Program) (once:Bool) (m:aH) (t:TypeId):Option bS :=
 (gB P t).bind fun z=>bK (.ptr m.next 0) (m.push ⟨z.map .val,t,if once then .hole else .var,true⟩)
def qS (P:Program) (t:TypeId) (parts:List (Nat×AV)):Option AV :=
 (gB P t).bind fun z =>
  if acC P t then
   (fU (fun i=>(gC P t i).bind fun f=>(cG P f.2).map fun n=>(f.1,n)) (z.map .val) parts).map .agg
  else (nT P t).bind fun a=>(cG P a.2).bind fun n=>(fU (fun i=>some (i*n,n)) (z.map .val) parts).map .agg
def oW (P:Program) (m:aH) (t:TypeId) (len:Nat) (parts:List (Nat×AV)):Option bS :=
 (bZ P t).bind fun el=>(cG P el).bind fun n=>(iW P el len).bind fun z=>if len*n≤16777216 then
  (fU (fun i=>some (i*n,n)) z parts).bind fun cs=>match bR P el with
   | .flat=>(fzs m cs).bind fun r=>bK (.sl r.2.next 0 len len true) (r.2.push ⟨r.1,el,.flat,true⟩)
   | kd=>bK (.sl m.next 0 len len true) (m.push ⟨cs,el,.var,true⟩)
 else none
def fV (P:Program) (m:aH) (t:TypeId) (len:Nat) (parts:List (Nat×AV)):Option bS :=
 (bZ P t).bind fun el=>(cG P el).bind fun n=>(iW P el len).bind fun z=>if len*n≤16777216 then
  (fU (fun i=>some (i*n,n)) z parts).bind fun cs=>if jH cs=true then none else bK (.tree len len cs true) m
 else none
def qT (P:Program) (m:aH) (t:TypeId) (n k:Nat):Option bS :=
 (bZ P t).bind fun el=>(cG P el).bind fun sz=>(j8 P el).bind fun y=>(iW P el k).bind fun z =>
  if n≤k∧k*y≤281474976710656∧k≤9223372036854775807 then bK (.sl m.next 0 n k true) (m.push ⟨z.take (n*sz),el,bR P el,true⟩) else none
def mD:AV→Option AV
 | .ptr b off=>some (.ptr b off)
 | .tptr off cs=>some (.tptr off cs)
 | .clo f cs=>some (.clo f cs)
 | _=>none
def aa6 (a b:AV):AV→Option AV
 | .val (.bool t)=>some (match t with | true=>a | false=>b)
 | _=>none
def oX (i:Nat):AV→Option AV
 | .tup cs=>cs[i]?
 | _=>none
def xN (P:Program) (op:UnOp):AV→Option AV
 | .val v=>(cN P (Op.unary op v)).map .val
 | _=>none
def qU (P:Program) (s:TypeId) (f:Nat) (x:AV):Option AV :=
 (gC P s f).bind fun p=>match x with
  | .ptr b o=>(cG P p.2).bind fun n=>if n=0 then none else some (.ptr b (o+p.1))
  | .tptr o cs=>(cG P p.2).bind fun n=>if n=0 then none else some (.tptr (o+p.1) cs)
  | _=>none
def oY (P:Program) (t:TypeId) (f:Nat):AV→Option AV
 | .agg cs=>(gC P t f).bind fun p=>kO P p.2 cs p.1
 | _=>none
def oZ:Operand→Option Nat
 | .tmp d=>some d
 | _=>none
def slOk (P:Program) (m:aH) (t:TypeId):AV→Bool
 | .sl b _ _ _ _=>match m.at_ b,bZ P t with
  | some k,some el=>k.el == el
  | _,_=>false
 | _=>true
def cW (P:Program) (once:Bool) (e:bI) (m:aH):Op→Option bS
 | .move x=>bK (opd e x) m
 | .assign x=>bK (opd e x) m
 | .pick c a b=>eR (aa6 (opd e a) (opd e b) (opd e c)) m
 | .alloc t=>aK P once m t
 | .box t x=>qB P once m t (opd e x)
 | .build t parts=>eR (qS P t (parts.toList.map fun p=>(p.1,opd e p.2))) m
 | .buildSlice t len parts=>oW P m t len (parts.toList.map fun p=>(p.1,opd e p.2))
 | .load t a=>eR (iX P m t (opd e a)) m
 | .store t a x=>aJ P m t (oZ a) (opd e x) (opd e a)
 | .nilCheck x=>eR (mD (opd e x)) m
 | .binOp op t x y _=>eR (dP P op t x y (opd e x) (opd e y)) m
 | .unOp op _ x=>eR (xN P op (opd e x)) m
 | .convert src dst x=>lG P m src dst (opd e x)
 | .slice t x lo hi mx=>if slOk P m t (opd e x) then (a8 (lo.map (opd e))).bind fun lo=>(a8 (hi.map (opd e))).bind fun hi=>(a8 (mx.map (opd e))).bind fun mx=>eR (lU P t lo hi mx (opd e x)) m else none
 | .fieldAddr s x f=>eR (qU P s f (opd e x)) m
 | .field t x f=>eR (oY P t f (opd e x)) m
 | .indexAddr t x i=>(jB (opd e i)).bind fun k=>eR (mR P t k (opd e x)) m
 | .index t x i=>(jB (opd e i)).bind fun k=>eR (zE P t k (opd e x)) m
 | .extract x i=>eR (oX i (opd e x)) m
 | .makeSlice t l c=>(jB (opd e l)).bind fun n=>(jB (opd e c)).bind fun k=>qT P m t n k
 | .makeFunc (.func f) first caps=>if first.size=0 then bK (.clo f (caps.toList.map (opd e))) m else none
 | _=>none
def fW (P:Program) (el:TypeId) (sz:Nat) (m:aH):AV→Option (List AV×Nat)
 | .val (.string b)=>if p7 P el∧sz=1 then some (fE b,b.size) else none
 | x=>(d6 (bR P el) m x).bind fun r=>if r.2.1*sz≤r.1.length then some (r.1.take (r.2.1*sz),r.2.1) else none
def t7 (s:AV) (n:Nat):Bool:=match s with
 | .sl _ _ len c true=>decide (c < len+n)
 | _=>false
def fX (P : Program) (el : TypeId) (m : aH) (s x : AV) : Option bS :=
 (cG P el).bind fun sz => (j8 P el).bind fun y => (gB P el).bind fun zl => (fW P el sz m x).bind fun new => (d6 (bR P el) m s).bind fun r =>
   if (r.2.1 + new.2) * y ≤ 140737488355328 ∧ r.2.1 + new.2 ≤ 140737488355328 ∧ zl.length = sz then
     (if r.2.2 = true then
       (if new.2 = 0 then bK s m else if r.2.1 * sz ≤ r.1.length then
         bK (.sl m.next 0 (r.2.1 + new.2) (r.2.1 + new.2) false) (m.push ⟨r.1.take (r.2.1 * sz) ++ new.1, el, bR P el, true⟩)
        else none)
      else if t7 s new.2 = true then (if r.2.1 * sz ≤ r.1.length then
         bK (.sl m.next 0 (r.2.1 + new.2) (r.2.1 + new.2) false) (m.push ⟨r.1.take (r.2.1 * sz) ++ new.1, el, bR P el, true⟩)
        else none)
      else match s with
       | .sl b off len c f => (m.at_ b).bind fun k =>
         if k.wr = true ∧ k.el = el ∧ off + len * sz = k.cells.length then
           bK (.sl m.next 0 (len + new.2) (len + new.2) false) ((m.put b none).push ⟨k.cells.drop off ++ new.1, el, bR P el, true⟩)
         else if k.wr = true ∧ k.el = el ∧ len + new.2 ≤ c ∧ off + (len + new.2) * sz ≤ k.cells.length then
           bK (.sl b off (len + new.2) c f) (m.put b (some ⟨cI k.cells (off + len * sz) new.1, el, bR P el, true⟩))
         else none
       | _ => none)
   else none
def tB (z:List Value) (n:Nat):List AV:=(List.range n).map fun i=>AV.val (z.getD (i % z.length) undef)
def acD (P:Program) (el:TypeId) (m:aH) (s:AV) (n:Nat):Option bS :=
 (cG P el).bind fun sz=>(j8 P el).bind fun y=>(gB P el).bind fun zl=>(d6 (bR P el) m s).bind fun r =>
  if (r.2.1+n)*y≤140737488355328∧r.2.1+n≤140737488355328∧zl.length=sz∧n≠0∧(r.2.2=true∨t7 s n=true)∧r.2.1*sz≤r.1.length then
   bK (.sl m.next 0 (r.2.1+n) (r.2.1+n) false) (m.push ⟨r.1.take (r.2.1*sz)++tB zl (n*sz),el,bR P el,true⟩)
  else none
def aey:AV→Option AV
 | .val (.slice none 0 0)=>some (aE 0)
 | .tree _ c _ true=>some (aE c)
 | .emp c true=>some (aE c)
 | .sl _ _ _ c true=>some (aE c)
 | _=>none
def acE (P:Program) (el:TypeId) (m:aH):AV→Option bS
 | .val (.slice none 0 0)=>bK eI m
 | .emp _ _=>bK eI m
 | .sl b off len _ _=>if len=0 then bK eI m else (cG P el).bind fun sz=>(gB P el).bind fun zl=>(m.at_ b).bind fun k =>
  if k.kind ≠ .hole∧k.wr=true∧zl.length=sz∧off+len*sz≤k.cells.length then
   bK eI (m.put b (some ⟨cI k.cells off (tB zl (len*sz)),k.el,k.kind,true⟩))
  else none
 | _=>none
def o5 (P:Program) (el:TypeId) (m:aH) (d x:AV):Option bS :=
 (cG P el).bind fun sz=>(fW P el sz m x).bind fun new=>match d with
  | .sl b off len _ _=>(m.at_ b).bind fun k =>
   if k.kind=bR P el∧k.wr=true∧off+len*sz≤k.cells.length then
    bK (aE (min new.2 len:Nat)) (m.put b (some ⟨cI k.cells off (new.1.take (min new.2 len*sz)),k.el,k.kind,true⟩))
   else none
  | d=>(d6 (bR P el) m d).bind fun r=>if min new.2 r.2.1=0 then bK (aE 0) m else none
def jT (P:Program) (t:TypeId):AV→Option AV
 | .val (.string s)=>if mQ P t then some (aE s.size) else none
 | x=>match bZ P t with
  | some _=>(vH x).map fun (n:Nat)=>aE n
  | none=>match nT P t,acB P t with
   | some a,_=>some (aE a.1)
   | none,some a=>some (aE a.1)
   | none,none=>none
def qV (P:Program) (m:aH) (ts:Array TypeId) (type:TypeId) (args:List AV):Builtin→Option bS
 | .len=>match ts.toList,args with
  | [t],[x]=>eR (jT P t x) m
  | _,_=>none
 | .append=>match ts.toList,args with
  | [t,t2],[s,x]=>if vG P t2 then (bZ P t).bind fun el=>fX P el m s x else (bZ P t).bind fun el=>if aa5 P t2 then (jB x).bind fun n=>acD P el m s n else none
  | _,_=>none
 | .cap=>match ts.toList,args with
  | [t],[x]=>(bZ P t).bind fun _=>eR (aey x) m
  | _,_=>none
 | .clear=>match ts.toList,args with
  | [t],[x]=>(bZ P t).bind fun el=>acE P el m x
  | _,_=>none
 | .copy=>match ts.toList,args with
  | t::_,[d,x]=>(bZ P t).bind fun el=>o5 P el m d x
  | _,_=>none
 | .min=>(p9 args).bind fun vs=>eR ((cN P (Builtin.min_ ts type vs.toArray)).map .val) m
 | .max=>(p9 args).bind fun vs=>eR ((cN P (Builtin.max_ ts type vs.toArray)).map .val) m
 | _=>none
mutual
def lend:Nat→aH→AV→Option AV
 | _,_,.val v=>some (.val v)
 | _,_,.tree n c cs f=>some (.tree n c cs f)
 | _,_,.tptr o cs=>some (.tptr o cs)
 | _,_,.emp c f=>some (.emp c f)
 | k,m,.agg cs=>(gI k m cs).map .agg
 | k,m,.clo f cs=>(gI k m cs).map (.clo f)
 | 0,m,.sl b off len c full=>(m.at_ b).bind fun x=>if x.kind = .flat then some (.tree len c (x.cells.drop off) full) else none
 | k+1,m,.sl b off len c full=>(m.at_ b).bind fun x=>match x.kind with
  | .flat=>some (.tree len c (x.cells.drop off) full)
  | .var=>(gI k m (x.cells.drop off)).map fun cs => .tree len c cs full
  | .hole=>none
 | k+1,m,.ptr b off=>(m.at_ b).bind fun x=>match x.kind with
  | .flat=>some (.tptr off x.cells)
  | .var=>(gI k m x.cells).map (.tptr off)
  | .hole=>none
 | _,_,_=>none
 termination_by k _ v=>(k,SizeOf.sizeOf v)
def gI:Nat→aH→List AV→Option (List AV)
 | _,_,[]=>some []
 | k,m,c::cs=>(lend k m c).bind fun c'=>(gI k m cs).map (c'::·)
 termination_by k _ v=>(k,SizeOf.sizeOf v)
end
mutual
def qW:AV→Bool
 | .val _=>true
 | .agg cs | .tup cs=>acF cs
 | _=>false
def acF:List AV→Bool
 | []=>true
 | c::cs=>qW c && acF cs
end
structure iO where
 v:AV
 rows:List (TypeId×List AV)
mutual
def nI:AV→Bool
 | .val _ | .sl .. | .emp .. => true
 | .agg cs | .tup cs=>nU cs
 | _=>false
def nU:List AV→Bool
 | []=>true
 | c::cs=>nI c && nU cs
end
def iO.apart (r:iO):Bool:=nI r.v && r.rows.all fun x=>nU x.2
mutual
def shift (n:Nat):AV→AV
 | .sl b off len c f => .sl (n+b) off len c f
 | .agg cs => .agg (gX n cs)
 | .tup cs => .tup (gX n cs)
 | .ptr b off => .ptr (n+b) off
 | .clo f cs => .clo f (gX n cs)
 | .val v => .val v
 | .tree a b c d => .tree a b c d
 | .tptr a b => .tptr a b
 | .emp a b => .emp a b
def gX (n:Nat):List AV→List AV
 | []=>[]
 | c::cs=>shift n c::gX n cs
end
def g7 (P:Program) (base:Nat) (m:aH):List (TypeId×List AV)→aH
 | []=>m
 | c::cs=>g7 P base (m.push ⟨if bR P c.1 = .flat then c.2 else gX base c.2,c.1,bR P c.1,true⟩) cs
def eB (P:Program) (m:aH) (rows:List (TypeId×List AV)):aH:=g7 P m.next m rows
mutual
def canon (P:Program) (m:aH):Nat→List (Nat×Nat)→List (TypeId×List AV)→AV→Option (AV×List (Nat×Nat)×List (TypeId×List AV))
 | _,ids,rows,.val v=>some (.val v,ids,rows)
 | _,ids,rows,.tree n c cs f=>some (.tree n c cs f,ids,rows)
 | _,ids,rows,.tptr o cs=>some (.tptr o cs,ids,rows)
 | _,ids,rows,.emp c f=>some (.emp c f,ids,rows)
 | k,ids,rows,.agg cs=>(iH P m k ids rows cs).map fun r=>(.agg r.1,r.2)
 | k,ids,rows,.tup cs=>(iH P m k ids rows cs).map fun r=>(.tup r.1,r.2)
 | 0,ids,rows,.sl b off len c f=>(m.at_ b).bind fun x =>
  if x.kind = .flat then
   (if x.wr=true then (if ids.any (fun i=>i.1 == b)=true∨bR P x.el ≠ .flat then none else some (.sl rows.length 0 len c f,ids++[(b,off)],rows++[(x.el,x.cells.drop off)]))
    else some (.tree len c (x.cells.drop off) f,ids,rows))
  else none
 | k+1,ids,rows,.sl b off len c f=>(m.at_ b).bind fun x=>match x.kind with
  | .flat =>
   (if x.wr=true then (if ids.any (fun i=>i.1 == b)=true∨bR P x.el ≠ .flat then none else some (.sl rows.length 0 len c f,ids++[(b,off)],rows++[(x.el,x.cells.drop off)]))
    else some (.tree len c (x.cells.drop off) f,ids,rows))
  | .var=>if x.wr=true∧bR P x.el = .var then (iH P m k ids rows (x.cells.drop off)).bind fun r =>
   if r.2.1.any (fun i=>i.1 == b)=true then none else some (.sl r.2.2.length 0 len c f,r.2.1++[(b,off)],r.2.2++[(x.el,r.1)]) else none
  | .hole=>none
 | _,ids,rows,.clo f []=>some (.clo f [],ids,rows)
 | _,_,_,_=>none
 termination_by k _ _ v=>(k,SizeOf.sizeOf v)
def iH (P:Program) (m:aH):Nat→List (Nat×Nat)→List (TypeId×List AV)→List AV→Option (List AV×List (Nat×Nat)×List (TypeId×List AV))
 | _,ids,rows,[]=>some ([],ids,rows)
 | k,ids,rows,c::cs=>(canon P m k ids rows c).bind fun r=>(iH P m k r.2.1 r.2.2 cs).map fun s=>(r.1::s.1,s.2)
 termination_by k _ _ v=>(k,SizeOf.sizeOf v)
end
def mE (P:Program) (m:aH) (v:AV):Option iO:=(canon P m 3 [] [] v).map fun r=>⟨r.1,r.2.2⟩
def qC (ops:Array Oper) (e:bI) (o:Oper):Bool :=
 match o.guard with
 | none=>true
 | some (j,want)=>match (ops[j]?).bind (·.dst) with
  | some d=>match e d with
   | .val (.bool b)=>b == want
   | _=>false
  | none=>false
inductive Ex where
 | normal | exit (id:Nat) | ret
 deriving DecidableEq
def nV (args:List AV):bI:=fun j=>args.getD j eI
def nW (P:Program) (e:bI) (m:aH):ResultVar→Option AV
 | .tmp t=>some (e t)
 | .cell a t=>iX P m t (e a)
def mS (P:Program) (e:bI) (m:aH):List ResultVar→Option (List AV)
 | []=>some []
 | r::rs=>(nW P e m r).bind fun v=>(mS P e m rs).map (v::·)
def jU (P:Program) (rs:List ResultVar) (e:bI) (m:aH):Option AV :=
 (mS P e m rs).map fun vs=>match vs with
  | [v]=>v
  | vs => .tup vs
end Go.Tw