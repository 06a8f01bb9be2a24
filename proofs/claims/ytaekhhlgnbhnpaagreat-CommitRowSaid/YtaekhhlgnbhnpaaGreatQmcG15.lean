import Derived.Test.YtaekhhlgnbhnpaaGreatQmcG08
import Derived.Test.YtaekhhlgnbhnpaaGreatProg
import Derived.KernelRfl
import Derived.Test.YtaekhhlgnbhnpaaGreatQmcG10
import Derived.Test.YtaekhhlgnbhnpaaGreatQmcG11
set_option linter.defProp false
set_option maxRecDepth 4000
open Go.Proofs.Tryz
open Bool renaming and_self→aAx,and_true→aAI,false_eq_true→azA
open Go.IntKind renaming i64→azy
open Go.Proofs.Tryz renaming prog→ayU
open Int renaming mul_le_mul→aA4,ediv_nonneg→aA5,toNat_natCast→aBb
open List renaming getElem?_eq_some_iff→ay8,getElem?_append_left→azg,findIdx?_eq_some_iff_getElem→aA6,getElem?_eq_getElem→azm,findIdx?_eq_none_iff→aA7,any_eq_true→aA8,mem_of_getElem?→az8,take_add_one→aA9,take_of_length_le→aBa,length_drop→aBc,drop_drop→aBe,length_append→aA2,getD_eq_getElem?_getD→azs
open Nat renaming mul_one→azG,le_refl→aza,zero_ne_one→aBg
open Option renaming bind_some→aAk,getD_some→aAE,getD_none→aAD,map_none→aBd,map_some→az6
open UInt8 renaming toNat_inj→aBf
open Go Go.Tw
namespace Go.Proofs.YtaekhhlgnbhnpaaGreat
open Go.Proofs
theorem follows:ayU.follows .mixedOrders=true:=by kernel_rfl
theorem aV {f:FuncId} {fn:Func} {c:Code} (hf:ayU.funcs[f]?=some fn) (once:Nat→Bool) {args:List AV} {r:fA} (hb:fn.body=some c:=by rfl) (hx:(bne fn.name "runtime.NumGoroutine" && (args.length.ble fn.ntmps && mV fn.ntmps c))=true:=by kernel_rfl) (h:eP ayU once fn.ntmps c (aaO ayU fn.results.toList fun v m=>jB ayU m v=some r) (rH args) aF.empty):aQ ayU f args r:=by
 simp only [Bool.and_eq_true,bne_iff_ne] at hx
 exact ar6 follows hf hb hx.1 once (Nat.le_of_ble_eq_true hx.2.1) hx.2.2 h
theorem bV {f:FuncId} {fn:Func} {c:Code} (hf:ayU.funcs[f]?=some fn) (once:Nat→Bool) {args:List AV} {m:aF} {Q:AV→aF→Prop} (hb:fn.body=some c:=by rfl) (hx:(bne fn.name "runtime.NumGoroutine" && (args.length.ble fn.ntmps && mV fn.ntmps c))=true:=by kernel_rfl) (h:eP ayU once fn.ntmps c (aaO ayU fn.results.toList Q) (rH args) m):dV ayU f args m Q:=by
 simp only [Bool.and_eq_true,bne_iff_ne] at hx
 exact ar8 follows hf hb hx.1 once (Nat.le_of_ble_eq_true hx.2.1) hx.2.2 h
abbrev TF (t:TypeId) (a b:Option Nat) (c:Option Bool) (d:Option TypeId) (e f:Option (Nat×TypeId)) (g h i j:Bool) (k:Option IntKind):Prop:=bX ayU t=a∧jN ayU t=b∧adW ayU t=c∧bO ayU t=d∧qK ayU t=e∧adX ayU t=f∧pQ ayU t=g∧tR ayU t=h∧zF ayU t=i∧adY ayU t=j∧abN ayU t=k
abbrev TZ (t:TypeId) (z:List Value) (k:gJ):Prop:=gF ayU t=some z∧bK ayU t=k
theorem aK:TF 3 (some 1) (some 8) (some false) none none none false false false false (some .i64)∧TZ 3 [.int .i64 0] .flat:=by and_intros <;> kernel_rfl
theorem aL:TF 4 (some 1) (some 1) (some false) none none none false false true false none∧TZ 4 [.bool false] .flat:=by and_intros <;> kernel_rfl
theorem aN:TF 5 (some 1) (some 1) (some false) none none none false true false false (some .u8)∧TZ 5 [.int .u8 0] .flat:=by and_intros <;> kernel_rfl
theorem wY:TF 9 (some 1) (some 16) (some false) none none none true false true false none∧TZ 9 [.string .empty] .flat:=by and_intros <;> kernel_rfl
theorem amj:TF 20 (some 1) (some 16) (some false) none none none false false true false none∧TZ 20 [.nilIface] .var:=by and_intros <;> kernel_rfl
theorem aU:TF 23 (some 4) (some 32) (some true) none none none false false true true none∧gG ayU 23 0=some (0,3)∧gG ayU 23 1=some (1,3)∧gG ayU 23 2=some (2,3)∧gG ayU 23 3=some (3,3)∧TZ 23 [.int .i64 0,.int .i64 0,.int .i64 0,.int .i64 0] .flat:=by and_intros <;> kernel_rfl
theorem cJ:TF 24 (some 1) (some 24) (some false) (some 131) none none false false true false none∧TZ 24 [.slice none 0 0] .var:=by and_intros <;> kernel_rfl
theorem aeH:TF 25 (some 1) (some 24) (some false) (some 4) none none false false true false none∧TZ 25 [.slice none 0 0] .var:=by and_intros <;> kernel_rfl
theorem kI:TF 27 (some 1) (some 24) (some false) (some 69) none none false false true false none∧TZ 27 [.slice none 0 0] .var:=by and_intros <;> kernel_rfl
theorem aY:TF 28 (some 1) (some 8) (some false) none none none false false false false (some .i64)∧TZ 28 [.int .i64 0] .flat:=by and_intros <;> kernel_rfl
theorem zX:TF 29 (some 1) (some 0) (some false) none none none false false true false none:=by and_intros <;> kernel_rfl
theorem eJ:TF 31 (some 1) (some 24) (some false) (some 67) none none false false true false none∧TZ 31 [.slice none 0 0] .var:=by and_intros <;> kernel_rfl
theorem iB:TF 33 (some 3) (some 40) (some true) none none none false false true true none∧gG ayU 33 0=some (0,3)∧gG ayU 33 1=some (1,3)∧gG ayU 33 2=some (2,31)∧TZ 33 [.int .i64 0,.int .i64 0,.slice none 0 0] .var:=by and_intros <;> kernel_rfl
theorem amk:TF 34 (some 1) (some 0) (some false) none none none false false true false none:=by and_intros <;> kernel_rfl
theorem cD:TF 41 (some 1) (some 24) (some false) (some 3) none none false false true false none∧TZ 41 [.slice none 0 0] .var:=by and_intros <;> kernel_rfl
theorem abX:TF 42 (some 1) (some 0) (some false) none none none false false true false none:=by and_intros <;> kernel_rfl
theorem cN:TF 45 (some 1) (some 24) (some false) (some 52) none none false false true false none∧TZ 45 [.slice none 0 0] .var:=by and_intros <;> kernel_rfl
theorem eK:TF 50 (some 1) (some 0) (some false) none none none false false true false none:=by and_intros <;> kernel_rfl
theorem aP:TF 52 (some 1) (some 24) (some false) (some 5) none none false false true false none∧TZ 52 [.slice none 0 0] .var:=by and_intros <;> kernel_rfl
theorem lL:TF 53 (some 1) (some 0) (some false) none none none false false true false none:=by and_intros <;> kernel_rfl
theorem eD:TF 67 (some 2) (some 16) (some true) none none none false false true true none∧gG ayU 67 0=some (0,3)∧gG ayU 67 1=some (1,3)∧TZ 67 [.int .i64 0,.int .i64 0] .flat:=by and_intros <;> kernel_rfl
theorem jQ:TF 69 (some 4) (some 48) (some true) none none none false false true true none∧gG ayU 69 0=some (0,3)∧gG ayU 69 1=some (1,3)∧gG ayU 69 2=some (2,3)∧gG ayU 69 3=some (3,52)∧TZ 69 [.int .i64 0,.int .i64 0,.int .i64 0,.slice none 0 0] .var:=by and_intros <;> kernel_rfl
theorem uC:TF 118 (some 5) (some 56) (some true) none none none false false true true none∧gG ayU 118 0=some (0,23)∧gG ayU 118 1=some (4,24)∧TZ 118 [.int .i64 0,.int .i64 0,.int .i64 0,.int .i64 0,.slice none 0 0] .var:=by and_intros <;> kernel_rfl
theorem aml:TF 120 (some 1) (some 8) (some false) none none none false false true false none∧TZ 120 [.nilFunc] .var:=by and_intros <;> kernel_rfl
theorem aeI:TF 124 (some 1) (some 0) (some false) none none none false false true false none:=by and_intros <;> kernel_rfl
theorem dH:TF 127 (some 6) (some 80) (some true) none none none false false true true none∧gG ayU 127 0=some (0,5)∧gG ayU 127 1=some (1,3)∧gG ayU 127 2=some (2,3)∧gG ayU 127 3=some (3,3)∧gG ayU 127 4=some (4,41)∧gG ayU 127 5=some (5,52)∧TZ 127 [.int .u8 0,.int .i64 0,.int .i64 0,.int .i64 0,.slice none 0 0,.slice none 0 0] .var:=by and_intros <;> kernel_rfl
theorem abY:TF 128 (some 1) (some 0) (some false) none none none false false true false none:=by and_intros <;> kernel_rfl
theorem cE:TF 131 (some 2) (some 48) (some true) none (some (2,52)) none false false true false none∧TZ 131 [.slice none 0 0,.slice none 0 0] .var:=by and_intros <;> kernel_rfl
theorem aeJ:TF 132 (some 1) (some 24) (some false) (some 136) none none false false true false none∧TZ 132 [.slice none 0 0] .var:=by and_intros <;> kernel_rfl
theorem amm:TF 133 (some 1) (some 0) (some false) none none none false false true false none:=by and_intros <;> kernel_rfl
theorem aeK:TF 136 (some 2) (some 16) (some true) none (some (2,3)) none false false true false none∧TZ 136 [.int .i64 0,.int .i64 0] .flat:=by and_intros <;> kernel_rfl
theorem amn:TF 140 (some 1) (some 8) (some false) none none none false false true false none∧TZ 140 [.nilFunc] .var:=by and_intros <;> kernel_rfl
theorem uD:TF 149 (some 1) (some 0) (some false) none none none false false true false none:=by and_intros <;> kernel_rfl
theorem abZ:TF 151 (some 1) (some 8) (some false) none none none false false true false none∧TZ 151 [.nilFunc] .var:=by and_intros <;> kernel_rfl
theorem ab0:TF 157 (some 1) (some 0) (some false) none none none false false true false none:=by and_intros <;> kernel_rfl
theorem ab1:TF 168 (some 1) (some 0) (some false) none none none false false true false none:=by and_intros <;> kernel_rfl
theorem aeL:TF 176 (some 1) (some 0) (some false) none none none false false true false none:=by and_intros <;> kernel_rfl
theorem zY:TF 185 (some 1) (some 8) (some false) none none none false false true false none∧TZ 185 [.pointer none] .var:=by and_intros <;> kernel_rfl
theorem aeM:TF 186 (some 1) (some 0) (some false) none none none false false true false none:=by and_intros <;> kernel_rfl
theorem iQ:TF 188 (some 1) (some 0) (some false) none none none false false true false none:=by and_intros <;> kernel_rfl
theorem ab2:TF 191 (some 1) (some 8) (some false) none none none false false true false none∧TZ 191 [.nilFunc] .var:=by and_intros <;> kernel_rfl
theorem zZ:TF 195 (some 8) (some 112) (some true) none none none false false true true none∧gG ayU 195 0=some (0,23)∧gG ayU 195 1=some (4,24)∧gG ayU 195 2=some (5,3)∧gG ayU 195 3=some (6,41)∧gG ayU 195 4=some (7,27)∧TZ 195 [.int .i64 0,.int .i64 0,.int .i64 0,.int .i64 0,.slice none 0 0,.int .i64 0,.slice none 0 0,.slice none 0 0] .var:=by and_intros <;> kernel_rfl
theorem amo:TF 200 (some 1) (some 0) (some false) none none none false false true false none:=by and_intros <;> kernel_rfl
theorem aaa:TF 206 (some 1) (some 8) (some false) none none none false false true false none∧TZ 206 [.map none] .var:=by and_intros <;> kernel_rfl
theorem aeN:TF 208 (some 1) (some 0) (some false) none none none false false true false none:=by and_intros <;> kernel_rfl
theorem aab:TF 223 (some 1) (some 24) (some false) (some 226) none none false false true false none∧TZ 223 [.slice none 0 0] .var:=by and_intros <;> kernel_rfl
theorem aac:TF 226 (some 2) (some 32) (some true) none none none false false true true none∧gG ayU 226 0=some (0,3)∧gG ayU 226 1=some (1,41)∧TZ 226 [.int .i64 0,.slice none 0 0] .var:=by and_intros <;> kernel_rfl
theorem rM:TF 235 (some 1) (some 8) (some false) none none none false false false false (some .u64)∧TZ 235 [.int .u64 0] .flat:=by and_intros <;> kernel_rfl
theorem aeO:TF 238 (some 1) (some 0) (some false) none none none false false true false none:=by and_intros <;> kernel_rfl
theorem uE:TF 249 (some 1) (some 0) (some false) none none none false false true false none:=by and_intros <;> kernel_rfl
theorem amp:TF 257 (some 1) (some 0) (some false) none none none false false true false none:=by and_intros <;> kernel_rfl
theorem ab3:TF 265 (some 3) (some 24) (some true) none none none false false true true none∧gG ayU 265 0=some (0,3)∧gG ayU 265 1=some (1,3)∧gG ayU 265 2=some (2,3)∧TZ 265 [.int .i64 0,.int .i64 0,.int .i64 0] .flat:=by and_intros <;> kernel_rfl
theorem aeP:TF 294 (some 1) (some 4) (some false) none none none false false false false (some .u32)∧TZ 294 [.int .u32 0] .flat:=by and_intros <;> kernel_rfl
theorem amq:TF 296 (some 1) (some 8) (some false) none none none false false false false (some .u64)∧TZ 296 [.int .u64 0] .flat:=by and_intros <;> kernel_rfl
theorem amr:TF 299 (some 1) (some 0) (some false) none none none false false true false none:=by and_intros <;> kernel_rfl
theorem aad:TF 302 (some 7) (some 88) (some true) none none none false false true true none∧gG ayU 302 0=some (0,127)∧gG ayU 302 1=some (6,4)∧TZ 302 [.int .u8 0,.int .i64 0,.int .i64 0,.int .i64 0,.slice none 0 0,.slice none 0 0,.bool false] .var:=by and_intros <;> kernel_rfl
theorem aae:TF 304 (some 14) (some 176) (some true) none (some (2,302)) none false false true false none∧TZ 304 [.int .u8 0,.int .i64 0,.int .i64 0,.int .i64 0,.slice none 0 0,.slice none 0 0,.bool false,.int .u8 0,.int .i64 0,.int .i64 0,.int .i64 0,.slice none 0 0,.slice none 0 0,.bool false] .var:=by and_intros <;> kernel_rfl
theorem aeQ:TF 305 (some 1) (some 0) (some false) none none none false false true false none:=by and_intros <;> kernel_rfl
theorem aeR:TF 311 (some 1) (some 8) (some false) none none none false false true false none∧TZ 311 [.nilFunc] .var:=by and_intros <;> kernel_rfl
theorem rN:TF 312 (some 1) (some 0) (some false) none none none false false true false none:=by and_intros <;> kernel_rfl
theorem ams:TF 318 (some 1) (some 0) (some false) none none none false false true false none:=by and_intros <;> kernel_rfl
theorem amt:TF 331 (some 1) (some 8) (some false) none none none false false true false none∧TZ 331 [.map none] .var:=by and_intros <;> kernel_rfl
theorem ab4:TF 338 (some 256) (some 256) (some true) none (some (256,5)) none false false true false none:=by and_intros <;> kernel_rfl
theorem amu:TF 339 (some 1) (some 0) (some false) none none none false false true false none:=by and_intros <;> kernel_rfl
theorem amv:TF 341 (some 1) (some 0) (some false) none none none false false true false none:=by and_intros <;> kernel_rfl
theorem amw:TF 352 (some 1) (some 0) (some false) none none none false false true false none:=by and_intros <;> kernel_rfl
def lX:=(⟨aK,aL,aN,aU,cJ,kI,aY,zX,eJ,iB,amk,eK,aP,eD,jQ,cE⟩:_∧_∧_∧_∧_∧_∧_∧_∧_∧_∧_∧_∧_∧_∧_∧_)
def asI:=(⟨aK,aL,aU,aY,eK⟩:_∧_∧_∧_∧_)
def uF:=(⟨aK,aL,aN,aU,cJ,kI,aY,zX,eK,aP,jQ,uC,cE⟩:_∧_∧_∧_∧_∧_∧_∧_∧_∧_∧_∧_∧_)
def wZ:=(⟨aK,aL,aN,aU,cJ,aY,eJ,iB,eK,aP,lL,eD,uC,aeI,cE⟩:_∧_∧_∧_∧_∧_∧_∧_∧_∧_∧_∧_∧_∧_∧_)
def amx:=(⟨aK,aL,eJ,iB,eD⟩:_∧_∧_∧_∧_)
def amy:=(⟨aK,aL,aN,wY,cJ,aP,cE⟩:_∧_∧_∧_∧_∧_∧_)
def amz:=(⟨aK,eJ,iB,eD⟩:_∧_∧_∧_)
def qT:=(⟨aK,aL,aN,aU,cJ,kI,aY,zX,eJ,iB,eK,aP,lL,eD,jQ,uC,cE⟩:_∧_∧_∧_∧_∧_∧_∧_∧_∧_∧_∧_∧_∧_∧_∧_∧_)
def lY:=(⟨aK,aL,aN,aU,cJ,kI,aY,eJ,iB,aP,lL,eD,jQ,cE,uD⟩:_∧_∧_∧_∧_∧_∧_∧_∧_∧_∧_∧_∧_∧_∧_)
def mX:=(⟨aK,aL,aN,aU,cJ,aY,eJ,iB,aP,lL,eD,aeI,cE,uD⟩:_∧_∧_∧_∧_∧_∧_∧_∧_∧_∧_∧_∧_∧_)
def uG:=(⟨aK,aL,aN,aU,cJ,kI,aY,zX,aP,jQ,cE,uD⟩:_∧_∧_∧_∧_∧_∧_∧_∧_∧_∧_∧_)
def ahh:=(⟨aK,aL,aU,aY⟩:_∧_∧_∧_)
def ahi:=(⟨aK,aL,aU,aY⟩:_∧_∧_∧_)
def ahj:=(⟨aK,aL,aN,wY,kI,aP,jQ⟩:_∧_∧_∧_∧_∧_∧_)
def asJ:=(⟨aK,aL,eJ,iB,eD⟩:_∧_∧_∧_∧_)
def ahk:=(⟨aK,aL,aN,wY,cJ,aP,cE⟩:_∧_∧_∧_∧_∧_∧_)
def ahl:=(⟨aK,aL,eJ,eD⟩:_∧_∧_∧_)
def asK:=(⟨aK,aU,aY,ab1⟩:_∧_∧_∧_)
def asL:=(⟨aK,aU,aY,ab1⟩:_∧_∧_∧_)
def ahm:=(⟨aK,aL,aN,aU,cJ,aY,aP,uC,aml,cE,ab0⟩:_∧_∧_∧_∧_∧_∧_∧_∧_∧_∧_)
def asM:=(⟨aK,aL,aN,aU,cJ,aY,aP,uC,cE,ab0⟩:_∧_∧_∧_∧_∧_∧_∧_∧_∧_)
def asN:=(⟨aK,aL,aN,aU,cJ,aY,aP,uC,cE,ab0⟩:_∧_∧_∧_∧_∧_∧_∧_∧_∧_)
def vO:=(⟨aK,aL,aN,aU,cJ,aeH,kI,aY,cD,cN,aP,jQ,dH,cE,zY,aeM,iQ,ab2,zZ⟩:_∧_∧_∧_∧_∧_∧_∧_∧_∧_∧_∧_∧_∧_∧_∧_∧_∧_∧_)
def aeS:=(⟨aK,aL,aN,aU,cJ,aY,cN,aP,cE,iQ⟩:_∧_∧_∧_∧_∧_∧_∧_∧_∧_)
def vP:=(⟨aK,aL,aN,aU,aY,eJ,iB,aP,lL,eD⟩:_∧_∧_∧_∧_∧_∧_∧_∧_∧_)
def lZ:=(⟨aK,aL,aN,aU,aY,cD,eK,aP,dH,amo⟩:_∧_∧_∧_∧_∧_∧_∧_∧_∧_)
def mL:=(⟨aK,aL,aN,aU,cJ,aY,cD,eK,aP,dH,abY,cE,aeJ,aeK,abZ⟩:_∧_∧_∧_∧_∧_∧_∧_∧_∧_∧_∧_∧_∧_∧_)
def aeT:=(⟨aK,aL,aU⟩:_∧_∧_)
def asO:=(⟨aK,aU⟩:_∧_)
def ahn:=(⟨aK,aU⟩:_∧_)
def ab5:=(⟨aK,aL,aN,aU,aY,eJ,iB,aP,lL,eD⟩:_∧_∧_∧_∧_∧_∧_∧_∧_∧_)
def aaf:=(⟨aK,aL,aN,aU,cJ,kI,aY,cD,abX,cN,aP,jQ,dH,cE,zY,aeM,iQ,zZ⟩:_∧_∧_∧_∧_∧_∧_∧_∧_∧_∧_∧_∧_∧_∧_∧_∧_∧_)
def ade:=(⟨aK,aL,aN,aU,cJ,aY,aP,cE⟩:_∧_∧_∧_∧_∧_∧_∧_)
def adf:=(⟨aK,aL,aN,aU,cJ,cD,aP,cE,aab,aac⟩:_∧_∧_∧_∧_∧_∧_∧_∧_∧_)
def ayx:=(⟨aK,aL⟩:_∧_)
def aho:=(⟨aK,aL,aN,aU,aY,eJ,iB,aP,eD⟩:_∧_∧_∧_∧_∧_∧_∧_∧_)
def aaQ:=(⟨aK,aL,aN,aU,cJ,kI,cD,cN,aP,jQ,dH,cE⟩:_∧_∧_∧_∧_∧_∧_∧_∧_∧_∧_∧_)
def aeU:=(⟨aK,aL,aN,aU,cJ,aY,cN,aP,cE,iQ⟩:_∧_∧_∧_∧_∧_∧_∧_∧_∧_)
def iW:=(⟨aK,aL,aN,wY,aU,aY,eJ,iB,aP,eD⟩:_∧_∧_∧_∧_∧_∧_∧_∧_∧_)
def vQ:=(⟨aK,aL,aN,aU,cJ,kI,aY,cD,cN,aP,jQ,dH,cE,aeL,iQ⟩:_∧_∧_∧_∧_∧_∧_∧_∧_∧_∧_∧_∧_∧_∧_)
def aeV:=(⟨aK,aL,aU,aY⟩:_∧_∧_∧_)
def adg:=(⟨aK,aL,aU,aY⟩:_∧_∧_∧_)
def aag:=(⟨aK,aL,aN,aU,cJ,cD,cN,aP,dH,cE,uE⟩:_∧_∧_∧_∧_∧_∧_∧_∧_∧_∧_)
def adh:=(⟨aK,aL,aN,aU,cJ,aY,cD,abX,aP,cE⟩:_∧_∧_∧_∧_∧_∧_∧_∧_∧_)
def adi:=(⟨aK,aL,aN,aU,cJ,aY,cD,abX,aP,cE⟩:_∧_∧_∧_∧_∧_∧_∧_∧_∧_)
def xA:=(⟨aK,aL,aN,aU,cJ,kI,aY,cD,eK,aP,jQ,cE,zY,zZ⟩:_∧_∧_∧_∧_∧_∧_∧_∧_∧_∧_∧_∧_∧_)
def aeW:=(⟨aK,aL,aN,aU,cJ,aY,cN,aP,cE,iQ,ab2⟩:_∧_∧_∧_∧_∧_∧_∧_∧_∧_∧_)
def xB:=(⟨aK,aL,aN,aU,cJ,aY,cD,aP,dH,cE,ab2,amp⟩:_∧_∧_∧_∧_∧_∧_∧_∧_∧_∧_∧_)
def asP:=(⟨aK,aL,aN,aeH,cD,aP,dH⟩:_∧_∧_∧_∧_∧_∧_)
def lM:=(⟨aK,aL,aN,aU,cJ,aY,cD,aP,dH,abY,cE⟩:_∧_∧_∧_∧_∧_∧_∧_∧_∧_∧_)
def aah:=(⟨aK,aL,aN,aU,cJ,kI,aY,cD,eK,aP,lL,jQ,dH,cE,zY,zZ⟩:_∧_∧_∧_∧_∧_∧_∧_∧_∧_∧_∧_∧_∧_∧_∧_)
def amA:=(⟨aK,aL,aN,aU,cJ,aY,cN,aP,cE,iQ⟩:_∧_∧_∧_∧_∧_∧_∧_∧_∧_)
def adj:=(⟨aK,aL,aN,aU,aY,eK,aP⟩:_∧_∧_∧_∧_∧_∧_)
def amB:=(⟨aK,aN,aP,rM⟩:_∧_∧_∧_)
def asQ:=(⟨aK,aL,aN,eJ,aP,eD⟩:_∧_∧_∧_∧_∧_)
def ayy:=(⟨aL,aN,wY,aP⟩:_∧_∧_∧_)
def ahp:=(⟨aK,aL,aU,aY,eK⟩:_∧_∧_∧_∧_)
def amC:=(⟨aK,aN,aP,rM⟩:_∧_∧_∧_)
def ab6:=(⟨aK,aL,aN,aU,aY,cD,eK,aP,dH⟩:_∧_∧_∧_∧_∧_∧_∧_∧_)
def asR:=(⟨aK,aU,aY,eK⟩:_∧_∧_∧_)
def ayz:=(⟨aK,aL,cD,abZ⟩:_∧_∧_∧_)
def asS:=(⟨aK,aL,aN,cD,aP,dH⟩:_∧_∧_∧_∧_∧_)
def aeX:=(⟨aK,aL,aN,aY,cN,aP,iQ,aaa,ab3⟩:_∧_∧_∧_∧_∧_∧_∧_∧_)
def aeY:=(⟨aK,aL,aN,cD,cN,aP⟩:_∧_∧_∧_∧_∧_)
def amD:=(⟨aK,aL,aN,aY,cN,aP,lL,aaa,ab3⟩:_∧_∧_∧_∧_∧_∧_∧_∧_)
def asT:=(⟨aK,aU,aY,eK⟩:_∧_∧_∧_)
def ahq:=(⟨aK,aL,aU,aY,amn⟩:_∧_∧_∧_∧_)
def ahr:=(⟨aK,aU⟩:_∧_)
def asU:=(⟨aK,aU⟩:_∧_)
def asV:=(⟨aK,aU⟩:_∧_)
def asW:=(⟨aK,aU⟩:_∧_)
def ahs:=(⟨aK,aL,aU⟩:_∧_∧_)
def iR:=(⟨aK,aL,aU,aY,eJ,iB,eK,eD⟩:_∧_∧_∧_∧_∧_∧_∧_)
def asX:=(⟨aK,aL,aN,aP⟩:_∧_∧_∧_)
def amE:=(⟨aK,aL,aN,aU,aY,eK,aP⟩:_∧_∧_∧_∧_∧_∧_)
def aht:=(⟨aK,aN,eJ,aP,eD⟩:_∧_∧_∧_∧_)
def asY:=(⟨aK,aL,aN,aY,cD,cN,aP,iQ,aaa,aeN⟩:_∧_∧_∧_∧_∧_∧_∧_∧_∧_)
def amF:=(⟨aK,aL,aU,aY,cD,eK⟩:_∧_∧_∧_∧_∧_)
def aeZ:=(⟨aK,aL,aN,aU,cJ,aP,cE⟩:_∧_∧_∧_∧_∧_∧_)
def vR:=(⟨aK,aL,aN,aU,cJ,cD,aP,cE,aab,aac⟩:_∧_∧_∧_∧_∧_∧_∧_∧_∧_)
def adk:=(⟨aK,aL,aU,aY,eJ,iB,eD⟩:_∧_∧_∧_∧_∧_∧_)
def ab7:=(⟨aK,aN,aU,eJ,iB,aP,eD⟩:_∧_∧_∧_∧_∧_∧_)
def ae0:=(⟨aK,aL,aN,aU,aY,cN,aP,iQ⟩:_∧_∧_∧_∧_∧_∧_∧_)
def ae1:=(⟨aK,aL,aU,cD⟩:_∧_∧_∧_)
def rO:=(⟨aK,aL,aN,aU,cJ,cD,aP,jQ,dH,cE⟩:_∧_∧_∧_∧_∧_∧_∧_∧_∧_)
def ae2:=(⟨aK,aL,aN,aU,cJ,aY,cN,aP,cE,aeL,iQ⟩:_∧_∧_∧_∧_∧_∧_∧_∧_∧_∧_)
def amG:=(⟨aK,aL,aN,aP⟩:_∧_∧_∧_)
def asZ:=(⟨aK,aL,aN,eJ,aP,eD⟩:_∧_∧_∧_∧_∧_)
def fE:=(⟨aK,aL,aU,aY,eJ,iB,eK,eD⟩:_∧_∧_∧_∧_∧_∧_∧_)
def qU:=(⟨aK,aL,aN,aU,cJ,cD,aP,dH,cE,uE⟩:_∧_∧_∧_∧_∧_∧_∧_∧_∧_)
def amH:=(⟨aK,aU⟩:_∧_)
def as0:=(⟨aK,aU⟩:_∧_)
theorem ayA:(type_of% aK):=aK
def as1:=(⟨aK,aU⟩:_∧_)
def as2:=(⟨aK,aU⟩:_∧_)
def sZ:=(⟨aK,aL,aN,aU,cD,aP,dH,cE,uE⟩:_∧_∧_∧_∧_∧_∧_∧_∧_)
def ab8:=(⟨aK,aL,aN,aU,cD,aP,dH,uE⟩:_∧_∧_∧_∧_∧_∧_∧_)
def amI:=(⟨aK,aL,aN,aU,cJ,aY,eK,aP,cE⟩:_∧_∧_∧_∧_∧_∧_∧_∧_)
def adl:=(⟨aK,aL,aN,aU,cJ,aY,cD,aP,cE,aab,aac,amr⟩:_∧_∧_∧_∧_∧_∧_∧_∧_∧_∧_∧_)
def rQ:=(⟨aK,aL,aN,aU,cJ,aY,eK,aP,cE⟩:_∧_∧_∧_∧_∧_∧_∧_∧_)
def ayB:=(⟨aK,aL,aN,aY⟩:_∧_∧_∧_)
def ahu:=(⟨aK,aN,cD,cN,aP,dH⟩:_∧_∧_∧_∧_∧_)
def aaR:=(⟨aK,aL,aN,aY,cD,cN,aP,lL,iQ,aaa,aeN,ab3⟩:_∧_∧_∧_∧_∧_∧_∧_∧_∧_∧_∧_)
def aaS:=(⟨aK,aL,aN,aU,aY,cD,aP,dH,cE,aad,aae,aeQ⟩:_∧_∧_∧_∧_∧_∧_∧_∧_∧_∧_∧_)
def aai:=(⟨aK,aL,aN,aU,aY,cD,eK,aP,dH⟩:_∧_∧_∧_∧_∧_∧_∧_∧_)
def qA:=(⟨aK,aL,aN,aU,aY,cD,aP,dH,cE,aad,aae,aeQ⟩:_∧_∧_∧_∧_∧_∧_∧_∧_∧_∧_∧_)
def ahv:=(⟨aK,aL,aU,aY,cD⟩:_∧_∧_∧_∧_)
def as3:=(⟨aK,aU⟩:_∧_)
def amJ:=(⟨aK,aL,cD,abZ⟩:_∧_∧_∧_)
def ayC:=(⟨aK,aL,aN,aY,cN,aP⟩:_∧_∧_∧_∧_∧_)
def as4:=(⟨aK,aL,aN,aY,cN,aP,aeR⟩:_∧_∧_∧_∧_∧_∧_)
def ahw:=(⟨aK,aL,aN,aY,cN,aP⟩:_∧_∧_∧_∧_∧_)
theorem ayD:(type_of% aK):=aK
def ae3:=(⟨aK,aL,aU,eJ,eD⟩:_∧_∧_∧_∧_)
def amK:=(⟨aK,aN,aU,aP⟩:_∧_∧_∧_)
def adm:=(⟨aK,aL,aN,eJ,aP,eD⟩:_∧_∧_∧_∧_∧_)
def as5:=(⟨aK,aU,aY,ab1⟩:_∧_∧_∧_)
def ab9:=(⟨aK,aL,aU,eJ,eD⟩:_∧_∧_∧_∧_)
def ayE:=(⟨aK,aL⟩:_∧_)
def ahx:=(⟨aK,aL,amj,cD,rM,ams⟩:_∧_∧_∧_∧_∧_)
def ae4:=(⟨aK,aL,aN,aU,aP,cE⟩:_∧_∧_∧_∧_∧_)
def yJ:=(⟨aK,aL,aN,aU,cD,aP,dH,uE⟩:_∧_∧_∧_∧_∧_∧_∧_)
def ahy:=(⟨aK,aL,aN,aU,cJ,aP,cE⟩:_∧_∧_∧_∧_∧_∧_)
def as6:=(⟨aK,aL,aN,aP⟩:_∧_∧_∧_)
def ayF:=(⟨aK,aL,aN,aY,cN,aP,aeO⟩:_∧_∧_∧_∧_∧_∧_)
def oR:=(⟨aK,aL,aN,aU,cD,aP,dH,cE,uE⟩:_∧_∧_∧_∧_∧_∧_∧_∧_)
def ae5:=(⟨aK,aL,aN,cD,aP,dH⟩:_∧_∧_∧_∧_∧_)
def aca:=(⟨aK,aL,aN,aY,cN,aP,lL,iQ,aeO⟩:_∧_∧_∧_∧_∧_∧_∧_∧_)
def ahz:=(⟨aK,aL,aU,aY,uD⟩:_∧_∧_∧_∧_)
def ahA:=(⟨aK,aL,aU,aY,uD⟩:_∧_∧_∧_∧_)
def ahB:=(⟨aK,aL,aU,aY,uD⟩:_∧_∧_∧_∧_)
def nT:=(⟨aK,aL,aN,aU,cD,aP,dH⟩:_∧_∧_∧_∧_∧_∧_)
def xC:=(⟨aK,aL,aN,aU,cJ,aY,cD,aP,cE,aeJ,amm,aeK,aab,aac,amt⟩:_∧_∧_∧_∧_∧_∧_∧_∧_∧_∧_∧_∧_∧_∧_)
def amL:=(⟨aK,aL,aN,aY,cN,aP,iQ⟩:_∧_∧_∧_∧_∧_∧_)
def uH:=(⟨aK,aL,aN,aU,aY,cD,eK,aP,dH,abY,cE,aad,aae⟩:_∧_∧_∧_∧_∧_∧_∧_∧_∧_∧_∧_∧_)
def yK:=(⟨aK,aL,aN,cD,aP,dH,aad,aae⟩:_∧_∧_∧_∧_∧_∧_∧_)
def as7:=(⟨aK,aL,aN,aP⟩:_∧_∧_∧_)
def aaT:=(⟨aK,aL,aU,aY,cD,eK⟩:_∧_∧_∧_∧_∧_)
def ae6:=(⟨aK,aN,cN,aP,aeR⟩:_∧_∧_∧_∧_)
def ayG:=(⟨aK,aL,aN⟩:_∧_∧_)
def as8:=(⟨aK,aN,aY,rN⟩:_∧_∧_∧_)
def ayH:=(⟨aN,aY,rN⟩:_∧_∧_)
theorem ayI:(type_of% aN):=aN
def amM:=(⟨aK,aL,aN,cN,aP⟩:_∧_∧_∧_∧_)
def ae7:=(⟨aK,aL,aN,aP,ab4⟩:_∧_∧_∧_∧_)
def adn:=(⟨aK,aL,aU,eD⟩:_∧_∧_∧_)
def ayJ:=(⟨rM,aeP,amq,amu,amv⟩:_∧_∧_∧_∧_)
def ayK:=(⟨aK,aL⟩:_∧_)
def ae8:=(⟨aK,aL,aN,cN,aP⟩:_∧_∧_∧_∧_)
def as9:=(⟨aK,aL,aN,aY,cN,aP,lL⟩:_∧_∧_∧_∧_∧_∧_)
def ata:=(⟨aK,aN,aP⟩:_∧_∧_)
def amN:=(⟨aK,aL,aN,aY,cN,aP,iQ⟩:_∧_∧_∧_∧_∧_∧_)
def ado:=(⟨aK,aL,aN,aY,cN,aP,rN⟩:_∧_∧_∧_∧_∧_∧_)
def aaU:=(⟨aK,aL,aN,aY,cN,aP⟩:_∧_∧_∧_∧_∧_)
def acb:=(⟨aK,aL,aU,aY⟩:_∧_∧_∧_)
def atb:=(⟨aK,aN,aP⟩:_∧_∧_)
def oU:=(⟨aK,aL,aN,aU,cD,aP,dH⟩:_∧_∧_∧_∧_∧_∧_)
def amO:=(⟨aK,aL,aN,aY,cN,aP⟩:_∧_∧_∧_∧_∧_)
def rR:=(⟨aK,aL,aN,aY,cN,aP,rN⟩:_∧_∧_∧_∧_∧_∧_)
def amP:=(⟨aK,aN,cN,aP⟩:_∧_∧_∧_)
def ayL:=(⟨aK,aL⟩:_∧_)
def ahC:=(⟨aK,aL,aN,aY,ab4,amw⟩:_∧_∧_∧_∧_∧_)
def ayM:=(⟨aL,aN,rM⟩:_∧_∧_)
def amQ:=(⟨aK,aL,aN,aY,cN,aP,rN⟩:_∧_∧_∧_∧_∧_∧_)
def ahD:=(⟨aK,aL,aN,aY,cN,aP⟩:_∧_∧_∧_∧_∧_)
def atc:=(⟨aK,aL,aN,cN,aP⟩:_∧_∧_∧_∧_)
def ae9:=(⟨aK,aL,aN,cN,aP⟩:_∧_∧_∧_∧_)
def ayN:=(⟨aL,aN,aY,rN⟩:_∧_∧_∧_)
def adp:=(⟨aK,aL,aN,aP⟩:_∧_∧_∧_)
def afa:=(⟨aK,aL,aU,cD⟩:_∧_∧_∧_)
def amR:=(⟨aK,aN,aP⟩:_∧_∧_)
def amS:=(⟨aK,aN,aP⟩:_∧_∧_)
def atd:=(⟨aL,aN,cN,aP⟩:_∧_∧_∧_)
def ate:=(⟨aL,aN,aP⟩:_∧_∧_)
def amT:=(⟨aK,aL,aN,ab4⟩:_∧_∧_∧_)
def ayO:=(⟨aN,rM⟩:_∧_)
def ahE:=(⟨aK,aL,aN,aY⟩:_∧_∧_∧_)
def ahF:=(⟨aK,aL,aN,aY,aP,rN⟩:_∧_∧_∧_∧_∧_)
def afb:=(⟨aK,aL,aN,rM,aeP⟩:_∧_∧_∧_∧_)
end Go.Proofs.YtaekhhlgnbhnpaaGreat
set_option linter.unusedVariables false
set_option linter.unusedSimpArgs false
set_option maxRecDepth 10000
namespace Go.Proofs.YtaekhhlgnbhnpaaGreat
open Go Go.Tw Go.Proofs
def aD:Nat→Bool:=fun _=>true
abbrev aC (k r c w:Int):AV := .agg [aB k,aB r,aB c,aB w]
def bG (k r c w:Int):Bool:=decide (1≤k∧k≤12∧0≤r∧r≤4∧8≤c∧c≤64∧8≤w∧w≤256∧32≤k*c)
theorem gB {n:Int} (h : -9223372036854775808≤n) (a:n≤9223372036854775807):azy.wrap n=n:=by
 simp only [IntKind.wrap,IntKind.bits,IntKind.signed];simp;split <;> omega
theorem adq {k c:Int} (f:1≤k) (d:k≤12) (g:8≤c) (e:c≤64):8≤k*c∧k*c≤768:=by
 have a:1*8≤k*c:=aA4 f g (by omega) (by omega);have b:k*c≤12*64:=aA4 d e (by omega) (by omega);omega
theorem kW {k r c w:Int}:bG k r c w=true↔(1≤k∧k≤12∧0≤r∧r≤4∧8≤c∧c≤64∧8≤w∧w≤256∧32≤k*c):=by simp [bG]
theorem kJ {k r c w:Int} (h:bG k r c w=true):32≤k*c∧k*c≤768:=by
 rw [kW] at h;have:=adq h.1 h.2.1 h.2.2.2.2.1 h.2.2.2.2.2.1;omega
def wI (k c:Int):Int:=k*c
def dI (k c:Int):Int:=(k*c - 7) / 6
def lI (k c:Int):Int:=k*c / 6
def mI (k c:Int):Int:=min 32768 (dI k c*lI k c*(k*c))
theorem aaj (k r c w:Int):aQ ayU 119 [aC k r c w] ⟨aB (if bG k r c w then 0 else 2),[]⟩:=by
 refine aV Tryz.func119 aD (h:=?_);unfold Tryz.f119;by_cases a:1≤k∧k≤12∧8≤c∧c≤64
 ·have b:azy.wrap (k*c)=k*c:=gB (by have:=adq a.1 a.2.1 a.2.2.1 a.2.2.2;omega) (by have:=adq a.1 a.2.1 a.2.2.1 a.2.2.2;omega);replace a:=aA.mk a;simp only [↓pre,simprocAttr,aC,sx,aeV,aD];repeat' ((first | refine pW (fun _ => ?_) (fun _ => ?_) | refine pY (fun _ => ?_) (fun _ => ?_) | refine pX (fun _ => ?_) (fun _ => ?_) | refine pZ (fun _ => ?_) (fun _ => ?_) | refine nO (fun _ => ?_) (fun _ => ?_) | refine lK (fun _ => ?_) (fun _ => ?_)) <;> simp only [↓pre,simprocAttr,sx,aeV,aD, *])
  all_goals skip
  all_goals have a:=a.out
  all_goals (first | (exfalso;omega) | (rw [if_neg (by rw [kW];omega)];done) | (rw [if_pos (by rw [kW];omega)];done))
 ·replace a:=aA.mk a;simp only [↓pre,simprocAttr,aC,sx,aeV,aD];repeat' ((first | refine pW (fun _ => ?_) (fun _ => ?_) | refine pY (fun _ => ?_) (fun _ => ?_) | refine pX (fun _ => ?_) (fun _ => ?_) | refine pZ (fun _ => ?_) (fun _ => ?_) | refine nO (fun _ => ?_) (fun _ => ?_) | refine lK (fun _ => ?_) (fun _ => ?_)) <;> simp only [↓pre,simprocAttr,sx,aeV,aD, *])
  all_goals skip
  all_goals have a:=a.out
  all_goals (first | (exfalso;omega) | (rw [if_neg (by rw [kW];omega)];done))
theorem adr (k r c w:Int):aQ ayU 97 [aC k r c w] ⟨aZ (bG k r c w),[]⟩:=by
 refine aV Tryz.func97 aD (h:=?_);unfold Tryz.f97;by_cases a:1≤k∧k≤12∧8≤c∧c≤64
 ·have b:azy.wrap (k*c)=k*c:=gB (by have:=adq a.1 a.2.1 a.2.2.1 a.2.2.2;omega) (by have:=adq a.1 a.2.1 a.2.2.1 a.2.2.2;omega);replace a:=aA.mk a;simp only [↓pre,simprocAttr,aC,sx,aeT,aD];repeat' ((first | refine pW (fun _ => ?_) (fun _ => ?_) | refine pY (fun _ => ?_) (fun _ => ?_) | refine pX (fun _ => ?_) (fun _ => ?_) | refine pZ (fun _ => ?_) (fun _ => ?_) | refine nO (fun _ => ?_) (fun _ => ?_) | refine lK (fun _ => ?_) (fun _ => ?_)) <;> simp only [↓pre,simprocAttr,sx,aeT,aD, *])
  all_goals refine ac8 ?_
  all_goals simp only [decide_eq_true_eq,kW,reduceCtorEq,false_iff]
  all_goals have a:=a.out
  all_goals omega
 ·replace a:=aA.mk a;simp only [↓pre,simprocAttr,aC,sx,aeT,aD];repeat' ((first | refine pW (fun _ => ?_) (fun _ => ?_) | refine pY (fun _ => ?_) (fun _ => ?_) | refine pX (fun _ => ?_) (fun _ => ?_) | refine pZ (fun _ => ?_) (fun _ => ?_) | refine nO (fun _ => ?_) (fun _ => ?_) | refine lK (fun _ => ?_) (fun _ => ?_)) <;> simp only [↓pre,simprocAttr,sx,aeT,aD, *])
  all_goals refine ac8 ?_
  all_goals simp only [decide_eq_true_eq,kW,reduceCtorEq,false_iff]
  all_goals have a:=a.out
  all_goals omega
theorem yL (k r c w:Int) (h:bG k r c w=true):aQ ayU 222 [aC k r c w] ⟨aB (wI k c),[]⟩:=by
 refine aV Tryz.func222 aD (h:=?_);unfold Tryz.f222;have a:azy.wrap (k*c)=k*c:=gB (by have:=kJ h;omega) (by have:=kJ h;omega);simp only [↓pre,simprocAttr,aC,sx,as1,a,aD,wI]
theorem acd {a b:Int} (h:0≤a):a.tdiv b=a / b:=Int.tdiv_eq_ediv_of_nonneg h
theorem ads {x:Int} (h:32≤x) (a:x≤768):4≤(x - 7) / 6∧(x - 7) / 6≤126:=by omega
theorem adt {x:Int} (h:32≤x) (a:x≤768):5≤x / 6∧x / 6≤128:=by omega
theorem amU {x:Int} (h:32≤x) (e:x≤768):20≤(x - 7) / 6*(x / 6)∧(x - 7) / 6*(x / 6)≤16128∧640≤(x - 7) / 6*(x / 6)*x∧(x - 7) / 6*(x / 6)*x≤12386304:=by
 have g:=ads h e;have f:=adt h e;have a:4*5≤(x - 7) / 6*(x / 6):=aA4 g.1 f.1 (by omega) (by omega);have b:(x - 7) / 6*(x / 6)≤126*128:=aA4 g.2 f.2 (by omega) (by omega);have c:20*32≤(x - 7) / 6*(x / 6)*x:=aA4 (by omega) h (by omega) (by omega);have d:(x - 7) / 6*(x / 6)*x≤16128*768:=aA4 (by omega) e (by omega) (by omega);omega
theorem afc (k r c w:Int) (h:bG k r c w=true):aQ ayU 223 [aC k r c w] ⟨aB (dI k c),[]⟩:=by
 refine aV Tryz.func223 aD (h:=?_);unfold Tryz.f223;have a:=kJ h;simp only [↓pre,simprocAttr,aC,sx,as2,aD]
 (first | refine aI (yL _ _ _ _ h) rfl ?_ | refine aH (yL _ _ _ _ h) rfl (by intro k;first | rfl | simp only [ *,zaa]) ?_)
 simp only [↓pre,simprocAttr,sx,aD,wI,gB (show -9223372036854775808≤k*c - 7 by omega) (by omega),acd (show 0≤k*c - 7 by omega),gB (show -9223372036854775808≤(k*c - 7) / 6 by omega) (by omega),dI]
theorem afd (k r c w:Int) (h:bG k r c w=true):aQ ayU 216 [aC k r c w] ⟨aB (lI k c),[]⟩:=by
 refine aV Tryz.func216 aD (h:=?_);unfold Tryz.f216;have a:=kJ h;simp only [↓pre,simprocAttr,aC,sx,as0,aD]
 (first | refine aI (yL _ _ _ _ h) rfl ?_ | refine aH (yL _ _ _ _ h) rfl (by intro k;first | rfl | simp only [ *,zaa]) ?_)
 simp only [↓pre,simprocAttr,sx,aD,wI,acd (show 0≤k*c by omega),gB (show -9223372036854775808≤(k*c) / 6 by omega) (by omega),lI]
theorem atf (k c:Int):min (dI k c*lI k c*wI k c) 32768=mI k c:=by unfold mI wI;omega
theorem amV {k r c w:Int} (h:bG k r c w=true):azy.wrap (dI k c*lI k c)=dI k c*lI k c:=by
 have a:=kJ h;have:=amU a.1 a.2;unfold dI lI;exact gB (by omega) (by omega)
theorem amW {k r c w:Int} (h:bG k r c w=true):azy.wrap (dI k c*lI k c*wI k c)=dI k c*lI k c*wI k c:=by
 have a:=kJ h;have:=amU a.1 a.2;unfold dI lI wI;exact gB (by omega) (by omega)
theorem amX (k r c w:Int) (h:bG k r c w=true):aQ ayU 184 [aC k r c w] ⟨aB (mI k c),[]⟩:=by
 refine aV Tryz.func184 aD (h:=?_);unfold Tryz.f184;simp only [↓pre,simprocAttr,aC,sx,ahr,aD]
 (first | refine aI (afc _ _ _ _ h) rfl ?_ | refine aH (afc _ _ _ _ h) rfl (by intro k;first | rfl | simp only [ *,zaa]) ?_)
 simp only [↓pre,simprocAttr,sx,ahr,aD]
 (first | refine aI (afd _ _ _ _ h) rfl ?_ | refine aH (afd _ _ _ _ h) rfl (by intro k;first | rfl | simp only [ *,zaa]) ?_)
 simp only [↓pre,simprocAttr,sx,ahr,aD]
 (first | refine aI (yL _ _ _ _ h) rfl ?_ | refine aH (yL _ _ _ _ h) rfl (by intro k;first | rfl | simp only [ *,zaa]) ?_)
 simp only [↓pre,simprocAttr,sx,aD,amV h,amW h,atf]
def iC (a b:Int):Int:=(a+b - 1) / b
theorem afe (a b:Int) (l:0≤a) (i:a≤1000000) (m:1≤b) (f:b≤1000000):aQ ayU 221 [aB a,aB b] ⟨aB (iC a b),[]⟩:=by
 refine aV Tryz.func221 aD (h:=?_);unfold Tryz.f221;have g:azy.wrap (b - 1)=b - 1:=gB (by omega) (by omega);have e:azy.wrap (a+(b - 1))=a+(b - 1):=gB (by omega) (by omega);have d:(a+(b - 1)).tdiv b=iC a b:=by rw [acd (by omega)];unfold iC;congr 1;omega
 have k:0≤iC a b:=by unfold iC;exact aA5 (by omega) (by omega)
 have n:iC a b≤2000000:=by unfold iC;exact Int.le_trans (Int.ediv_le_self _ (by omega)) (by omega)
 have j:azy.wrap (iC a b)=iC a b:=gB (by omega) (by omega);have c:b≠0:=by omega
 simp only [↓pre,simprocAttr,sx,aD,g,e,d,j,c]
theorem aff (a b:Int) (l:0≤a) (i:a≤1000000) (m:1≤b) (f:b≤1000000):aQ ayU 246 [aB a,aB b] ⟨aB (iC a b),[]⟩:=by
 refine aV Tryz.func246 aD (h:=?_);unfold Tryz.f246;have e:azy.wrap (a+b)=a+b:=gB (by omega) (by omega);have g:azy.wrap (a+b - 1)=a+b - 1:=gB (by omega) (by omega);have d:(a+b - 1).tdiv b=iC a b:=by rw [acd (by omega)];unfold iC;rfl
 have k:0≤iC a b:=by unfold iC;exact aA5 (by omega) (by omega)
 have n:iC a b≤2000000:=by unfold iC;exact Int.le_trans (Int.ediv_le_self _ (by omega)) (by omega)
 have j:azy.wrap (iC a b)=iC a b:=gB (by omega) (by omega);have c:b≠0:=by omega
 simp only [↓pre,simprocAttr,sx,aD,g,e,d,j,c]
theorem xD (k r c w:Int) (h:bG k r c w=true):aQ ayU 187 [aC k r c w] ⟨aB (wI k c),[]⟩:=by
 refine aV Tryz.func187 aD (h:=?_);unfold Tryz.f187;have a:azy.wrap (k*c)=k*c:=gB (by have:=kJ h;omega) (by have:=kJ h;omega);simp only [↓pre,simprocAttr,aC,sx,asW,a,aD,wI]
theorem adu (k r c w:Int) (h:bG k r c w=true):aQ ayU 185 [aC k r c w] ⟨aB (dI k c),[]⟩:=by
 refine aV Tryz.func185 aD (h:=?_);unfold Tryz.f185;have a:=kJ h;simp only [↓pre,simprocAttr,aC,sx,asU,aD]
 (first | refine aI (xD _ _ _ _ h) rfl ?_ | refine aH (xD _ _ _ _ h) rfl (by intro k;first | rfl | simp only [ *,zaa]) ?_)
 simp only [↓pre,simprocAttr,sx,aD,wI,gB (show -9223372036854775808≤k*c - 7 by omega) (by omega),acd (show 0≤k*c - 7 by omega),gB (show -9223372036854775808≤(k*c - 7) / 6 by omega) (by omega),dI]
theorem afg (k r c w:Int) (h:bG k r c w=true):aQ ayU 186 [aC k r c w] ⟨aB (lI k c),[]⟩:=by
 refine aV Tryz.func186 aD (h:=?_);unfold Tryz.f186;have a:=kJ h;simp only [↓pre,simprocAttr,aC,sx,asV,aD]
 (first | refine aI (xD _ _ _ _ h) rfl ?_ | refine aH (xD _ _ _ _ h) rfl (by intro k;first | rfl | simp only [ *,zaa]) ?_)
 simp only [↓pre,simprocAttr,sx,aD,wI,acd (show 0≤k*c by omega),gB (show -9223372036854775808≤(k*c) / 6 by omega) (by omega),lI]
theorem atg (k c:Int):min 32768 (dI k c*lI k c*wI k c)=mI k c:=by unfold mI wI;omega
theorem amY (k r c w:Int) (h:bG k r c w=true):aQ ayU 106 [aC k r c w] ⟨aB (mI k c),[]⟩:=by
 refine aV Tryz.func106 aD (h:=?_);unfold Tryz.f106;simp only [↓pre,simprocAttr,aC,sx,ahn,aD]
 (first | refine aI (adu _ _ _ _ h) rfl ?_ | refine aH (adu _ _ _ _ h) rfl (by intro k;first | rfl | simp only [ *,zaa]) ?_)
 simp only [↓pre,simprocAttr,sx,ahn,aD]
 (first | refine aI (afg _ _ _ _ h) rfl ?_ | refine aH (afg _ _ _ _ h) rfl (by intro k;first | rfl | simp only [ *,zaa]) ?_)
 simp only [↓pre,simprocAttr,sx,ahn,aD]
 (first | refine aI (xD _ _ _ _ h) rfl ?_ | refine aH (xD _ _ _ _ h) rfl (by intro k;first | rfl | simp only [ *,zaa]) ?_)
 simp only [↓pre,simprocAttr,sx,aD,amV h,amW h,atg]
def sI (k c n:Int):Int:=iC n (wI k c)
def fI (k c n:Int):Int:=if sI k c n≤dI k c then 0 else iC (sI k c n) (lI k c)
theorem ahG {a b:Int} (e:0≤a) (d:a≤32768) (f:1≤b) (c:b≤1000):0≤iC a b∧iC a b≤33768:=by
 unfold iC;exact ⟨aA5 (by omega) (by omega),Int.le_trans (Int.ediv_le_self _ (by omega)) (by omega)⟩
theorem afh (k c:Int):mI k c≤32768:=by unfold mI;omega
theorem ahH (k r c w n:Int) (h:bG k r c w=true) (e:0≤n) (i:n≤mI k c):aQ ayU 188 [aC k r c w,aB n] ⟨.tup [aB (sI k c n),aB (fI k c n)],[]⟩:=by
 refine aV Tryz.func188 aD (h:=?_);unfold Tryz.f188;have f:=kJ h;have:=afh k c;have g:=adt f.1 f.2;have hs:=ahG (a:=n) (b:=wI k c) e (by omega) (by unfold wI;omega) (by unfold wI;omega);simp only [↓pre,simprocAttr,aC,sx,ahs,aD]
 (first | refine aI (xD _ _ _ _ h) rfl ?_ | refine aH (xD _ _ _ _ h) rfl (by intro k;first | rfl | simp only [ *,zaa]) ?_)
 simp only [↓pre,simprocAttr,sx,aD]
 (first | refine aI (aff _ _ e (by omega) (by unfold wI;omega) (by unfold wI;omega)) rfl ?_ | refine aH (aff _ _ e (by omega) (by unfold wI;omega) (by unfold wI;omega)) rfl (by intro k;first | rfl | simp only [ *,zaa]) ?_)
 simp only [↓pre,simprocAttr,sx,ahs,aD]
 (first | refine aI (adu _ _ _ _ h) rfl ?_ | refine aH (adu _ _ _ _ h) rfl (by intro k;first | rfl | simp only [ *,zaa]) ?_)
 simp only [↓pre,simprocAttr,sx,aD];refine lK (fun d => ?_) (fun d => ?_)
 ·simp only [↓pre,simprocAttr,sx,fI,sI,of_decide_eq_true d]
 ·have d:=of_decide_eq_false d;simp only [↓pre,simprocAttr,sx,ahs,aD]
  (first | refine aI (afg _ _ _ _ h) rfl ?_ | refine aH (afg _ _ _ _ h) rfl (by intro k;first | rfl | simp only [ *,zaa]) ?_)
  simp only [↓pre,simprocAttr,sx,aD]
  (first | refine aI (aff _ _ hs.1 (by omega) (by unfold lI;omega) (by unfold lI;omega)) rfl ?_ | refine aH (aff _ _ hs.1 (by omega) (by unfold lI;omega) (by unfold lI;omega)) rfl (by intro k;first | rfl | simp only [ *,zaa]) ?_)
  simp only [↓pre,simprocAttr,sx,fI,sI,d]
theorem ahI (k r c w n:Int) (g:FuncId) (a:bG k r c w=true→aQ ayU g [aC k r c w] ⟨aB n,[]⟩):aQ ayU 183 [aC k r c w,.clo g []] ⟨.tup [aB (if bG k r c w then n else 0),aB (if bG k r c w then 0 else 2)],[]⟩:=by
 refine aV Tryz.func183 aD (h:=?_);unfold Tryz.f183;cases h:bG k r c w with
 | false=>simp only [↓pre,simprocAttr,aC,sx,ahq,aD];repeat' ((first | refine pW (fun _ => ?_) (fun _ => ?_) | refine pY (fun _ => ?_) (fun _ => ?_) | refine pX (fun _ => ?_) (fun _ => ?_) | refine pZ (fun _ => ?_) (fun _ => ?_) | refine nO (fun _ => ?_) (fun _ => ?_) | refine lK (fun _ => ?_) (fun _ => ?_) | refine aI (aaj _ _ _ _) (by first | rfl | simp only [aC,aE, *]) ?_ | refine aH (aaj _ _ _ _) (by first | rfl | simp only [aC,aE, *]) (by intro k;first | rfl | simp only [ *,zaa]) ?_) <;> simp only [↓pre,simprocAttr,sx,aD, *])
 | true=>simp only [↓pre,simprocAttr,aC,sx,ahq,aD];repeat' ((first | refine pW (fun _ => ?_) (fun _ => ?_) | refine pY (fun _ => ?_) (fun _ => ?_) | refine pX (fun _ => ?_) (fun _ => ?_) | refine pZ (fun _ => ?_) (fun _ => ?_) | refine nO (fun _ => ?_) (fun _ => ?_) | refine lK (fun _ => ?_) (fun _ => ?_) | refine aI (aaj _ _ _ _) (by first | rfl | simp only [aC,aE, *]) ?_ | refine aI (a h) (by first | rfl | simp only [aC,aE, *]) ?_ | refine aH (aaj _ _ _ _) (by first | rfl | simp only [aC,aE, *]) (by intro k;first | rfl | simp only [ *,zaa]) ?_ | refine aH (a h) (by first | rfl | simp only [aC,aE, *]) (by intro k;first | rfl | simp only [ *,zaa]) ?_) <;> simp only [↓pre,simprocAttr,sx,ahq,aD, *])
theorem fG {k r c w:Int} (h:bG k r c w=true):1≤k+r∧k+r≤16∧8≤c∧c≤64∧1≤k∧0≤r:=by
 rw [kW] at h;omega
theorem amZ (k r c w:Int) (h:bG k r c w=true):aQ ayU 241 [aC k r c w] ⟨aB (k+r),[]⟩:=by
 have a:=fG h;have w1:azy.wrap (k+r)=k+r:=gB (by omega) (by omega);refine aV Tryz.func241 aD (h:=?_);unfold Tryz.f241;simp only [↓pre,simprocAttr,aC,sx,as3,aD,w1]
theorem qB (k r c w:Int):aQ ayU 173 [aC k r c w] ⟨.tup [aB (if bG k r c w then k+r else 0),aB (if bG k r c w then 0 else 2)],[]⟩:=by
 refine aV Tryz.func173 aD (h:=?_);unfold Tryz.f173;simp only [↓pre,simprocAttr,aC,sx,asR,aD];repeat' ((first | refine pW (fun _ => ?_) (fun _ => ?_) | refine pY (fun _ => ?_) (fun _ => ?_) | refine pX (fun _ => ?_) (fun _ => ?_) | refine pZ (fun _ => ?_) (fun _ => ?_) | refine nO (fun _ => ?_) (fun _ => ?_) | refine lK (fun _ => ?_) (fun _ => ?_) | refine aI (ahI _ _ _ _ _ _ (amZ k r c w)) (by first | rfl | simp only [aC,aE, *]) ?_ | refine aH (ahI _ _ _ _ _ _ (amZ k r c w)) (by first | rfl | simp only [aC,aE, *]) (by intro k;first | rfl | simp only [ *,zaa]) ?_) <;> simp only [↓pre,simprocAttr,sx,aD, *])
def eE (k r c:Int):Int:=12+4*(k+r)+c
theorem rS (k r c w:Int):aQ ayU 170 [aC k r c w] ⟨.tup [aB (if bG k r c w then eE k r c else 0),aB (if bG k r c w then 0 else 2)],[]⟩:=by
 refine aV Tryz.func170 aD (h:=?_);unfold Tryz.f170;cases h:bG k r c w with
 | false=>simp only [↓pre,simprocAttr,aC,sx,ahp,aD];repeat' ((first | refine pW (fun _ => ?_) (fun _ => ?_) | refine pY (fun _ => ?_) (fun _ => ?_) | refine pX (fun _ => ?_) (fun _ => ?_) | refine pZ (fun _ => ?_) (fun _ => ?_) | refine nO (fun _ => ?_) (fun _ => ?_) | refine lK (fun _ => ?_) (fun _ => ?_) | refine aI (qB _ _ _ _) (by first | rfl | simp only [aC,aE, *]) ?_ | refine aH (qB _ _ _ _) (by first | rfl | simp only [aC,aE, *]) (by intro k;first | rfl | simp only [ *,zaa]) ?_) <;> simp only [↓pre,simprocAttr,sx,aD, *])
 | true =>
  have a:=fG h;have w1:azy.wrap (4*(k+r))=4*(k+r):=gB (by omega) (by omega);have b:azy.wrap (12+4*(k+r))=12+4*(k+r):=gB (by omega) (by omega);have d:azy.wrap (12+4*(k+r)+c)=12+4*(k+r)+c:=gB (by omega) (by omega);replace a:=aA.mk a;simp only [↓pre,simprocAttr,aC,sx,ahp,aD,eE];repeat' ((first | refine pW (fun _ => ?_) (fun _ => ?_) | refine pY (fun _ => ?_) (fun _ => ?_) | refine pX (fun _ => ?_) (fun _ => ?_) | refine pZ (fun _ => ?_) (fun _ => ?_) | refine nO (fun _ => ?_) (fun _ => ?_) | refine lK (fun _ => ?_) (fun _ => ?_) | refine aI (qB _ _ _ _) (by first | rfl | simp only [aC,aE, *]) ?_ | refine aH (qB _ _ _ _) (by first | rfl | simp only [aC,aE, *]) (by intro k;first | rfl | simp only [ *,zaa]) ?_) <;> simp only [↓pre,simprocAttr,sx,ahp,aD, *])
theorem vS (k r c w:Int) (h:bG k r c w=true):aQ ayU 98 [aC k r c w] ⟨aB (k+r),[]⟩:=by
 have a:=fG h;have w1:azy.wrap (k+r)=k+r:=gB (by omega) (by omega);refine aV Tryz.func98 aD (h:=?_);unfold Tryz.f98;simp only [↓pre,simprocAttr,aC,sx,asO,aD,w1]
theorem yM (k r c w:Int) (h:bG k r c w=true):aQ ayU 210 [aC k r c w] ⟨aB (eE k r c),[]⟩:=by
 have d:=fG h;have w1:azy.wrap (4*(k+r))=4*(k+r):=gB (by omega) (by omega);have a:azy.wrap (12+4*(k+r))=12+4*(k+r):=gB (by omega) (by omega);have b:azy.wrap (12+4*(k+r)+c)=12+4*(k+r)+c:=gB (by omega) (by omega);refine aV Tryz.func210 aD (h:=?_);unfold Tryz.f210;simp only [↓pre,simprocAttr,aC,sx,amH,aD]
 (first | refine aI (vS _ _ _ _ h) (by first | rfl | simp only [aC,aE, *]) ?_ | refine aH (vS _ _ _ _ h) (by first | rfl | simp only [aC,aE, *]) (by intro k;first | rfl | simp only [ *,zaa]) ?_);simp only [↓pre,simprocAttr,sx,amH,aD,w1,a,b,eE]
def eL (n:Int):Bool:=decide (1≤n∧n≤1073741824)
theorem ahJ (n:Int):aQ ayU 252 [aB n] ⟨aZ (eL n),[]⟩:=by
 refine aV Tryz.func252 aD (h:=?_);unfold Tryz.f252;simp only [↓pre,simprocAttr,sx,aD,aZ];repeat' ((first | refine pW (fun _ => ?_) (fun _ => ?_) | refine pY (fun _ => ?_) (fun _ => ?_) | refine pX (fun _ => ?_) (fun _ => ?_) | refine pZ (fun _ => ?_) (fun _ => ?_) | refine nO (fun _ => ?_) (fun _ => ?_) | refine lK (fun _ => ?_) (fun _ => ?_)) <;> simp only [↓pre,simprocAttr,sx,aD, *])
 all_goals refine ac8 ?_
 all_goals simp [eL]
 all_goals omega
theorem ath (n:Int):aQ ayU 328 [aB n] ⟨aZ (!eL n),[]⟩:=by
 refine aV Tryz.func328 aD (h:=?_);unfold Tryz.f328;simp only [↓pre,simprocAttr,sx,aD,aZ]
 (first | refine aI (ahJ n) (by first | rfl | simp only [aC,aE, *]) ?_ | refine aH (ahJ n) (by first | rfl | simp only [aC,aE, *]) (by intro k;first | rfl | simp only [ *,zaa]) ?_);simp only [↓pre,simprocAttr,sx,aD,aZ]
theorem am0 (n:Int):aQ ayU 113 [aB n] ⟨aZ (eL n),[]⟩:=by
 refine aV Tryz.func113 aD (h:=?_);unfold Tryz.f113;simp only [↓pre,simprocAttr,sx,aD,aZ];repeat' ((first | refine pW (fun _ => ?_) (fun _ => ?_) | refine pY (fun _ => ?_) (fun _ => ?_) | refine pX (fun _ => ?_) (fun _ => ?_) | refine pZ (fun _ => ?_) (fun _ => ?_) | refine nO (fun _ => ?_) (fun _ => ?_) | refine lK (fun _ => ?_) (fun _ => ?_)) <;> simp only [↓pre,simprocAttr,sx,aD, *])
 all_goals refine ac8 ?_
 all_goals simp [eL]
 all_goals omega
def oE (k r c w n:Int):Int:=if bG k r c w=true then (if n < 0 then 2 else if mI k c < n then 3 else 0) else 2
def oS (k r c w n:Int):Int:=if oE k r c w n=0 then sI k c n else 0
def oF (k r c w n:Int):Int:=if oE k r c w n=0 then fI k c n else 0
theorem adv (k r c w n:Int):aQ ayU 140 [aC k r c w,aB n] ⟨.tup [aB (oS k r c w n),aB (oF k r c w n),aB (oE k r c w n)],[]⟩:=by
 refine aV Tryz.func140 aD (h:=?_);unfold Tryz.f140;simp only [↓pre,simprocAttr,aC,sx,adg,aD]
 (first | refine aI (aaj _ _ _ _) rfl ?_ | refine aH (aaj _ _ _ _) rfl (by intro k;first | rfl | simp only [ *,zaa]) ?_)
 cases h:bG k r c w with
 | false=>simp only [↓pre,simprocAttr,sx,aD,h,oS,oF,oE]
 | true =>
  have g:=kJ h;have l:=ads g.1 g.2;have j:=adt g.1 g.2;have i:=afh k c;simp only [↓pre,simprocAttr,sx,aD];refine lK (fun e => ?_) (fun e => ?_)
  ·have e:=of_decide_eq_true e;simp only [↓pre,simprocAttr,sx,h,oS,oF,oE,e]
  ·have e:=of_decide_eq_false e;simp only [↓pre,simprocAttr,sx,adg,aD,oS,oF,oE,h,e]
   (first | refine aI (amX _ _ _ _ h) rfl ?_ | refine aH (amX _ _ _ _ h) rfl (by intro k;first | rfl | simp only [ *,zaa]) ?_)
   simp only [↓pre,simprocAttr,sx,aD];refine lK (fun d => ?_) (fun d => ?_)
   ·have d:=of_decide_eq_true d;simp only [↓pre,simprocAttr,sx,d]
   ·have d:=of_decide_eq_false d;simp only [↓pre,simprocAttr,sx,adg,aD]
    (first | refine aI (yL _ _ _ _ h) rfl ?_ | refine aH (yL _ _ _ _ h) rfl (by intro k;first | rfl | simp only [ *,zaa]) ?_)
    simp only [↓pre,simprocAttr,sx,aD]
    (first | refine aI (afe _ _ (by omega) (by omega) (by unfold wI;omega) (by unfold wI;omega)) rfl ?_ | refine aH (afe _ _ (by omega) (by omega) (by unfold wI;omega) (by unfold wI;omega)) rfl (by intro k;first | rfl | simp only [ *,zaa]) ?_)
    simp only [↓pre,simprocAttr,sx,adg,aD]
    (first | refine aI (afc _ _ _ _ h) rfl ?_ | refine aH (afc _ _ _ _ h) rfl (by intro k;first | rfl | simp only [ *,zaa]) ?_)
    simp only [↓pre,simprocAttr,sx,aD];have hs:=ahG (a:=n) (b:=wI k c) (by omega) (by omega) (by unfold wI;omega) (by unfold wI;omega);refine lK (fun f => ?_) (fun f => ?_)
    ·have f:=of_decide_eq_true f;simp only [↓pre,simprocAttr,sx,adg,aD]
     (first | refine aI (afd _ _ _ _ h) rfl ?_ | refine aH (afd _ _ _ _ h) rfl (by intro k;first | rfl | simp only [ *,zaa]) ?_)
     simp only [↓pre,simprocAttr,sx,aD]
     (first | refine aI (afe _ _ hs.1 (by omega) (by unfold lI;omega) (by unfold lI;omega)) rfl ?_ | refine aH (afe _ _ hs.1 (by omega) (by unfold lI;omega) (by unfold lI;omega)) rfl (by intro k;first | rfl | simp only [ *,zaa]) ?_)
     simp only [↓pre,simprocAttr,sx,d,fI,sI,show ¬ iC n (wI k c)≤dI k c by omega]
    ·have f:=of_decide_eq_false f;simp only [↓pre,simprocAttr,sx,d,fI,sI,show iC n (wI k c)≤dI k c by omega]
theorem ati (k r c w n:Int):aQ ayU 67 [aC k r c w,aB n] ⟨.tup [aB (oS k r c w n),aB (oE k r c w n)],[]⟩:=by
 refine aV Tryz.func67 aD (h:=?_);unfold Tryz.f67;simp only [↓pre,simprocAttr,aC,sx,asK,aD]
 (first | refine aI (adv _ _ _ _ _) rfl ?_ | refine aH (adv _ _ _ _ _) rfl (by intro k;first | rfl | simp only [ *,zaa]) ?_)
 simp only [↓pre,simprocAttr,sx,aD]
theorem atj (k r c w n:Int):aQ ayU 68 [aC k r c w,aB n] ⟨.tup [aB (oF k r c w n),aB (oE k r c w n)],[]⟩:=by
 refine aV Tryz.func68 aD (h:=?_);unfold Tryz.f68;simp only [↓pre,simprocAttr,aC,sx,asL,aD]
 (first | refine aI (adv _ _ _ _ _) rfl ?_ | refine aH (adv _ _ _ _ _) rfl (by intro k;first | rfl | simp only [ *,zaa]) ?_)
 simp only [↓pre,simprocAttr,sx,aD]
theorem atk (k r c w n:Int):aQ ayU 250 [aC k r c w,aB n] ⟨.tup [aB (min (oF k r c w n) 1),aB (oE k r c w n)],[]⟩:=by
 have a:=adv k r c w n;refine aV Tryz.func250 aD (h:=?_);unfold Tryz.f250;simp only [↓pre,simprocAttr,aC,sx,as5,aD]
 (first | refine aI (a) (by first | rfl | simp only [aC,aE, *]) ?_ | refine aH (a) (by first | rfl | simp only [aC,aE, *]) (by intro k;first | rfl | simp only [ *,zaa]) ?_);simp only [↓pre,simprocAttr,sx,aD]
theorem am1 (k r c w:Int):aQ ayU 182 [aC k r c w] ⟨.tup [aB (if bG k r c w then wI k c else 0),aB (if bG k r c w then 0 else 2)],[]⟩:=by
 have a:=ahI k r c w (wI k c) 222 (fun h=>yL k r c w h);refine aV Tryz.func182 aD (h:=?_);unfold Tryz.f182;simp only [↓pre,simprocAttr,aC,sx,asT,aD]
 (first | refine aI (a) (by first | rfl | simp only [aC,aE, *]) ?_ | refine aH (a) (by first | rfl | simp only [aC,aE, *]) (by intro k;first | rfl | simp only [ *,zaa]) ?_);simp only [↓pre,simprocAttr,sx,aD]
def bJ (l:List Int):List AV:=l.map aB
theorem nU {l:List Int} {x:List AV} {i:Nat} {n:Int} (h:l[i]? = some n):(bJ l++x)[i]? = some (.val (.int .i64 n)):=by
 have hi:=(ay8.1 h).1;rw [azg (by simpa [bJ] using hi)];simp [bJ,h,aB]
def aaV (p:Int→Bool) (l:List Int):Int:=match l.findIdx? p with
 | some i=>(i:Nat)
 | none => -1
theorem atl {p:Int→Bool} {l:List Int} {i:Nat} {n:Int} (h:l[i]? = some n) (d:p n=true) (e:∀ (j:Nat) (m:Int),j < i→l[j]? = some m→p m=false):aaV p l=(i:Nat):=by
 obtain ⟨a,b⟩:=(ay8.1 h)
 have:l.findIdx? p=some i:=by
  rw [aA6];refine ⟨a,by rw [b];exact d,fun j c => ?_⟩;simpa using e j _ c (azm (Nat.lt_trans c a))
 rw [aaV,this]
theorem atm {p:Int→Bool} {l:List Int} (a:∀ (j:Nat) (m:Int),l[j]? = some m→p m=false):aaV p l = -1:=by
 have:l.findIdx? p=none:=by
  rw [aA7];intro m b;obtain ⟨j,c,rfl⟩:=List.getElem_of_mem b;exact a j _ (azm c)
 rw [aaV,this]
theorem atn (p:Int→Bool) (l:List Int):decide (0≤aaV p l)=l.any p:=by
 unfold aaV;cases h:l.findIdx? p with
 | none =>
  rw [aA7] at h;have:l.any p=false:=by rw [List.any_eq_false];intro m b;rw [h m b];decide
  rw [this];rfl
 | some i =>
  obtain ⟨hi,a,_⟩:=aA6.1 h;have:l.any p=true:=aA8.2 ⟨_,List.getElem_mem hi,a⟩;rw [this];simp
theorem ato (v:AV) (l:List Int) (x:List AV) (g:FuncId) (c:List AV) (p:Int→Bool) (B:aT v l.length (bJ l++x)) (H:l.length≤1000000000000) (s:cP c=true) (G:∀ n∈l,aQ ayU g (aB n::c) ⟨aZ (p n),[]⟩):aQ ayU 242 [v,.clo g c] ⟨aB (aaV p l),[]⟩:=by
 refine aV Tryz.func242 aD (h:=?_);unfold Tryz.f242;have E:=B.plain;simp only [↓pre,simprocAttr,sx,amJ,aD,aG,B.len'];rw [bS];refine bU (fun n e m=>∃ i,n+i=l.length∧e 0=v∧e 1 = .clo g c∧e 7=aB (l.length:Nat)∧e 8=aB (i:Nat)∧∀ (j:Nat) (m:Int),j < i→l[j]? = some m→p m=false) l.length ⟨0,by omega, ?_⟩ ?_
 ·simp [bC.set,rH,aB]
 ·rintro n e m ⟨i,hi,C,D,y,A,b⟩;replace b:=aA.mk b;by_cases q:i < l.length
  ·have f:(i:Int) < (l.length:Nat):=by omega
   obtain ⟨a,o⟩:∃ a,l[i]? = some a:=⟨_,azm q⟩
   have F:=nU (x:=x) o;have w1:=cB (n:=i) (by omega);have d:=G a (az8 o);replace o:=aA.mk o;simp only [↓pre,simprocAttr,sx,amJ,aD,aG,C,D,y,A,f,B.addr',q,azG,F];cases r:p a with
   | true =>
    have z:=atl o.out r b.out;rw [r] at d
    (first | refine aI d (by simp only [cP,plain,s,aAx]) ?_ | refine aH d (by simp only [cP,plain,aB,s,aAI,aAx]) (by intro k;first | rfl | simp only [ *,zaa]) ?_)
    simp only [↓pre,simprocAttr,sx,aZ,z]
   | false =>
    rw [r] at d
    (first | refine aI d (by simp only [cP,plain,s,aAx]) ?_ | refine aH d (by simp only [cP,plain,aB,s,aAI,aAx]) (by intro k;first | rfl | simp only [ *,zaa]) ?_)
    simp only [↓pre,simprocAttr,sx,aD,C,D,y,A,aZ,w1];refine ⟨n - 1,by omega,i+1,by omega,rfl,fun j m u t => ?_⟩;by_cases w:j=i
    ·subst w;rw [o.out] at t;cases t;exact r
    ·exact b.out j m (by omega) t
  ·have f:¬ (i:Int) < (l.length:Nat):=by omega
   have z:=atm (p:=p) (l:=l) fun j m u=>b.out j m (by have:=(ay8.1 u).1;omega) u
   simp only [↓pre,simprocAttr,sx,aD,y,A,f,gH,z]
theorem am2 (v:AV) (l:List Int) (x:List AV) (g:FuncId) (a:List AV) (p:Int→Bool) (e:aT v l.length (bJ l++x)) (j:l.length≤1000000000000) (c:cP a=true) (f:∀ n∈l,aQ ayU g (aB n::a) ⟨aZ (p n),[]⟩):aQ ayU 174 [v,.clo g a] ⟨aZ (l.any p),[]⟩:=by
 have d:=ato v l x g a p e j c f;have i:=atn p l;have b:=e.plain;refine aV Tryz.func174 aD (h:=?_);unfold Tryz.f174;simp only [↓pre,simprocAttr,sx,aD,aZ]
 (first | refine aI d (by simp only [cP,plain,b,c,aAx]) ?_ | refine aH d (by simp only [cP,plain,b,c,aAI,aAx]) (by intro k;first | rfl | simp only [ *,zaa]) ?_)
 simp only [↓pre,simprocAttr,sx,aD,i]
def iX (k r c w:Int) (l:List Int):Int:=if bG k r c w=true then (if (l.length:Int)=k+r then (if l.any (fun n => !eL n)=true then 70 else 0) else 70) else 2
theorem atp (k r c w:Int) (v:AV) (l:List Int) (x:List AV) (d:aT v l.length (bJ l++x)) (g:l.length≤1000000000000):aQ ayU 295 [aC k r c w,v] ⟨aB (iX k r c w l),[]⟩:=by
 have b:=am2 v l x 328 [] (fun n => !eL n) d g rfl (fun n _=>ath n);have i:=d.plain;refine aV Tryz.func295 aD (h:=?_);unfold Tryz.f295;cases h:bG k r c w with
 | false =>
  have a:iX k r c w l=2:=by simp [iX,h]
  simp only [↓pre,simprocAttr,aC,sx,aaT,aD,a];repeat' ((first | refine pW (fun _ => ?_) (fun _ => ?_) | refine pY (fun _ => ?_) (fun _ => ?_) | refine pX (fun _ => ?_) (fun _ => ?_) | refine pZ (fun _ => ?_) (fun _ => ?_) | refine nO (fun _ => ?_) (fun _ => ?_) | refine lK (fun _ => ?_) (fun _ => ?_) | refine aI (qB _ _ _ _) (by first | rfl | simp only [aC,aE, *]) ?_ | refine aH (qB _ _ _ _) (by first | rfl | simp only [aC,aE, *]) (by intro k;first | rfl | simp only [ *,zaa]) ?_) <;> simp only [↓pre,simprocAttr,sx,aD, *])
 | true =>
  by_cases f:(l.length:Int)=k+r
  ·cases e:l.any (fun n => !eL n) with
   | true =>
    have a:iX k r c w l=70:=by rw [iX,if_pos h,if_pos f,if_pos e]
    rw [e] at b;simp only [↓pre,simprocAttr,aC,sx,aaT,aD,a];repeat' ((first | refine pW (fun _ => ?_) (fun _ => ?_) | refine pY (fun _ => ?_) (fun _ => ?_) | refine pX (fun _ => ?_) (fun _ => ?_) | refine pZ (fun _ => ?_) (fun _ => ?_) | refine nO (fun _ => ?_) (fun _ => ?_) | refine lK (fun _ => ?_) (fun _ => ?_) | refine aI (qB _ _ _ _) (by first | rfl | simp only [aC,aE, *]) ?_ | refine aI (b) (by first | rfl | simp only [aE, *]) ?_ | refine aH (qB _ _ _ _) (by first | rfl | simp only [aC,aE, *]) (by intro k;first | rfl | simp only [ *,zaa]) ?_ | refine aH (b) (by first | rfl | simp only [aC,aE, *]) (by intro k;first | rfl | simp only [ *,zaa]) ?_) <;> simp only [↓pre,simprocAttr,sx,aaT,aD,aG,d.len',aZ, *])
   | false =>
    have a:iX k r c w l=0:=by rw [iX,if_pos h,if_pos f,if_neg (by rw [e];decide)]
    rw [e] at b;simp only [↓pre,simprocAttr,aC,sx,aaT,aD,a];repeat' ((first | refine pW (fun _ => ?_) (fun _ => ?_) | refine pY (fun _ => ?_) (fun _ => ?_) | refine pX (fun _ => ?_) (fun _ => ?_) | refine pZ (fun _ => ?_) (fun _ => ?_) | refine nO (fun _ => ?_) (fun _ => ?_) | refine lK (fun _ => ?_) (fun _ => ?_) | refine aI (qB _ _ _ _) (by first | rfl | simp only [aC,aE, *]) ?_ | refine aI (b) (by first | rfl | simp only [aE, *]) ?_ | refine aH (qB _ _ _ _) (by first | rfl | simp only [aC,aE, *]) (by intro k;first | rfl | simp only [ *,zaa]) ?_ | refine aH (b) (by first | rfl | simp only [aC,aE, *]) (by intro k;first | rfl | simp only [ *,zaa]) ?_) <;> simp only [↓pre,simprocAttr,sx,aaT,aD,aG,d.len',aZ, *])
  ·have a:iX k r c w l=70:=by rw [iX,if_pos h,if_neg f]
   simp only [↓pre,simprocAttr,aC,sx,aaT,aD,a];repeat' ((first | refine pW (fun _ => ?_) (fun _ => ?_) | refine pY (fun _ => ?_) (fun _ => ?_) | refine pX (fun _ => ?_) (fun _ => ?_) | refine pZ (fun _ => ?_) (fun _ => ?_) | refine nO (fun _ => ?_) (fun _ => ?_) | refine lK (fun _ => ?_) (fun _ => ?_) | refine aI (qB _ _ _ _) (by first | rfl | simp only [aC,aE, *]) ?_ | refine aH (qB _ _ _ _) (by first | rfl | simp only [aC,aE, *]) (by intro k;first | rfl | simp only [ *,zaa]) ?_) <;> simp only [↓pre,simprocAttr,sx,aaT,aD,aG,d.len', *])
def jR (l:List Int):Int:=l.foldl max 0
theorem am3 {l:List Int} {i:Nat} {n:Int} (h:l[i]? = some n):jR (l.take (i+1))=max (jR (l.take i)) n:=by
 rw [aA9,h];simp [jR]
theorem atq (k r c w:Int) (v:AV) (l:List Int) (x:List AV) (j:aT v l.length (bJ l++x)) (z:l.length≤1000000000000):aQ ayU 240 [aC k r c w,v] ⟨.tup [aB (if iX k r c w l=0 then jR l else 0),aB (iX k r c w l)],[]⟩:=by
 have u:=atp k r c w v l x j z;have t:=j.plain;refine aV Tryz.func240 aD (h:=?_);unfold Tryz.f240;simp only [↓pre,simprocAttr,aC,sx,ahv,aD]
 (first | refine aI u (by simp only [cP,plain,t,aAx]) ?_ | refine aH u (by simp only [cP,plain,aC,aB,t,aAI,aAx]) (by intro k;first | rfl | simp only [ *,zaa]) ?_)
 by_cases q:iX k r c w l=0
 ·simp only [↓pre,simprocAttr,sx,ahv,aD,aG,q,j.len',eq_self];rw [bS];refine bU (fun n e m=>∃ i,n+i=l.length∧e 16=v∧e 17=aB (l.length:Nat)∧e 18=aB (i:Nat)∧e 7=aB (jR (l.take i))) l.length ⟨0,by omega, ?_⟩ ?_
  ·simp [bC.set,aB,jR]
  ·rintro n e m ⟨i,hi,p,g,d,o⟩;by_cases f:i < l.length
   ·have b:(i:Int) < (l.length:Nat):=by omega
    obtain ⟨a,s⟩:∃ a,l[i]? = some a:=⟨_,azm f⟩
    have y:=nU (x:=x) s;have B:=am3 s;have w1:=cB (n:=i) (by omega);simp only [↓pre,simprocAttr,sx,ahv,aD,aG,p,g,d,o,b,j.addr',f,azG,y,w1];exact ⟨n - 1,by omega,i+1,by omega,rfl,by rw [B]⟩
   ·have b:¬ (i:Int) < (l.length:Nat):=by omega
    have A:l.take i=l:=aBa (by omega);rw [A] at o;simp only [↓pre,simprocAttr,sx,aD,g,d,o,b,gH]
 ·simp only [↓pre,simprocAttr,sx,aD,q]
def rU (k r:Int) (l:List Int):Int:=if (l.length:Int)=k+r then (if l.any (fun n => !eL n)=true then 0 else jR l) else 0
theorem atr (k r c w:Int) (u:bG k r c w=true) (v:AV) (l:List Int) (x:List AV) (s:aT v l.length (bJ l++x)) (L:l.length≤1000000000000):aQ ayU 341 [aC k r c w,v] ⟨aB (rU k r l),[]⟩:=by
 have K:=s.plain;refine aV Tryz.func341 aD (h:=?_);unfold Tryz.f341;simp only [↓pre,simprocAttr,aC,sx,afa,aD,aG,s.len'];by_cases g:(l.length:Int)=k+r
 ·(first | refine aI (vS _ _ _ _ u) (by first | rfl | simp only [aC,aE, *]) ?_ | refine aH (vS _ _ _ _ u) (by first | rfl | simp only [aC,aE, *]) (by intro k;first | rfl | simp only [ *,zaa]) ?_);simp only [↓pre,simprocAttr,sx,aD,g,eq_self]
  rw [bS];refine bU (fun n e m=>∃ i,n+i=l.length∧e 1=v∧e 6=aB (i:Nat)∧e 5=aB (jR (l.take i))∧∀ (j:Nat) (a:Int),j < i→l[j]? = some a→eL a=true) l.length ⟨0,by omega, ?_⟩ ?_
  ·simp [bC.set,rH,aB,jR]
  ·rintro n e m ⟨i,hi,D,B,C,d⟩;replace d:=aA.mk d;by_cases p:i < l.length
   ·have f:(i:Int) < (l.length:Nat):=by omega
    obtain ⟨a,y⟩:∃ a,l[i]? = some a:=⟨_,azm p⟩
    have G:=nU (x:=x) y;have I:=am3 y;have w1:=cB (n:=i) (by omega);have q:=am0 a;replace g:=aA.mk g;simp only [↓pre,simprocAttr,sx,afa,aD,aG,s.len',D,B,f,s.addr',p,azG,G];cases z:eL a with
    | true =>
     rw [z] at q
     (first | refine aI (q) (by first | rfl | simp only [aC,aE, *]) ?_ | refine aH (q) (by first | rfl | simp only [aC,aE, *]) (by intro k;first | rfl | simp only [ *,zaa]) ?_);simp only [↓pre,simprocAttr,sx,afa,aD,aG,D,B,C,s.addr',p,azG,G,w1,aZ]
     refine ⟨n - 1,by omega,i+1,by omega,rfl,by rw [I],fun j b E o => ?_⟩;by_cases A:j=i
     ·subst A;rw [y] at o;cases o;exact z
     ·exact d.out j b (by omega) o
    | false =>
     rw [z] at q;have t:rU k r l=0:=by
      rw [rU,if_pos g.out,if_pos];exact aA8.2 ⟨a,az8 y,by simp [z]⟩
     (first | refine aI (q) (by first | rfl | simp only [aC,aE, *]) ?_ | refine aH (q) (by first | rfl | simp only [aC,aE, *]) (by intro k;first | rfl | simp only [ *,zaa]) ?_);simp only [↓pre,simprocAttr,sx,aD,aZ,t]
   ·have f:¬ (i:Int) < (l.length:Nat):=by omega
    have J:l.take i=l:=aBa (by omega);rw [J] at C;have t:rU k r l=jR l:=by
     rw [rU,if_pos g,if_neg];intro h;obtain ⟨a,H,F⟩:=aA8.1 h;obtain ⟨j,E,rfl⟩:=List.getElem_of_mem H;rw [d.out j _ (by omega) (azm E)] at F;cases F
    replace g:=aA.mk g;simp only [↓pre,simprocAttr,sx,afa,aD,aG,s.len',D,B,C,f,gH,t]
 ·have t:rU k r l=0:=by rw [rU,if_neg g]
  (first | refine aI (vS _ _ _ _ u) (by first | rfl | simp only [aC,aE, *]) ?_ | refine aH (vS _ _ _ _ u) (by first | rfl | simp only [aC,aE, *]) (by intro k;first | rfl | simp only [ *,zaa]) ?_);simp only [↓pre,simprocAttr,sx,aD,g,t]
theorem bW {v:AV} {n:Nat} {cs:List AV} (h:aT v n cs) (m:aF):fz m v=some (v,m):=by
 rcases h.form with ⟨rfl,_⟩ | ⟨_,_,rfl,_⟩ | ⟨_,_,rfl,_⟩ <;> rfl
theorem bR {v:AV} {n:Nat} {cs:List AV} (h:aT v n cs):dL v=true:=by
 rcases h.form with ⟨rfl,_⟩ | ⟨_,_,rfl,_⟩ | ⟨_,_,rfl,_⟩ <;> rfl
def kK (kd ix ce st:Int) (vv dv:AV):AV := .agg [.val (.int .u8 kd),aB ix,aB ce,aB st,vv,dv]
def dS (k r c w kd ix ce st:Int) (l:List Int) (a:Nat):Bool :=
 decide (iX k r c w l=0) && (decide (st=jR l) && (decide (0≤ix∧ix < l.length) && ((decide (kd=1) || decide (kd=2)) && (decide (l[ix.toNat]? = some ce) && decide ((a:Int)=c)))))
theorem am4 (k r c w kd ix ce st:Int) (vv dv:AV) (l:List Int) (x:List AV) (b:Nat) (y:List AV) (j:aT vv l.length (bJ l++x)) (s:aT dv b y) (D:l.length≤1000000000000):aQ ayU 172 [aC k r c w,kK kd ix ce st vv dv] ⟨aZ (dS k r c w kd ix ce st l b),[]⟩:=by
 have u:=atq k r c w vv l x j D;have t:=j.plain;have A:=bW j;have B:=bW s;have E:=bR j;have G:=bR s;refine aV Tryz.func172 aD (h:=?_);unfold Tryz.f172;unfold kK;simp only [↓pre,simprocAttr,aC,sx,ab6,aD,A,B]
 (first | refine aI u (by simp only [cP,plain,t,aAx]) ?_ | refine aH u (by simp only [cP,plain,aC,aB,t,aAI,aAx]) (by intro k;first | rfl | simp only [ *,zaa]) ?_)
 by_cases f:iX k r c w l=0
 ·by_cases g:st=jR l
  ·subst g;by_cases o:ix < 0
   ·have d:dS k r c w kd ix ce (jR l) l b=false:=by
     have:¬ (0≤ix∧ix < l.length):=by omega
     rw [dS,decide_eq_false this];simp
    simp only [↓pre,simprocAttr,sx,ab6,aD,f,o,d,aZ,eq_self]
   ·obtain ⟨i,rfl⟩:∃ i:Nat,ix=(i:Nat):=⟨ix.toNat,by omega⟩
    by_cases v:i < l.length
    ·have q:¬ ((l.length:Nat):Int)≤(i:Int):=by omega
     obtain ⟨a,m⟩:∃ a,l[i]? = some a:=⟨_,azm v⟩
     have F:=nU (x:=x) m;have n:dS k r c w kd (i:Nat) ce (jR l) l b=((decide (kd=1) || decide (kd=2)) && (decide (a=ce) && decide ((b:Int)=c))):=by
      have:(0:Int)≤(i:Nat)∧((i:Nat):Int) < (l.length:Nat):=by omega
      rw [dS,decide_eq_true f,decide_eq_true (rfl:jR l=jR l),decide_eq_true this,aBb,m];simp
     rw [n];replace m:=aA.mk m;replace n:=aA.mk n;simp only [↓pre,simprocAttr,sx,ab6,aD,aG,f,j.len',o,q,aZ,eq_self];repeat' ((first | refine pW (fun _ => ?_) (fun _ => ?_) | refine pY (fun _ => ?_) (fun _ => ?_) | refine pX (fun _ => ?_) (fun _ => ?_) | refine pZ (fun _ => ?_) (fun _ => ?_) | refine nO (fun _ => ?_) (fun _ => ?_) | refine lK (fun _ => ?_) (fun _ => ?_)) <;> simp only [↓pre,simprocAttr,sx,ab6,aD,aG,s.len',j.addr',azG,eq_self, *])
     all_goals (first | rfl | (refine ac8 ?_;simp_all;done) | (rename_i C;have z:¬ a=ce:=fun e=>C e.symm;rw [decide_eq_false z];simp;done))
    ·have p:((l.length:Nat):Int)≤(i:Int):=by omega
     have d:dS k r c w kd (i:Nat) ce (jR l) l b=false:=by
      have:¬ ((0:Int)≤(i:Nat)∧((i:Nat):Int) < (l.length:Nat)):=by omega
      rw [dS,decide_eq_false this];simp
     simp only [↓pre,simprocAttr,sx,ab6,aD,aG,f,j.len',o,p,d,aZ,eq_self]
  ·have d:dS k r c w kd ix ce st l b=false:=by simp [dS,g]
   simp only [↓pre,simprocAttr,sx,ab6,aD,f,g,d,aZ,eq_self]
 ·have d:dS k r c w kd ix ce st l b=false:=by simp [dS,f]
  simp only [↓pre,simprocAttr,sx,aD,f,d,aZ,eq_self]
def aJ (l:List UInt8):List AV:=l.map bA
theorem mM {bs:List UInt8} {x:List AV} {i:Nat} {a:UInt8} (h:bs[i]? = some a):(aJ bs++x)[i]? = some (.val (.int .u8 a.toNat)):=by
 have hi:=(ay8.1 h).1;rw [azg (by simpa [aJ] using hi)];simp [aJ,h,bA]
theorem uI (bs:List UInt8) (x:List AV) (k:Nat) (a:k≤bs.length):(aJ bs++x).drop k=aJ (bs.drop k)++x:=by
 rw [List.drop_append_of_le_length (by simpa [aJ] using a)];simp [aJ,List.map_drop]
theorem ats {P:Program} {t:TypeId} {v:AV} {n k:Nat} {cs:List AV} (h:aT v n cs) (g:((bO P t).bind (bX P)).isSome=true) (j:0 < k) (d:k≤n):∃ v',kT P t none (some k) (some k) v=some v'∧aT v' k cs:=by
 obtain ⟨sz,a⟩:=Option.isSome_iff_exists.1 g;obtain ⟨el,b,a⟩:=ayS a;rcases h.form with ⟨rfl,e⟩ | ⟨_,_,rfl,e⟩ | ⟨c,f,rfl,i⟩
 ·omega
 ·omega
 ·refine ⟨.tree k k cs true, ?_,⟨.inr (.inr ⟨k,true,rfl,aza _⟩)⟩⟩;simp only [kT,b,a,tS,Option.isSome_some,Option.isNone_some,Bool.and_false,azA,if_false,aAk,aAE,aAD];rw [if_pos (by omega),if_neg (by omega)];simp
def dF (l:List UInt8):Nat:=l.foldl (fun n b=>n*256+b.toNat) 0
theorem afi {l:List UInt8} {i:Nat} {a:UInt8} (h:l[i]? = some a):dF (l.take (i+1))=dF (l.take i)*256+a.toNat:=by
 rw [aA9,h];simp [dF]
theorem aaW:∀ (i:Nat) (l:List UInt8),dF (l.take i) < 256 ^ i
 | 0,l=>by simp [dF]
 | i+1,l=>by
  by_cases h:i < l.length
  ·have b:=aaW i l;have a:=afi (azm h);have c:=(l[i]).toNat_lt;rw [a,Nat.pow_succ];omega
  ·have b:=aaW i l;have e:l.take (i+1)=l.take i:=by rw [aBa (by omega),aBa (by omega)]
   rw [e,Nat.pow_succ];omega
theorem afj {P:Program} {m:aF} {v:AV} {n:Nat} {cs:List AV} (h:aT v n cs) (d:Nat) (a:List (Nat×Nat)) (rows:List (TypeId×List AV)):canon P m d a rows v=some (v,a,rows):=by
 rcases h.form with ⟨rfl,_⟩ | ⟨_,_,rfl,_⟩ | ⟨_,_,rfl,_⟩ <;> (try unfold aW) <;> (cases d <;> (unfold canon;rfl))
theorem ahK (v:AV) (bs:List UInt8) (x:List AV) (f:aT v bs.length (aJ bs++x)) (l:4≤bs.length):∃ v',aT v' (bs.drop 4).length (aJ (bs.drop 4)++x)∧aQ ayU 171 [v] ⟨.tup [aB (dF (bs.take 4):Nat),v'],[]⟩:=by
 obtain ⟨w,H,r1⟩:=ats (P:=ayU) (t:=52) (k:=4) f (by kernel_rfl) (by decide) l;obtain ⟨D,E,r2⟩:=f.slice (P:=ayU) (t:=52) (sz:=1) (lo:=some 4) (hi:=none) (by kernel_rfl) (by simpa using l) (by simp);simp only [aAE,aAD,azG] at r2;rw [uI bs x 4 l,←aBc] at r2;refine ⟨D,r2, ?_⟩;have J:=f.plain;refine aV Tryz.func171 aD (h:=?_);unfold Tryz.f171;have c:kS (.val (.int .i64 4))=some 4:=rfl;simp only [↓pre,simprocAttr,sx,amC,aD,aG,f.sliceX,H,c,dD,aBd,r1.len'];rw [bS];refine bU (fun n e m=>∃ i,n+i=4∧e 0=v∧e 8=w∧e 9=aB 4∧e 10=aB (i:Nat)∧e 4=aB (dF (bs.take i):Nat)) 4 ⟨0,by omega, ?_⟩ ?_
 ·simp [bC.set,rH,aB,dF]
 ·rintro n e m ⟨i,hi,s,G,r,d,u⟩;by_cases o:i < 4
  ·have b:(i:Int) < 4:=by omega
   obtain ⟨a,p⟩:∃ a,bs[i]? = some a:=⟨_,azm (by omega)⟩
   have z:=mM (x:=x) p;have F:=afi p;have C:=aaW i bs;have g:=a.toNat_lt;have w1:=cB (n:=i) (by omega);simp only [↓pre,simprocAttr,sx,amC,aD,aG,cO,uB,s,G,r,d,u,b,r1.addr',o,azG,z,w1];have q:256 ^ i≤256 ^ 3:=Nat.pow_le_pow_right (by decide) (by omega);have I:256 ^ 3=16777216:=by decide
   have B:azy.wrap (a.toNat:Int)=(a.toNat:Int):=dO (by omega);have A:azy.wrap (((dF (bs.take i):Nat):Int)*2 ^ min 8 azy.bits)=((dF (bs.take i)*256:Nat):Int):=by
    rw [show (((dF (bs.take i):Nat):Int)*2 ^ min 8 azy.bits)=((dF (bs.take i)*256:Nat):Int) by simp [IntKind.bits]];exact dO (by omega)
   have y:abR .i64 ((dF (bs.take i)*256:Nat):Int) (a.toNat:Int)=((dF (bs.take i)*256+a.toNat:Nat):Int):=by
    rw [alZ (by omega) (by omega),al0 (by omega)]
   exact ⟨n - 1,by omega,i+1,by omega,rfl,by rw [A,B,y,F]⟩
  ·have b:¬ (i:Int) < 4:=by omega
   have j:i=4:=by omega
   subst j;simp only [↓pre,simprocAttr,sx,aD,s,r,d,u,gH,f.sliceX,E,c,dD,aBd,afj r2]
theorem att {l:List UInt8} {i:Nat} {a b c d:UInt8} (g:l[i]? = some a) (h:l[i+1]? = some b) (f:l[i+2]? = some c) (k:l[i+3]? = some d):dF ((l.drop i).take 4)=((a.toNat*256+b.toNat)*256+c.toNat)*256+d.toNat:=by
 have e:(l.drop i).take 4=[a,b,c,d]:=by
  apply List.ext_getElem?;intro j;rw [List.getElem?_take]
  match j with
  | 0=>simpa using g
  | 1=>simpa using h
  | 2=>simpa using f
  | 3=>simpa using k
  | j+4=>simp;omega
 rw [e];simp [dF]
theorem ahL (v:AV) (bs:List UInt8) (x:List AV) (i:Nat) (j:aT v bs.length (aJ bs++x)) (hi:i+4≤bs.length) (J:bs.length≤1000000000000):aQ ayU 320 [v,aB (i:Nat)] ⟨aB (dF ((bs.drop i).take 4):Nat),[]⟩:=by
 obtain ⟨a,e⟩:∃ a,bs[i]? = some a:=⟨_,azm (by omega)⟩
 obtain ⟨b,g⟩:∃ a,bs[i+1]? = some a:=⟨_,azm (by omega)⟩
 obtain ⟨c,f⟩:∃ a,bs[i+2]? = some a:=⟨_,azm (by omega)⟩
 obtain ⟨d,k⟩:∃ a,bs[i+3]? = some a:=⟨_,azm (by omega)⟩
 rw [att e g f k];have B:=mM (x:=x) e;have p:=mM (x:=x) g;have z:=mM (x:=x) f;have w:=mM (x:=x) k;have t:i < bs.length:=by omega
 have m:i+1 < bs.length:=by omega
 have u:i+2 < bs.length:=by omega
 have l:i+3 < bs.length:=by omega
 have G:=a.toNat_lt;have I:=b.toNat_lt;have E:=c.toNat_lt;have H:=d.toNat_lt;have w0:azy.wrap ((i:Int)+1)=((i+1:Nat):Int):=dO (n:=i+1) (by omega);have w1:azy.wrap ((i:Int)+2)=((i+2:Nat):Int):=dO (n:=i+2) (by omega);have s:azy.wrap ((i:Int)+3)=((i+3:Nat):Int):=dO (n:=i+3) (by omega);have r:∀ q:UInt8,azy.wrap (q.toNat:Int)=(q.toNat:Int):=fun q=>dO (by have:=q.toNat_lt;omega)
 have m0:azy.wrap ((a.toNat:Int)*256)=((a.toNat*256:Nat):Int):=dO (n:=a.toNat*256) (by omega);have A:azy.wrap (((a.toNat*256:Nat):Int)+(b.toNat:Int))=((a.toNat*256+b.toNat:Nat):Int):=dO (n:=a.toNat*256+b.toNat) (by omega);have o:azy.wrap (((a.toNat*256+b.toNat:Nat):Int)*256)=(((a.toNat*256+b.toNat)*256:Nat):Int):=dO (n:=(a.toNat*256+b.toNat)*256) (by omega);have D:azy.wrap ((((a.toNat*256+b.toNat)*256:Nat):Int)+(c.toNat:Int))=(((a.toNat*256+b.toNat)*256+c.toNat:Nat):Int):=dO (n:=(a.toNat*256+b.toNat)*256+c.toNat) (by omega);have C:azy.wrap ((((a.toNat*256+b.toNat)*256+c.toNat:Nat):Int)*256)=((((a.toNat*256+b.toNat)*256+c.toNat)*256:Nat):Int):=dO (n:=((a.toNat*256+b.toNat)*256+c.toNat)*256) (by omega);have y:azy.wrap (((((a.toNat*256+b.toNat)*256+c.toNat)*256:Nat):Int)+(d.toNat:Int))=((((a.toNat*256+b.toNat)*256+c.toNat)*256+d.toNat:Nat):Int):=dO (n:=((a.toNat*256+b.toNat)*256+c.toNat)*256+d.toNat) (by omega);have F:=j.plain;refine aV Tryz.func320 aD (h:=?_);unfold Tryz.f320;simp only [↓pre,simprocAttr,sx,atb,aD,aG,cO,j.addr',azG,B,p,z,w,t,m,u,l,w0,w1,s,r,m0,A,o,D,C,y]
theorem atu {l:List Int} (h:l≠[]) (c:∀ n∈l,1≤n):1≤jR l:=by
 have key:∀ (l:List Int) (m:Int),(0≤m)→m≤l.foldl max m:=by
  intro l
  induction l with
  | nil=>intro m _;exact Int.le_refl _
  | cons a l b=>intro m d;simp only [List.foldl_cons];have:=b (max m a) (by omega);omega
 cases l with
 | nil=>exact absurd rfl h
 | cons a l =>
  have e:=c a (by simp);have:=key l (max 0 a) (by omega);simp only [jR,List.foldl_cons];omega
theorem atv {k r c w:Int} (d:bG k r c w=true) (l:List Int):(0 < rU k r l↔iX k r c w l=0)∧(iX k r c w l=0→rU k r l=jR l∧(l.length:Int)=k+r):=by
 have f:=fG d;unfold rU iX;rw [if_pos d];by_cases a:(l.length:Int)=k+r
 ·rw [if_pos a,if_pos a];by_cases b:l.any (fun n => !eL n)=true
  ·rw [if_pos b,if_pos b];exact ⟨by omega,fun h=>by omega⟩
  ·rw [if_neg b,if_neg b];have j:1≤jR l:=atu (by intro e;subst e;simp at a;omega) fun n f=>by
    have i:eL n=true:=by
     cases g:eL n with
     | true=>rfl
     | false=>exact absurd (aA8.2 ⟨n,f,by simp [g]⟩) b
    simp [eL] at i;omega
   exact ⟨by omega,fun _=>⟨rfl,a⟩⟩
 ·rw [if_neg a,if_neg a];exact ⟨by omega,fun h=>by omega⟩
theorem atw (k r c w kd ix ce st:Int) (I:bG k r c w=true) (vv dv:AV) (l:List Int) (x:List AV) (m:Nat) (y:List AV) (z:aT vv l.length (bJ l++x)) (A:aT dv m y) (M:l.length≤1000000000000):aQ ayU 321 [aC k r c w,kK kd ix ce st vv dv] ⟨aZ (dS k r c w kd ix ce st l m),[]⟩:=by
 have H:=atr k r c w I vv l x z M;have o:=vS k r c w I;have G:=z.plain;have s:=bW z;have t:=bW A;have N:=bR z;have O:=bR A;obtain ⟨F,E⟩:=atv I l;refine aV Tryz.func321 aD (h:=?_);unfold Tryz.f321;unfold kK;by_cases D:kd=1∨kd=2
 ·rcases D with rfl | rfl
  ·skip
   by_cases p:ix < 0
   ·have b:dS k r c w 1 ix ce st l m=false:=by
     have:¬ (0≤ix∧ix < l.length):=by omega
     rw [dS,decide_eq_false this];simp
    simp only [↓pre,simprocAttr,aC,sx,oU,aD,s,t,aZ,eq_self,p,b]
   ·by_cases v:k+r≤ix
    ·have b:dS k r c w 1 ix ce st l m=false:=by
      by_cases g:iX k r c w l=0
      ·have:=(E g).2;have:¬ (0≤ix∧ix < l.length):=by omega
       rw [dS,decide_eq_false this];simp
      ·rw [dS,decide_eq_false g];simp
     simp only [↓pre,simprocAttr,aC,sx,oU,aD,s,t,aZ,eq_self,p]
     (first | refine aI (o) (by first | rfl | simp only [aC,aE, *]) ?_ | refine aH (o) (by first | rfl | simp only [aC,aE, *]) (by intro k;first | rfl | simp only [ *,zaa]) ?_);simp only [↓pre,simprocAttr,sx,aD,eq_self,v,b]
    ·by_cases f:(m:Int)=c
     ·simp only [↓pre,simprocAttr,aC,sx,oU,aD,s,t,aZ,eq_self,p]
      (first | refine aI (o) (by first | rfl | simp only [aC,aE, *]) ?_ | refine aH (o) (by first | rfl | simp only [aC,aE, *]) (by intro k;first | rfl | simp only [ *,zaa]) ?_);simp only [↓pre,simprocAttr,sx,oU,aD,aG,A.len',eq_self,v,f]
      (first | refine aI H (by simp only [cP,plain,G,aAx]) ?_ | refine aH H (by simp only [cP,plain,aC,aB,G,aAI,aAx]) (by intro k;first | rfl | simp only [ *,zaa]) ?_)
      by_cases d:0 < rU k r l
      ·have g:=F.1 d;obtain ⟨u,C⟩:=E g;obtain ⟨i,rfl⟩:∃ i:Nat,ix=(i:Nat):=⟨ix.toNat,by omega⟩
       have q:i < l.length:=by omega
       obtain ⟨a,B⟩:∃ a,l[i]? = some a:=⟨_,azm q⟩
       have K:=nU (x:=x) B;by_cases j:st=rU k r l
       ·have b:dS k r c w 1 (i:Nat) ce st l m=decide (ce=a):=by
         have L:(0:Int)≤(i:Nat)∧((i:Nat):Int) < (l.length:Nat):=by omega
         rw [dS,decide_eq_true g,decide_eq_true (j.trans u),decide_eq_true L,decide_eq_true f,aBb,B];by_cases n:ce=a
         ·simp [n]
         ·have:¬ a=ce:=fun e=>n e.symm
          simp [n,this]
        rw [b];clear b;replace u:=aA.mk u;replace C:=aA.mk C;replace g:=aA.mk g;simp only [↓pre,simprocAttr,sx,oU,aD,aG,z.addr',eq_self,d,j,q,azG,K]
       ·have b:dS k r c w 1 (i:Nat) ce st l m=false:=by
         have:¬ st=jR l:=by rw [←u];exact j
         rw [dS,decide_eq_false this];simp
        simp only [↓pre,simprocAttr,sx,oU,aD,eq_self,d,j,b]
      ·have b:dS k r c w 1 ix ce st l m=false:=by
        have g:¬ iX k r c w l=0:=fun h=>d (F.2 h)
        rw [dS,decide_eq_false g];simp
       simp only [↓pre,simprocAttr,sx,aD,eq_self,d,b]
     ·have b:dS k r c w 1 ix ce st l m=false:=by
       rw [dS,decide_eq_false f];simp
      simp only [↓pre,simprocAttr,aC,sx,oU,aD,s,t,aZ,eq_self,p]
      (first | refine aI (o) (by first | rfl | simp only [aC,aE, *]) ?_ | refine aH (o) (by first | rfl | simp only [aC,aE, *]) (by intro k;first | rfl | simp only [ *,zaa]) ?_);simp only [↓pre,simprocAttr,sx,oU,aD,aG,A.len',eq_self,v,f,b]
  ·skip
   by_cases p:ix < 0
   ·have b:dS k r c w 2 ix ce st l m=false:=by
     have:¬ (0≤ix∧ix < l.length):=by omega
     rw [dS,decide_eq_false this];simp
    simp only [↓pre,simprocAttr,aC,sx,oU,aD,s,t,aZ,eq_self,p,b]
   ·by_cases v:k+r≤ix
    ·have b:dS k r c w 2 ix ce st l m=false:=by
      by_cases g:iX k r c w l=0
      ·have:=(E g).2;have:¬ (0≤ix∧ix < l.length):=by omega
       rw [dS,decide_eq_false this];simp
      ·rw [dS,decide_eq_false g];simp
     simp only [↓pre,simprocAttr,aC,sx,oU,aD,s,t,aZ,eq_self,p]
     (first | refine aI (o) (by first | rfl | simp only [aC,aE, *]) ?_ | refine aH (o) (by first | rfl | simp only [aC,aE, *]) (by intro k;first | rfl | simp only [ *,zaa]) ?_);simp only [↓pre,simprocAttr,sx,aD,eq_self,v,b]
    ·by_cases f:(m:Int)=c
     ·simp only [↓pre,simprocAttr,aC,sx,oU,aD,s,t,aZ,eq_self,p]
      (first | refine aI (o) (by first | rfl | simp only [aC,aE, *]) ?_ | refine aH (o) (by first | rfl | simp only [aC,aE, *]) (by intro k;first | rfl | simp only [ *,zaa]) ?_);simp only [↓pre,simprocAttr,sx,oU,aD,aG,A.len',eq_self,v,f]
      (first | refine aI H (by simp only [cP,plain,G,aAx]) ?_ | refine aH H (by simp only [cP,plain,aC,aB,G,aAI,aAx]) (by intro k;first | rfl | simp only [ *,zaa]) ?_)
      by_cases d:0 < rU k r l
      ·have g:=F.1 d;obtain ⟨u,C⟩:=E g;obtain ⟨i,rfl⟩:∃ i:Nat,ix=(i:Nat):=⟨ix.toNat,by omega⟩
       have q:i < l.length:=by omega
       obtain ⟨a,B⟩:∃ a,l[i]? = some a:=⟨_,azm q⟩
       have K:=nU (x:=x) B;by_cases j:st=rU k r l
       ·have b:dS k r c w 2 (i:Nat) ce st l m=decide (ce=a):=by
         have L:(0:Int)≤(i:Nat)∧((i:Nat):Int) < (l.length:Nat):=by omega
         rw [dS,decide_eq_true g,decide_eq_true (j.trans u),decide_eq_true L,decide_eq_true f,aBb,B];by_cases n:ce=a
         ·simp [n]
         ·have:¬ a=ce:=fun e=>n e.symm
          simp [n,this]
        rw [b];clear b;replace u:=aA.mk u;replace C:=aA.mk C;replace g:=aA.mk g;simp only [↓pre,simprocAttr,sx,oU,aD,aG,z.addr',eq_self,d,j,q,azG,K]
       ·have b:dS k r c w 2 (i:Nat) ce st l m=false:=by
         have:¬ st=jR l:=by rw [←u];exact j
         rw [dS,decide_eq_false this];simp
        simp only [↓pre,simprocAttr,sx,oU,aD,eq_self,d,j,b]
      ·have b:dS k r c w 2 ix ce st l m=false:=by
        have g:¬ iX k r c w l=0:=fun h=>d (F.2 h)
        rw [dS,decide_eq_false g];simp
       simp only [↓pre,simprocAttr,sx,aD,eq_self,d,b]
     ·have b:dS k r c w 2 ix ce st l m=false:=by
       rw [dS,decide_eq_false f];simp
      simp only [↓pre,simprocAttr,aC,sx,oU,aD,s,t,aZ,eq_self,p]
      (first | refine aI (o) (by first | rfl | simp only [aC,aE, *]) ?_ | refine aH (o) (by first | rfl | simp only [aC,aE, *]) (by intro k;first | rfl | simp only [ *,zaa]) ?_);simp only [↓pre,simprocAttr,sx,oU,aD,aG,A.len',eq_self,v,f,b]
 ·have b:dS k r c w kd ix ce st l m=false:=by
   have q:¬ kd=1:=fun h=>D (.inl h)
   have J:¬ kd=2:=fun h=>D (.inr h)
   simp [dS,q,J]
  have q:¬ kd=1:=fun h=>D (.inl h)
  have J:¬ kd=2:=fun h=>D (.inr h)
  simp only [↓pre,simprocAttr,aC,sx,oU,aD,s,t,q,J,b,aZ]
theorem atx (z kd ix ce st:Int) (vv dv:AV):aQ ayU 175 [aB z,.tptr 0 [.val (.int .u8 kd),aB ix,aB ce,aB st,vv,dv]] ⟨aZ (!decide (z=ce)),[]⟩:=by
 refine aV Tryz.func175 aD (h:=?_);unfold Tryz.f175;simp only [↓pre,simprocAttr,sx,asS,aD,aZ]
def jJ:Nat→Bool:=fun d=>d != 4
def nV:AV:=kK 0 0 0 0 aW aW
theorem aty (k r c w:Int) (v:AV) (bs:List UInt8) (x:List AV) (a:aT v bs.length (aJ bs++x)) (b:bG k r c w=false):aQ ayU 93 [aC k r c w,v] ⟨.tup [nV,aZ false,aB 2],[]⟩:=by
 have d:=a.plain;refine aV Tryz.func93 jJ (h:=?_);unfold Tryz.f93;simp only [↓pre,simprocAttr,aC,sx,lZ,jJ,aAE,bne,bD,eq_self]
 (first | refine aI (rS k r c w) (by first | rfl | simp only [aC,aE, *]) ?_ | refine aH (rS k r c w) (by first | rfl | simp only [aC,aE, *]) (by intro k;first | rfl | simp only [ *,zaa]) ?_);simp only [↓pre,simprocAttr,sx,lZ,jJ,aAE,bne,aG,aS,eq_self,b]
 rfl
theorem atz (k r c w:Int) (v:AV) (bs:List UInt8) (x:List AV) (a:aT v bs.length (aJ bs++x)) (b:bG k r c w=true) (d:(bs.length:Int)=0):aQ ayU 93 [aC k r c w,v] ⟨.tup [nV,aZ false,aB 0],[]⟩:=by
 have e:=a.plain;refine aV Tryz.func93 jJ (h:=?_);unfold Tryz.f93;simp only [↓pre,simprocAttr,aC,sx,lZ,jJ,aAE,bne,bD,eq_self]
 (first | refine aI (rS k r c w) (by first | rfl | simp only [aC,aE, *]) ?_ | refine aH (rS k r c w) (by first | rfl | simp only [aC,aE, *]) (by intro k;first | rfl | simp only [ *,zaa]) ?_);simp only [↓pre,simprocAttr,sx,lZ,jJ,aAE,bne,aG,aS,eq_self,b,a.len',d]
 rfl
theorem atA (k r c w:Int) (v:AV) (bs:List UInt8) (x:List AV) (b:aT v bs.length (aJ bs++x)) (d:bG k r c w=true) (e:¬ (bs.length:Int)=0) (a:¬ (bs.length:Int)=eE k r c):aQ ayU 93 [aC k r c w,v] ⟨.tup [nV,aZ false,aB 100],[]⟩:=by
 have f:=b.plain;refine aV Tryz.func93 jJ (h:=?_);unfold Tryz.f93;simp only [↓pre,simprocAttr,aC,sx,lZ,jJ,aAE,bne,bD,eq_self]
 (first | refine aI (rS k r c w) (by first | rfl | simp only [aC,aE, *]) ?_ | refine aH (rS k r c w) (by first | rfl | simp only [aC,aE, *]) (by intro k;first | rfl | simp only [ *,zaa]) ?_);simp only [↓pre,simprocAttr,sx,lZ,jJ,aAE,bne,aG,aS,eq_self,d,b.len',e,a]
 rfl
theorem atB (k r c w:Int) (v:AV) (bs:List UInt8) (x:List AV) (f:aT v bs.length (aJ bs++x)) (i:bG k r c w=true) (d:(bs.length:Int)=eE k r c) {a b:UInt8} (o:bs[0]? = some a) (t:bs[1]? = some b) (l:¬ ((a.toNat:Int)=84∧(b.toNat:Int)=50)):aQ ayU 93 [aC k r c w,v] ⟨.tup [nV,aZ false,aB 0],[]⟩:=by
 have u:=f.plain;have e:=fG i;have n:=mM (x:=x) o;have s:=mM (x:=x) t;have m:0 < bs.length:=by unfold eE at d;omega
 have q:1 < bs.length:=by unfold eE at d;omega
 have g:¬ eE k r c=0:=by rw [←d];omega
 replace e:=aA.mk e;refine aV Tryz.func93 jJ (h:=?_);unfold Tryz.f93;simp only [↓pre,simprocAttr,aC,sx,lZ,jJ,aAE,bne,bD,eq_self];by_cases j:(a.toNat:Int)=84
 ·have p:¬ (b.toNat:Int)=50:=fun h=>l ⟨j,h⟩
  (first | refine aI (rS k r c w) (by first | rfl | simp only [aC,aE, *]) ?_ | refine aH (rS k r c w) (by first | rfl | simp only [aC,aE, *]) (by intro k;first | rfl | simp only [ *,zaa]) ?_);simp only [↓pre,simprocAttr,sx,lZ,jJ,aAE,bne,aG,aS,eq_self,i,f.len',d,g,f.addr',m,q,azG,n,s,j,p]
  rfl
 ·(first | refine aI (rS k r c w) (by first | rfl | simp only [aC,aE, *]) ?_ | refine aH (rS k r c w) (by first | rfl | simp only [aC,aE, *]) (by intro k;first | rfl | simp only [ *,zaa]) ?_);simp only [↓pre,simprocAttr,sx,lZ,jJ,aAE,bne,aG,aS,eq_self,i,f.len',d,g,f.addr',m,azG,n,j]
  rfl
def gO (bs:List UInt8) (o:Nat):Int:=((dF ((bs.drop o).take 4):Nat):Int)
def jS (bs:List UInt8) (n:Nat):List Int:=(List.range n).map fun j=>gO bs (12+4*j)
theorem am5 (bs:List UInt8) (n:Nat):jS bs (n+1)=jS bs n++[gO bs (12+4*n)]:=by simp [jS,List.range_succ]
theorem ace (bs:List UInt8) (n:Nat):(jS bs n).length=n:=by simp [jS]
theorem acf (a b:List Int):bJ (a++b)=bJ a++bJ b:=by simp [bJ]
def aaX (kd ix:Int) (bs:List UInt8) (N C:Nat):Bool→fA
 | true=>⟨.tup [kK kd ix (gO bs 4) (gO bs 8) (.sl 0 0 N N false) (.sl 1 0 C C false),aZ true,aB 0],[(3,bJ (jS bs N)),(5,aJ (bs.drop (12+4*N)))]⟩
 | false=>⟨.tup [nV,aZ false,aB 0],[]⟩
theorem atC (k r c w:Int) (v:AV) (bs:List UInt8) (x:List AV) (H:aT v bs.length (aJ bs++x)) (hm:bG k r c w=true) (o:(bs.length:Int)=eE k r c) {B l:UInt8} (h0:bs[0]? = some 84) (h1:bs[1]? = some 50) (h2:bs[2]? = some B) (h3:bs[3]? = some l):aQ ayU 93 [aC k r c w,v] (aaX B.toNat l.toNat bs (k+r).toNat c.toNat (dS k r c w B.toNat l.toNat (gO bs 4) (gO bs 8) (jS bs (k+r).toNat) c.toNat)):=by
 have hp:=H.plain;have j:=fG hm;have b0:=mM (x:=x) h0;have b1:=mM (x:=x) h1;have b2:=mM (x:=x) h2;have b3:=mM (x:=x) h3;have f:12≤bs.length:=by unfold eE at o;omega
 have l0:0 < bs.length:=by omega
 have l1:1 < bs.length:=by omega
 have l2:2 < bs.length:=by omega
 have l3:3 < bs.length:=by omega
 have Y:¬ eE k r c=0:=by rw [←o];omega
 have c1:(((84:UInt8).toNat:Nat):Int)=84:=rfl;have c0:(((50:UInt8).toNat:Nat):Int)=50:=rfl;have w5:azy.wrap (l.toNat:Int)=(l.toNat:Int):=dO (by have:=l.toNat_lt;omega);have U:kS (.val (.int .i64 4))=some 4:=rfl;replace j:=aA.mk j;replace f:=aA.mk f;obtain ⟨v1,s1,r1⟩:=H.slice (P:=ayU) (t:=52) (sz:=1) (lo:=some 4) (hi:=none) (by kernel_rfl) (by have:=f.out;simp only [aAE,aAD];omega) (by simp);simp only [aAE,aAD,azG] at r1;rw [uI bs x 4 (by have:=f.out;omega),←aBc] at r1;obtain ⟨v2,r2,t1⟩:=ahK v1 (bs.drop 4) x r1 (by have:=f.out;rw [aBc];omega);obtain ⟨v3,X,t2⟩:=ahK v2 ((bs.drop 4).drop 4) x r2 (by have:=f.out;simp only [aBc];omega);have p1:=r1.plain;have p2:=r2.plain;have b7:=dB r1;have a7:=dB r2;have a4:=dB X;rw [aBe,aBe] at X;obtain ⟨N,hN⟩:∃ N:Nat,k+r=(N:Int):=⟨(k+r).toNat,by have:=j.out;omega⟩
 obtain ⟨C,S⟩:∃ C:Nat,c=(C:Int):=⟨c.toNat,by have:=j.out;omega⟩
 have a1:(k+r).toNat=N:=by omega
 have a0:c.toNat=C:=by omega
 rw [a1,a0];generalize K:aaX _ _ _ _ _ _=b6;have d:bs.length=12+4*N+C:=by unfold eE at o;omega
 have a:N≤16∧1≤N∧8≤C∧C≤64:=by have:=j.out;omega
 replace d:=aA.mk d;replace hN:=aA.mk hN;replace a:=aA.mk a;have a5:∀ m,fY ayU m 52 0 []=some ⟨.tree 0 0 [] true,m,none⟩:=fun m=>ag6 (el:=5) (sz:=1) (z:=[]) (by kernel_rfl) (by kernel_rfl) (by kernel_rfl) rfl rfl (by decide)
 refine aV Tryz.func93 jJ (h:=?_);unfold Tryz.f93;simp only [↓pre,simprocAttr,aC,sx,lZ,jJ,aAE,bne,bD,eq_self]
 (first | refine aI (rS k r c w) (by first | rfl | simp only [aC,aE, *]) ?_ | refine aH (rS k r c w) (by first | rfl | simp only [aC,aE, *]) (by intro k;first | rfl | simp only [ *,zaa]) ?_);simp only [↓pre,za,lZ,jJ,cO,simprocAttr,bne,aS,hm,H.len',o,Y,H.addr',l0,l1,l2,l3,b0,b1,b2,b3,w5]
 refine cX (by kernel_rfl) ?_;simp only [↓pre,simprocAttr,sx,lZ,jJ,aAE,aAD,bne,aG,aS,eq_self];refine cX (by kernel_rfl) ?_;simp only [↓pre,simprocAttr,sx,jJ,aAE,bne,eq_self,aBd,dD,H.sliceX,s1,U]
 (first | refine aI (t1) (by first | rfl | simp only [aE, *]) ?_ | refine aH (t1) (by first | rfl | simp only [aC,aE, *]) (by intro k;first | rfl | simp only [ *,zaa]) ?_);simp only [↓pre,simprocAttr,sx,lZ,jJ,aAE,aAD,bne,aG,aS,eq_self,a7];(first | refine aI (t2) (by first | rfl | simp only [aE, *]) ?_ | refine aH (t2) (by first | rfl | simp only [aC,aE, *]) (by intro k;first | rfl | simp only [ *,zaa]) ?_);simp only [↓pre,simprocAttr,sx,lZ,jJ,aAE,aAD,bne,aG,aS,eq_self,a4]
 rw [bS];refine bU (fun n e m=>∃ i,n+i=N∧e 2 = .tptr 0 [aB k,aB r,aB c,aB w]∧e 4 = .ptr 0 0∧aT (e 8) (bs.drop (12+4*i)).length (aJ (bs.drop (12+4*i))++x)∧0 < m.next∧∃ vv,m.at_ 0=some ⟨[.val (.int .u8 B.toNat),aB l.toNat,aB (gO bs 4),aB (gO bs 8),vv,aW],127,.var,true⟩∧Own m 3 1 vv i (bJ (jS bs i))) N ⟨0,by omega, ?_⟩ ?_
 ·refine ⟨rfl,rfl,by simpa [bC.set] using X,by simp [fC,cQ],aW, ?_,gK⟩;have e9:gO bs 8=((dF (List.take 4 (List.drop 4 (List.drop 4 bs))):Nat):Int):=by rw [aBe];rfl
  rw [e9];rfl
 ·rintro n e m ⟨i,hi,O,E,D,R,vv,g,M⟩;by_cases V:i < N
  ·have l4:12+4*i+4+C≤bs.length:=by have:=d.out;omega
   have L:((C:Nat):Int) < ((bs.drop (12+4*i)).length:Nat):=by rw [aBc];omega
   obtain ⟨v9,r9,t9⟩:=ahK (e 8) (bs.drop (12+4*i)) x D (by rw [aBc];omega);have p8:=D.plain;have Q:=dB r9;rw [←S] at L;simp only [↓pre,simprocAttr,sx,lZ,jJ,aAE,bne,aG,eq_self,D.len',O,L]
   (first | refine aI (t9) (by first | rfl | simp only [aE, *]) ?_ | refine aH (t9) (by first | rfl | simp only [aC,aE, *]) (by intro k;first | rfl | simp only [ *,zaa]) ?_);simp only [↓pre,simprocAttr,sx,lZ,jJ,aAE,bne,cO,eq_self,Q,E,g]
   refine zU (sz:=1) (y:=8) (zl:=[.int .i64 0]) (by kernel_rfl) M (by kernel_rfl) (by kernel_rfl) (by kernel_rfl) rfl lV (by rfl) (by have:=a.out;omega) (by have:=a.out;omega) ?_;intro b8 m' G b4 q c2;have p:=q 0 _ g R (M.ne_kind g (fun h=>by cases h));obtain ⟨b',rfl,c3,b5⟩:=G.sl (by omega);simp only [↓pre,simprocAttr,sx,lZ,jJ,aAE,aAD,bne,aG,aS,eq_self,O,E,p];refine ⟨n - 1,by omega,i+1,by omega, ?_,by omega,.sl b' 0 (i+1) (i+1) false,rfl, ?_⟩
   ·rw [aBe] at r9;exact r9
   ·rw [am5,acf];exact G.put_kind p (fun h=>by cases h)
  ·have a6:i=N:=by omega
   subst a6;have a9:(bs.drop (12+4*i)).length=C:=by have:=d.out;rw [aBc];omega
   rw [a9] at D;have L:¬ ((C:Nat):Int) < ((C:Nat):Int):=by omega
   rw [←S] at L;simp only [↓pre,za,lZ,jJ,cO,simprocAttr,bne,D.len',O,S.symm,L,a5];have J:eM ayU 5 1 m (e 8)=some (aJ (bs.drop (12+4*i)),C):=by
    have hq:=D.src (P:=ayU) (m:=m) (el:=5) (sz:=1) (by rw [azG,aA2];simp [aJ];have:=d.out;omega);rw [hq,azG,List.take_left' (by simp [aJ];have:=d.out;omega)]
   rw [ahb (sz:=1) (y:=1) (zl:=[.int .u8 0]) rfl (by kernel_rfl) (by kernel_rfl) (by kernel_rfl) rfl J (by have:=a.out;omega) (by have:=a.out;omega) (by have:=a.out;omega)];have T:¬ 0=m.next:=by omega
   have s:¬ m.next=0:=by omega
   have Z:=M.ne_kind g (fun h=>by cases h);obtain ⟨b,rfl,hb,V⟩:=M.sl (by have:=a.out;omega);have F:b≠0:=fun h=>Z (by rw [h];rfl)
   simp only [↓pre,simprocAttr,sx,lZ,jJ,aAE,aAD,bne,aG,aS,eq_self,O,E,g,T,s];generalize u:aF.put _ _ _=W;have q0:W.at_ 0=some ⟨[.val (.int .u8 B.toNat),aB l.toNat,aB (gO bs 4),aB (gO bs 8),.sl b 0 i i false,.sl m.next 0 C C false],127,.var,true⟩:=by rw [←u,cI,if_pos rfl];rfl
   have q1:W.at_ b=some ⟨bJ (jS bs i),3,.flat,true⟩:=by rw [←u,cI,if_neg F,cF,if_neg (by omega)];exact hb
   have q2:W.at_ m.next=some ⟨aJ (bs.drop (12+4*i)),5,.flat,true⟩:=by rw [←u,cI,if_neg s,cF,if_pos rfl]
   have a8:¬ m.next=b:=by omega
   generalize m.next=b2 at *
   have A:(jS bs i).length=i:=ace bs i;refine abO (am4 k r c w B.toNat l.toNat (gO bs 4) (gO bs 8) (.tree i i (bJ (jS bs i)) false) (.tree C C (aJ (bs.drop (12+4*i))) false) (jS bs i) [] C (aJ (bs.drop (12+4*i))) ⟨.inr (.inr ⟨i,false,by rw [A,List.append_nil],by rw [A];exact aza _⟩)⟩ ⟨.inr (.inr ⟨C,false,rfl,aza _⟩)⟩ (by rw [A];have:=a.out;omega)) (by simp [dN,lend,q1,q2,aC,kK,aB]) rfl rfl ?_;rw [←K];cases b9:dS k r c w B.toNat l.toNat (gO bs 4) (gO bs 8) (jS bs i) C
   ·simp only [↓pre,za,lZ,jJ,simprocAttr,bne,aS,E,q0];rfl
   ·have k3:bK ayU 3 = .flat:=by kernel_rfl
    have k5:bK ayU 5 = .flat:=by kernel_rfl
    have I:¬ b=b2:=fun h=>a8 h.symm
    simp only [↓pre,za,lZ,jJ,simprocAttr,bne,aS,E,q0];simp only [F,s,q1,q2,k3,k5,if_false,if_true,aAk,az6,List.any_nil,azA,not_true_eq_false,or_self,List.any_cons,Bool.or_false,beq_eq_false_iff_ne.2 I];rfl
structure jK where
 kd:Int
 ix:Int
 ce:Int
 st:Int
 vec:List Int
 data:List UInt8
def bN (k r:Int) (bs:List UInt8):jK:=⟨(bs.getD 2 0).toNat,(bs.getD 3 0).toNat,gO bs 4,gO bs 8,jS bs (k+r).toNat,bs.drop (12+4*(k+r).toNat)⟩
def jK.v (s:jK):AV:=kK s.kd s.ix s.ce s.st (.tree s.vec.length s.vec.length (bJ s.vec) false) (.tree s.data.length s.data.length (aJ s.data) false)
def tA (k r c w:Int) (s:jK):Bool:=dS k r c w s.kd s.ix s.ce s.st s.vec s.data.length
def dP (k r c w:Int) (bs:List UInt8):Bool:=decide ((bs.length:Int)=eE k r c) && (decide (bs[0]? = some 84) && (decide (bs[1]? = some 50) && tA k r c w (bN k r bs)))
def qW (k r c w:Int) (bs:List UInt8):AV:=if bG k r c w=true∧dP k r c w bs=true then .tup [(bN k r bs).v,aZ true,aB 0] else .tup [nV,aZ false,aB (if bG k r c w=false then 2 else if (bs.length:Int)=0 then 0 else if (bs.length:Int)=eE k r c then 0 else 100)]
theorem am6 (k r c w:Int) (v:AV) (bs:List UInt8) (x:List AV) (n:aT v bs.length (aJ bs++x)):aQ ayU 93 [aC k r c w,v] ⟨qW k r c w bs,[]⟩:=by
 cases b:bG k r c w with
 | false =>
  have:=aty k r c w v bs x n b;simpa [qW,b] using this
 | true =>
  have J:=fG b;by_cases g:(bs.length:Int)=0
  ·have e:dP k r c w bs=false:=by
    have:¬ (bs.length:Int)=eE k r c:=by rw [g];unfold eE;omega
    unfold dP;rw [decide_eq_false this];rfl
   have:=atz k r c w v bs x n b g;simpa [qW,b,e,g] using this
  ·by_cases hs:(bs.length:Int)=eE k r c
   ·have F:12≤bs.length:=by unfold eE at hs;omega
    obtain ⟨A,o⟩:∃ a,bs[0]? = some a:=⟨_,azm (by omega)⟩
    obtain ⟨y,e⟩:∃ a,bs[1]? = some a:=⟨_,azm (by omega)⟩
    obtain ⟨t,u⟩:∃ a,bs[2]? = some a:=⟨_,azm (by omega)⟩
    obtain ⟨s,p⟩:∃ a,bs[3]? = some a:=⟨_,azm (by omega)⟩
    by_cases f:A=84∧y=50
    ·obtain ⟨rfl,rfl⟩:=f;have j:=atC k r c w v bs x n b hs o e u p;have z:(bN k r bs).vec.length=(k+r).toNat:=ace _ _;have m:(bN k r bs).data.length=c.toNat:=by simp only [bN,aBc];unfold eE at hs;omega
     have H:(bs.getD 2 0)=t:=by rw [azs,u];rfl
     have I:(bs.getD 3 0)=s:=by rw [azs,p];rfl
     have l:tA k r c w (bN k r bs)=dS k r c w t.toNat s.toNat (gO bs 4) (gO bs 8) (jS bs (k+r).toNat) c.toNat:=by
      unfold tA;rw [m];simp only [bN,H,I]
     have d:dP k r c w bs=tA k r c w (bN k r bs):=by unfold dP;rw [decide_eq_true hs,decide_eq_true o,decide_eq_true e];rfl
     rw [←l] at j;cases q:tA k r c w (bN k r bs) with
     | false =>
      rw [q] at j;simpa [qW,b,d,q,g,hs,aaX] using j
     | true =>
      rw [q] at j;have D:bK ayU 3 = .flat:=by kernel_rfl
      have E:bK ayU 5 = .flat:=by kernel_rfl
      have:=aaP 1 j (by simp [aaX,jH,kV,kK,aB,aZ,D,E]);have B:qW k r c w bs=fZ ayU (aaX t.toNat s.toNat bs (k+r).toNat c.toNat true).rows 1 (aaX t.toNat s.toNat bs (k+r).toNat c.toNat true).v:=by
       unfold qW;rw [if_pos ⟨b,by rw [d,q]⟩];simp [aaX,fZ,iP,kK,aB,aZ,D,E,jK.v,z,m];simp [bN,u,p]
      rw [B];exact this
    ·have i:¬ ((A.toNat:Int)=84∧(y.toNat:Int)=50):=by
      rintro ⟨p,K⟩;exact f ⟨aBf.1 (by simp;omega),aBf.1 (by simp;omega)⟩
     have d:dP k r c w bs=false:=by
      unfold dP;rw [o,e];by_cases C:A=84
      ·have G:¬ y=50:=fun h=>f ⟨C,h⟩
       simp [G]
      ·simp [C]
     have:=atB k r c w v bs x n b hs o e i;simpa [qW,b,d,g,hs] using this
   ·have e:dP k r c w bs=false:=by unfold dP;rw [decide_eq_false hs];rfl
    have:=atA k r c w v bs x n b g hs;have i:bs≠[]:=by rintro rfl;exact g rfl
    simpa [qW,b,e,i,hs] using this
def kX:Nat→Bool:=fun d=>d != 4 && (d != 6 && (d != 47 && d != 57))
def aaY (k r c w:Int) (bs:List UInt8):AV := .tup [if dP k r c w bs=true then (bN k r bs).v else nV,aZ (dP k r c w bs)]
theorem atD (k r c w:Int) (v:AV) (bs:List UInt8) (x:List AV) (e:aT v bs.length (aJ bs++x)) (b:bG k r c w=true) (d:¬ (bs.length:Int)=eE k r c):aQ ayU 288 [aC k r c w,v] ⟨.tup [nV,aZ false],[]⟩:=by
 have f:=e.plain;have a:=fG b;replace a:=aA.mk a;refine aV Tryz.func288 kX (h:=?_);unfold Tryz.f288;simp only [↓pre,za,nT,kX,bD,simprocAttr,aC,bne,e.len']
 (first | refine aI (yM k r c w b) (by first | rfl | simp only [aC,aE, *]) ?_ | refine aH (yM k r c w b) (by first | rfl | simp only [aC,aE, *]) (by intro k;first | rfl | simp only [ *,zaa]) ?_);simp only [↓pre,za,nT,kX,simprocAttr,bne,aS,d]
 rfl
theorem atE (k r c w:Int) (v:AV) (bs:List UInt8) (x:List AV) (g:aT v bs.length (aJ bs++x)) (e:bG k r c w=true) (d:(bs.length:Int)=eE k r c) {a b:UInt8} (n:bs[0]? = some a) (s:bs[1]? = some b) (j:¬ ((a.toNat:Int)=84∧(b.toNat:Int)=50)):aQ ayU 288 [aC k r c w,v] ⟨.tup [nV,aZ false],[]⟩:=by
 have t:=g.plain;have f:=fG e;have m:=mM (x:=x) n;have q:=mM (x:=x) s;have l:0 < bs.length:=by unfold eE at d;omega
 have p:1 < bs.length:=by unfold eE at d;omega
 replace f:=aA.mk f;refine aV Tryz.func288 kX (h:=?_);unfold Tryz.f288;simp only [↓pre,za,nT,kX,bD,simprocAttr,aC,bne,g.len'];by_cases i:(a.toNat:Int)=84
 ·have o:¬ (b.toNat:Int)=50:=fun h=>j ⟨i,h⟩
  (first | refine aI (yM k r c w e) (by first | rfl | simp only [aC,aE, *]) ?_ | refine aH (yM k r c w e) (by first | rfl | simp only [aC,aE, *]) (by intro k;first | rfl | simp only [ *,zaa]) ?_);simp only [↓pre,za,nT,kX,simprocAttr,bne,aS,d,g.addr',l,p,m,q,i,o]
  rfl
 ·(first | refine aI (yM k r c w e) (by first | rfl | simp only [aC,aE, *]) ?_ | refine aH (yM k r c w e) (by first | rfl | simp only [aC,aE, *]) (by intro k;first | rfl | simp only [ *,zaa]) ?_);simp only [↓pre,za,nT,kX,simprocAttr,bne,aS,d,g.addr',l,m,i]
  rfl
def aaZ (kd ix:Int) (bs:List UInt8) (N C:Nat):Bool→fA
 | true=>⟨.tup [kK kd ix (gO bs 4) (gO bs 8) (.sl 0 0 N N false) (.sl 1 0 C C false),aZ true],[(3,bJ (jS bs N)),(5,aJ (bs.drop (12+4*N)))]⟩
 | false=>⟨.tup [nV,aZ false],[]⟩
theorem atF (k r c w:Int) (v:AV) (bs:List UInt8) (x:List AV) (z:aT v bs.length (aJ bs++x)) (G:bG k r c w=true) (B:(bs.length:Int)=eE k r c) {E p:UInt8} (h0:bs[0]? = some 84) (h1:bs[1]? = some 50) (h2:bs[2]? = some E) (h3:bs[3]? = some p):aQ ayU 288 [aC k r c w,v] (aaZ E.toNat p.toNat bs (k+r).toNat c.toNat (dS k r c w E.toNat p.toNat (gO bs 4) (gO bs 8) (jS bs (k+r).toNat) c.toNat)):=by
 have hp:=z.plain;have U:=fG G;have b0:=mM (x:=x) h0;have b1:=mM (x:=x) h1;have q:=mM (x:=x) h2;have b3:=mM (x:=x) h3;have K:12≤bs.length:=by unfold eE at B;omega
 have l0:0 < bs.length:=by omega
 have l1:1 < bs.length:=by omega
 have l2:2 < bs.length:=by omega
 have l3:3 < bs.length:=by omega
 have c2:(((84:UInt8).toNat:Nat):Int)=84:=rfl;have c1:(((50:UInt8).toNat:Nat):Int)=50:=rfl;have w5:azy.wrap (p.toNat:Int)=(p.toNat:Int):=dO (by have:=p.toNat_lt;omega);obtain ⟨N,hN⟩:∃ N:Nat,k+r=(N:Int):=⟨(k+r).toNat,by omega⟩
 obtain ⟨C,hC⟩:∃ C:Nat,c=(C:Int):=⟨c.toNat,by omega⟩
 have a5:(k+r).toNat=N:=by omega
 have a4:c.toNat=C:=by omega
 rw [a5,a4];generalize V:aaZ _ _ _ _ _ _=b7;have d:bs.length=12+4*N+C:=by unfold eE at B;omega
 have a:N≤16∧1≤N∧8≤C∧C≤64:=by omega
 have n4:=ahL v bs x 4 z (by omega) (by omega);have n8:=ahL v bs x 8 z (by omega) (by omega);replace d:=aA.mk d;replace a:=aA.mk a;replace U:=aA.mk U;replace K:=aA.mk K;refine aV Tryz.func288 kX (h:=?_);unfold Tryz.f288;simp only [↓pre,za,nT,kX,bD,simprocAttr,aC,bne,z.len']
 (first | refine aI (yM k r c w G) (by first | rfl | simp only [aC,aE, *]) ?_ | refine aH (yM k r c w G) (by first | rfl | simp only [aC,aE, *]) (by intro k;first | rfl | simp only [ *,zaa]) ?_);simp only [↓pre,za,nT,kX,cO,simprocAttr,bne,B,z.addr',l0,l1,l2,l3,b0,b1,q,b3,w5];(first | refine aI (n4) (by first | rfl | simp only [aE, *]) ?_ | refine aH (n4) (by first | rfl | simp only [aE, *]) (by intro k;first | rfl | simp only [ *,zaa]) ?_);simp only [↓pre,zad,kX,simprocAttr,bne];(first | refine aI (n8) (by first | rfl | simp only [aE, *]) ?_ | refine aH (n8) (by first | rfl | simp only [aE, *]) (by intro k;first | rfl | simp only [ *,zaa]) ?_);simp only [↓pre,za,nT,kX,bD,simprocAttr,bne]
 refine cX (by kernel_rfl) ?_;simp only [↓pre,za,nT,kX,simprocAttr,bne,aS];refine cX (by kernel_rfl) ?_;simp only [↓pre,zad,nT,kX,simprocAttr,bne]
 (first | refine aI (vS k r c w G) (by first | rfl | simp only [aC,aE, *]) ?_ | refine aH (vS k r c w G) (by first | rfl | simp only [aC,aE, *]) (by intro k;first | rfl | simp only [ *,zaa]) ?_);simp only [↓pre,simprocAttr,sx,aG,hN]
 rw [bS];refine bU (fun n e m=>∃ i,n+i=N∧e 1=v∧e 2 = .tptr 0 [aB k,aB r,aB c,aB w]∧e 4 = .ptr 0 0∧e 6 = .ptr 1 0∧e 7=aB (N:Nat)∧e 8=aB (i:Nat)∧1 < m.next∧m.at_ 0=some ⟨[.val (.int .u8 0),aB 0,aB 0,aB 0,aW,aW],127,.var,true⟩∧∃ vv,m.at_ 1=some ⟨[.val (.int .u8 E.toNat),aB p.toNat,aB (gO bs 4),aB (gO bs 8),vv,aW],127,.var,true⟩∧Own m 3 1 vv i (bJ (jS bs i))) N ⟨0,by omega, ?_⟩ ?_
 ·refine ⟨rfl,rfl,rfl,rfl, ?_,rfl,by simp [fC,cQ,aF.empty],rfl,aW, ?_,gK⟩
  ·simp [bC.set,aB]
  ·rfl
 ·rintro n e m ⟨i,hi,e1,e2,Z,F,e7,e8,I,s,vv,l,H⟩;by_cases b8:i < N
  ·have l4:12+4*i+4+C≤bs.length:=by have:=d.out;omega
   have g1:((i:Nat):Int) < ((N:Nat):Int):=by omega
   have g:=a.out;have wa:azy.wrap (4*(i:Int))=((4*i:Nat):Int):=by rw [show (4*(i:Int))=((4*i:Nat):Int) by simp];exact dO (by omega)
   have wb:azy.wrap (12+((4*i:Nat):Int))=((12+4*i:Nat):Int):=by rw [show (12+((4*i:Nat):Int))=((12+4*i:Nat):Int) by simp];exact dO (by omega)
   have w1:=cB (n:=i) (by omega);have ni:=ahL v bs x (12+4*i) z (by omega) (by have:=d.out;omega);replace g:=aA.mk g;simp only [↓pre,zad,nT,kX,simprocAttr,bne,e1,F,e7,e8,g1,l,wa,wb]
   (first | refine aI (ni) (by first | rfl | simp only [aE, *]) ?_ | refine aH (ni) (by first | rfl | simp only [aE, *]) (by intro k;first | rfl | simp only [ *,zaa]) ?_);simp only [↓pre,zad,nT,kX,cO,simprocAttr,bne]
   refine zU (sz:=1) (y:=8) (zl:=[.int .i64 0]) (by kernel_rfl) H (by kernel_rfl) (by kernel_rfl) (by kernel_rfl) rfl lV (by rfl) (by have:=a.out;omega) (by have:=a.out;omega) ?_;intro b9 m' O J f R;have j:=f 1 _ l I (H.ne_kind l (fun h=>by cases h));have o:=f 0 _ s (by omega) (H.ne_kind s (fun h=>by cases h));obtain ⟨b',rfl,W,a9⟩:=O.sl (by omega);refine cX (by kernel_rfl) ?_;simp only [↓pre,za,nT,kX,simprocAttr,bne,aS,F,j];refine cX (by kernel_rfl) ?_;simp only [↓pre,za,kX,simprocAttr,bne,e1,e2,Z,F,e7,e8,o,w1];refine ⟨n - 1,by omega,i+1,by omega,rfl,by omega,.sl b' 0 (i+1) (i+1) false,rfl, ?_⟩;rw [am5,acf];exact O.put_kind j (fun h=>by cases h)
  ·have a7:i=N:=by omega
   subst a7;have a8:(bs.drop (12+4*i)).length=C:=by have:=d.out;rw [aBc];omega
   have g1:¬ ((i:Nat):Int) < ((i:Nat):Int):=by omega
   have g:=a.out;have wa:azy.wrap (4*(i:Int))=((4*i:Nat):Int):=by rw [show (4*(i:Int))=((4*i:Nat):Int) by simp];exact dO (by omega)
   have wb:azy.wrap (12+((4*i:Nat):Int))=((12+4*i:Nat):Int):=by rw [show (12+((4*i:Nat):Int))=((12+4*i:Nat):Int) by simp];exact dO (by omega)
   obtain ⟨v5,s5,r5⟩:=z.slice (P:=ayU) (t:=52) (sz:=1) (lo:=some (12+4*i)) (hi:=none) (by kernel_rfl) (by have:=d.out;simp only [aAE,aAD];omega) (by simp);simp only [aAE,aAD,azG] at r5;rw [uI bs x _ (by have:=d.out;omega),←aBc,a8] at r5;replace g:=aA.mk g;simp only [↓pre,za,nT,kX,cO,aBd,simprocAttr,bne,dD,e1,F,e7,e8,g1,l,wa,wb,z.sliceX,s5];have S:eM ayU 5 1 m v5=some (aJ (bs.drop (12+4*i)),C):=by
    have hq:=r5.src (P:=ayU) (m:=m) (el:=5) (sz:=1) (by rw [azG,aA2];simp [aJ];have:=d.out;omega);rw [hq,azG,List.take_left' (by simp [aJ];have:=d.out;omega)]
   have Q:=H.ne_kind s (fun h=>by cases h);have M:=H.ne_kind l (fun h=>by cases h);refine zU (kd := .flat) (sz:=1) (y:=1) (zl:=[.int .u8 0]) (by kernel_rfl) gK (by kernel_rfl) (by kernel_rfl) (by kernel_rfl) rfl S (by simp [aJ];have:=d.out;omega) (by have:=a.out;omega) (by have:=a.out;omega) ?_;intro dv m' hd J f R;obtain ⟨q,rfl,A,b6⟩:=hd.sl (by have:=a.out;omega);obtain ⟨b,rfl,hb,L⟩:=H.sl (by have:=a.out;omega);have j:=f 1 _ l I (fun h=>by cases h);have o:=f 0 _ s (by omega) (fun h=>by cases h);have W:=f b _ hb L (fun h=>by cases h);have a0:¬ b=0:=fun h=>Q (by rw [h];rfl)
   have a1:¬ b=1:=fun h=>M (by rw [h];rfl)
   have b4:q=m.next:=by
    rcases R q rfl with h | h
    ·exact h
    ·cases h
   have a6:¬ q=0:=by omega
   have Y:¬ q=1:=by omega
   have T:¬ b=q:=by omega
   refine cX (by kernel_rfl) ?_;rw [List.nil_append] at A;rw [Nat.zero_add];simp only [↓pre,za,nT,kX,simprocAttr,bne,aS,F,j];refine cX (by kernel_rfl) ?_;generalize u:aF.put _ _ _=X;have q0:X.at_ 0=some ⟨[.val (.int .u8 0),aB 0,aB 0,aB 0,aW,aW],127,.var,true⟩:=by rw [←u,cI,if_neg (by omega)];exact o
   have q1:X.at_ 1=some ⟨[.val (.int .u8 E.toNat),aB p.toNat,aB (gO bs 4),aB (gO bs 8),.sl b 0 i i false,.sl q 0 C C false],127,.var,true⟩:=by rw [←u,cI,if_pos rfl];rfl
   have q2:X.at_ b=some ⟨bJ (jS bs i),3,.flat,true⟩:=by rw [←u,cI,if_neg a1];exact W
   have q3:X.at_ q=some ⟨aJ (bs.drop (12+4*i)),5,.flat,true⟩:=by rw [←u,cI,if_neg Y];exact A
   simp only [↓pre,zad,nT,kX,simprocAttr,bne,e2,F,q1];have D:(jS bs i).length=i:=ace bs i;refine abO (atw k r c w E.toNat p.toNat (gO bs 4) (gO bs 8) G (.tree i i (bJ (jS bs i)) false) (.tree C C (aJ (bs.drop (12+4*i))) false) (jS bs i) [] C (aJ (bs.drop (12+4*i))) ⟨.inr (.inr ⟨i,false,by rw [D,List.append_nil],by rw [D];exact aza _⟩)⟩ ⟨.inr (.inr ⟨C,false,rfl,aza _⟩)⟩ (by rw [D];have:=a.out;omega)) (by simp [dN,lend,q2,q3,aC,kK,aB]) rfl rfl ?_;rw [←V];cases c0:dS k r c w E.toNat p.toNat (gO bs 4) (gO bs 8) (jS bs i) C
   ·simp only [↓pre,za,nT,kX,simprocAttr,bne,aS,Z,q0,aW];rfl
   ·have k3:bK ayU 3 = .flat:=by kernel_rfl
    have k5:bK ayU 5 = .flat:=by kernel_rfl
    have b5:¬ q=b:=fun h=>T h.symm
    simp only [↓pre,za,nT,kX,simprocAttr,bne,aS,Z,F,q0,q1];simp only [a0,a6,q2,q3,k3,k5,if_false,if_true,aAk,az6,List.any_nil,azA,not_true_eq_false,or_self,List.any_cons,Bool.or_false,beq_eq_false_iff_ne.2 T];rfl
theorem atG (k r c w:Int) (v:AV) (bs:List UInt8) (x:List AV) (A:aT v bs.length (aJ bs++x)) (l:bG k r c w=true):aQ ayU 288 [aC k r c w,v] ⟨aaY k r c w bs,[]⟩:=by
 have I:=fG l;by_cases hs:(bs.length:Int)=eE k r c
 ·have E:12≤bs.length:=by unfold eE at hs;omega
  obtain ⟨y,m⟩:∃ a,bs[0]? = some a:=⟨_,azm (by omega)⟩
  obtain ⟨s,e⟩:∃ a,bs[1]? = some a:=⟨_,azm (by omega)⟩
  obtain ⟨p,q⟩:∃ a,bs[2]? = some a:=⟨_,azm (by omega)⟩
  obtain ⟨o,n⟩:∃ a,bs[3]? = some a:=⟨_,azm (by omega)⟩
  by_cases d:y=84∧s=50
  ·obtain ⟨rfl,rfl⟩:=d;have f:=atF k r c w v bs x A l hs m e q n;have t:(bN k r bs).vec.length=(k+r).toNat:=ace _ _;have i:(bN k r bs).data.length=c.toNat:=by simp only [bN,aBc];unfold eE at hs;omega
   have G:(bs.getD 2 0)=p:=by rw [azs,q];rfl
   have H:(bs.getD 3 0)=o:=by rw [azs,n];rfl
   have g:tA k r c w (bN k r bs)=dS k r c w p.toNat o.toNat (gO bs 4) (gO bs 8) (jS bs (k+r).toNat) c.toNat:=by
    unfold tA;rw [i];simp only [bN,G,H]
   have b:dP k r c w bs=tA k r c w (bN k r bs):=by unfold dP;rw [decide_eq_true hs,decide_eq_true m,decide_eq_true e];rfl
   rw [←g] at f;cases j:tA k r c w (bN k r bs) with
   | false =>
    rw [j] at f;simpa [aaY,b,j,aaZ] using f
   | true =>
    rw [j] at f;have C:bK ayU 3 = .flat:=by kernel_rfl
    have D:bK ayU 5 = .flat:=by kernel_rfl
    have:=aaP 1 f (by simp [aaZ,jH,kV,kK,aB,aZ,C,D]);have z:aaY k r c w bs=fZ ayU (aaZ p.toNat o.toNat bs (k+r).toNat c.toNat true).rows 1 (aaZ p.toNat o.toNat bs (k+r).toNat c.toNat true).v:=by
     unfold aaY;rw [if_pos (by rw [b,j]),b,j];simp [aaZ,fZ,iP,kK,aB,aZ,C,D,jK.v,t,i];simp [bN,q,n]
    rw [z];exact this
  ·have u:¬ ((y.toNat:Int)=84∧(s.toNat:Int)=50):=by
    rintro ⟨n,J⟩;exact d ⟨aBf.1 (by simp;omega),aBf.1 (by simp;omega)⟩
   have b:dP k r c w bs=false:=by
    unfold dP;rw [m,e];by_cases B:y=84
    ·have F:¬ s=50:=fun h=>d ⟨B,h⟩
     simp [F]
    ·simp [B]
   have:=atE k r c w v bs x A l hs m e u;simpa [aaY,b] using this
 ·have e:dP k r c w bs=false:=by unfold dP;rw [decide_eq_false hs];rfl
  have:=atD k r c w v bs x A l hs;simpa [aaY,e] using this
theorem aX:aF.empty.next=0:=rfl
def yN:Nat→Bool:=fun d=>d != 6 && d != 8
def eF (k r c w:Int) (bs:List UInt8) (ix:Int):Bool:=dP k r c w bs && decide ((bN k r bs).ix=ix)
theorem am7 (k r c w ix:Int) (v:AV) (bs:List UInt8) (x:List AV) (e:aT v bs.length (aJ bs++x)) (f:bG k r c w=true):aQ ayU 227 [aC k r c w,v,aB ix] ⟨.tup [if eF k r c w bs ix=true then (bN k r bs).v else nV,aZ (eF k r c w bs ix)],[]⟩:=by
 have i:=e.plain;have a:=atG k r c w v bs x e f;unfold aaY at a;cases hs:dP k r c w bs with
 | false =>
  rw [hs] at a;have d:eF k r c w bs ix=false:=by unfold eF;rw [hs];rfl
  rw [d];rw [if_neg (by decide)] at a;rw [if_neg (by decide)];unfold nV kK at a ⊢;refine aV Tryz.func227 yN (h:=?_);unfold Tryz.f227;simp only [↓pre,zad,ab8,yN,bD,aX,simprocAttr,aC,bne]
  (first | refine aI (a) (by first | rfl | simp only [aE, *]) ?_ | refine aH (a) (by first | rfl | simp only [aC,aE, *]) (by intro k;first | rfl | simp only [ *,zaa]) ?_);simp only [↓pre,za,ab8,yN,bD,aX,aBg,simprocAttr,bne,aS,aW]
 | true =>
  rw [hs] at a;rw [if_pos rfl] at a;have d:eF k r c w bs ix=decide ((bN k r bs).ix=ix):=by unfold eF;rw [hs];rfl
  rw [d];generalize g:bN k r bs=s at *
  by_cases b:s.ix=ix
  ·rw [if_pos (by simpa using b),decide_eq_true b];unfold jK.v kK at a ⊢;refine aV Tryz.func227 yN (h:=?_);unfold Tryz.f227;simp only [↓pre,zad,ab8,yN,bD,aX,simprocAttr,aC,bne]
   (first | refine aI (a) (by first | rfl | simp only [aE, *]) ?_ | refine aH (a) (by first | rfl | simp only [aC,aE, *]) (by intro k;first | rfl | simp only [ *,zaa]) ?_);simp only [↓pre,za,ab8,yN,bD,aX,Nat.one_ne_zero,aBg,simprocAttr,bne,aS,b]
  ·rw [if_neg (by simpa using b),decide_eq_false b];unfold jK.v kK at a;unfold nV kK;refine aV Tryz.func227 yN (h:=?_);unfold Tryz.f227;simp only [↓pre,zad,ab8,yN,bD,aX,simprocAttr,aC,bne]
   (first | refine aI (a) (by first | rfl | simp only [aE, *]) ?_ | refine aH (a) (by first | rfl | simp only [aC,aE, *]) (by intro k;first | rfl | simp only [ *,zaa]) ?_);simp only [↓pre,za,ab8,yN,bD,aX,Nat.one_ne_zero,aBg,simprocAttr,bne,aS,aW,b]
def iY (k r c:Int) (n:Nat):Bool:=decide ((n:Int)=0) || decide ((n:Int)=eE k r c)
def kD (k r c:Int) (n a:Nat):Bool:=iY k r c n && iY k r c a
theorem atH (k r c w:Int) (v v':AV) (n p:Nat) (x I:List AV) (B:aT v n x) (g:aT v' p I) (L:bG k r c w=true):aQ ayU 254 [aC k r c w,.agg [v,v']] ⟨aZ (kD k r c n p),[]⟩:=by
 have K:=B.plain;have M:=g.plain;have N:=bW B;have O:=bW g;have Q:=bR B;have S:=bR g;have j:=yM k r c w L;refine aV Tryz.func254 aD (h:=?_);unfold Tryz.f254;simp only [↓pre,simprocAttr,aC,sx,ae4,aD,N,O];rw [bS];refine bU (fun q e m=>∃ i,q+i=2∧e 2 = .tptr 0 [aB k,aB r,aB c,aB w]∧e 3 = .tptr 0 [v,v']∧e 5=aB (i:Nat)∧(1≤i→iY k r c n=true)∧(2≤i→iY k r c p=true)) 2 ⟨0,by omega,rfl,rfl,rfl,by omega,by omega⟩ ?_;rintro q e m ⟨i,hi,z,A,t,E,P⟩;by_cases l:i < 2
 ·obtain ⟨u,o,J,F,f,a⟩:∃ u o J,[v,v'][i]? = some u∧aT u o J∧o=(if i=0 then n else p):=by
   match i,l with
   | 0,_=>exact ⟨v,n,x,rfl,B,rfl⟩
   | 1,_=>exact ⟨v',p,I,rfl,g,rfl⟩
  have R:=bR f;have b:(i:Int) < 2:=by omega
  have w1:=cB (n:=i) (by omega);by_cases s:(o:Int)=0
  ·simp only [↓pre,simprocAttr,sx,ae4,aD,aG,bH,z,A,t,l,b,F,f.len',s,w1,azG];have d:iY k r c o=true:=by unfold iY;rw [decide_eq_true s];rfl
   refine ⟨q - 1,by omega,i+1,by omega,rfl,fun H => ?_,fun D => ?_⟩
   ·by_cases C:i=0
    ·rw [if_pos C] at a;subst a;exact d
    ·exact E (by omega)
   ·rw [if_neg (by omega)] at a;subst a;exact d
  ·by_cases y:(o:Int)=eE k r c
   ·simp only [↓pre,simprocAttr,sx,ae4,aD,aG,bH,z,A,t,l,b,F,f.len',s,azG]
    (first | refine aI (j) (by first | rfl | simp only [aC,aE, *]) ?_ | refine aH (j) (by first | rfl | simp only [aC,aE, *]) (by intro k;first | rfl | simp only [ *,zaa]) ?_);simp only [↓pre,simprocAttr,sx,aD,z,A,t,y,w1]
    have d:iY k r c o=true:=by unfold iY;rw [decide_eq_true y,Bool.or_true]
    refine ⟨q - 1,by omega,i+1,by omega,rfl,fun H => ?_,fun D => ?_⟩
    ·by_cases C:i=0
     ·rw [if_pos C] at a;subst a;exact d
     ·exact E (by omega)
    ·rw [if_neg (by omega)] at a;subst a;exact d
   ·simp only [↓pre,simprocAttr,sx,ae4,aD,aG,bH,z,A,t,l,b,F,f.len',s,azG]
    (first | refine aI (j) (by first | rfl | simp only [aC,aE, *]) ?_ | refine aH (j) (by first | rfl | simp only [aC,aE, *]) (by intro k;first | rfl | simp only [ *,zaa]) ?_);simp only [↓pre,simprocAttr,sx,aD,y]
    have d:iY k r c o=false:=by unfold iY;rw [decide_eq_false s,decide_eq_false y];rfl
    have G:kD k r c n p=false:=by
     unfold kD;split at a
     ·subst a;rw [d];rfl
     ·subst a;rw [d,Bool.and_false]
    rw [G];rfl
 ·have b:¬ (i:Int) < 2:=by omega
  have K:kD k r c n p=true:=by
   unfold kD;rw [E (by omega),P (by omega)];rfl
  simp only [↓pre,simprocAttr,sx,aD,t,b,gH,K,aZ]
end Go.Proofs.YtaekhhlgnbhnpaaGreat
namespace Go.Proofs.YtaekhhlgnbhnpaaGreat
open Go Go.Tw Go.Proofs
def zab:=(⟨@aD.eq_1,@sx⟩:_∧_)
def zac:=(⟨@sr,@zab⟩:_∧_)
def zae:=(⟨@aD.eq_1,@za⟩:_∧_)
def zaf:=(⟨@aX,@za⟩:_∧_)
def zah:=(⟨@Int.cast_ofNat_Int,@bH,@zae⟩:_∧_∧_)
def zai:=(⟨@aG,@zab⟩:_∧_)
end Go.Proofs.YtaekhhlgnbhnpaaGreat
