import Derived.Test.YtaekhhlgnbhnpaaGreatNzcG08
import Derived.Test.YtaekhhlgnbhnpaaGreatProg
import Derived.KernelRfl
import Derived.Test.YtaekhhlgnbhnpaaGreatNzcG10
import Derived.Test.YtaekhhlgnbhnpaaGreatNzcG11
set_option linter.defProp false
set_option maxRecDepth 4000
open Bool renaming and_self→aAu,and_true→aAF,false_eq_true→azx
open Go.IntKind renaming i64→azv
open Go.Proofs.Tryz renaming prog→ayS
open Int renaming mul_le_mul→aA1,ediv_nonneg→aA2,toNat_natCast→aA8
open List renaming getElem?_eq_some_iff→ay5,getElem?_append_left→azd,findIdx?_eq_some_iff_getElem→aA3,getElem?_eq_getElem→azj,findIdx?_eq_none_iff→aA4,any_eq_true→aA5,mem_of_getElem?→az5,take_add_one→aA6,take_of_length_le→aA7,length_drop→aA9,ext_getElem?→aAf,getElem?_eq_none→ay3,drop_drop→aBb,length_append→aAZ,getD_eq_getElem?_getD→azp
open Nat renaming mul_one→azD,le_refl→ay7,zero_ne_one→aBd
open Option renaming bind_some→aAh,getD_some→aAB,getD_none→aAA,map_none→aBa,map_some→az3
open UInt8 renaming toNat_inj→aBc
open Go Go.Tw
namespace Go.Proofs.YtaekhhlgnbhnpaaGreat
open Go.Proofs
theorem follows:ayS.follows .mixedOrders=true:=by kernel_rfl
theorem aX {f:FuncId} {fn:Func} {c:Code} (hf:ayS.funcs[f]?=some fn) (once:Nat→Bool) {args:List AV} {r:fF} (hb:fn.body=some c:=by rfl) (hx:(bne fn.name "runtime.NumGoroutine" && (args.length.ble fn.ntmps && lE fn.ntmps c))=true:=by kernel_rfl) (h:eB ayS once fn.ntmps c (xV ayS fn.results.toList fun v m=>jG ayS m v=some r) (jY args) aF.empty):aR ayS f args r:=by
 simp only [Bool.and_eq_true,bne_iff_ne] at hx
 exact arv follows hf hb hx.1 once (Nat.le_of_ble_eq_true hx.2.1) hx.2.2 h
theorem bI {f:FuncId} {fn:Func} {c:Code} (hf:ayS.funcs[f]?=some fn) (once:Nat→Bool) {args:List AV} {m:aF} {Q:AV→aF→Prop} (hb:fn.body=some c:=by rfl) (hx:(bne fn.name "runtime.NumGoroutine" && (args.length.ble fn.ntmps && lE fn.ntmps c))=true:=by kernel_rfl) (h:eB ayS once fn.ntmps c (xV ayS fn.results.toList Q) (jY args) m):fH ayS f args m Q:=by
 simp only [Bool.and_eq_true,bne_iff_ne] at hx
 exact arw follows hf hb hx.1 once (Nat.le_of_ble_eq_true hx.2.1) hx.2.2 h
abbrev TF (t:TypeId) (a b:Option Nat) (c:Option Bool) (d:Option TypeId) (e f:Option (Nat×TypeId)) (g h i j:Bool) (k:Option IntKind):Prop:=cE ayS t=a∧lB ayS t=b∧xK ayS t=c∧bZ ayS t=d∧o6 ayS t=e∧adu ayS t=f∧oH ayS t=g∧rX ayS t=h∧xL ayS t=i∧adv ayS t=j∧aaR ayS t=k
abbrev TZ (t:TypeId) (z:List Value) (k:fZ):Prop:=gN ayS t=some z∧bP ayS t=k
theorem ty1:TF 1 (some 1) (some 8) (some false) none none none false false true false none∧TZ 1 [.nilFunc] .var:=by and_intros <;> kernel_rfl
theorem aI:TF 3 (some 1) (some 8) (some false) none none none false false false false (some .i64)∧TZ 3 [.int .i64 0] .flat:=by and_intros <;> kernel_rfl
theorem aK:TF 4 (some 1) (some 1) (some false) none none none false false true false none∧TZ 4 [.bool false] .flat:=by and_intros <;> kernel_rfl
theorem aP:TF 5 (some 1) (some 1) (some false) none none none false true false false (some .u8)∧TZ 5 [.int .u8 0] .flat:=by and_intros <;> kernel_rfl
theorem dK:TF 9 (some 1) (some 16) (some false) none none none true false true false none∧TZ 9 [.string .empty] .flat:=by and_intros <;> kernel_rfl
theorem aU:TF 23 (some 4) (some 32) (some true) none none none false false true true none∧fN ayS 23 0=some (0,3)∧fN ayS 23 1=some (1,3)∧fN ayS 23 2=some (2,3)∧fN ayS 23 3=some (3,3)∧TZ 23 [.int .i64 0,.int .i64 0,.int .i64 0,.int .i64 0] .flat:=by and_intros <;> kernel_rfl
theorem dH:TF 24 (some 1) (some 24) (some false) (some 131) none none false false true false none∧TZ 24 [.slice none 0 0] .var:=by and_intros <;> kernel_rfl
theorem aW:TF 28 (some 1) (some 8) (some false) none none none false false false false (some .i64)∧TZ 28 [.int .i64 0] .flat:=by and_intros <;> kernel_rfl
theorem dZ:TF 31 (some 1) (some 24) (some false) (some 67) none none false false true false none∧TZ 31 [.slice none 0 0] .var:=by and_intros <;> kernel_rfl
theorem iX:TF 33 (some 3) (some 40) (some true) none none none false false true true none∧fN ayS 33 0=some (0,3)∧fN ayS 33 1=some (1,3)∧fN ayS 33 2=some (2,31)∧TZ 33 [.int .i64 0,.int .i64 0,.slice none 0 0] .var:=by and_intros <;> kernel_rfl
theorem ael:TF 34 (some 1) (some 0) (some false) none none none false false true false none:=by and_intros <;> kernel_rfl
theorem cJ:TF 41 (some 1) (some 24) (some false) (some 3) none none false false true false none∧TZ 41 [.slice none 0 0] .var:=by and_intros <;> kernel_rfl
theorem oP:TF 42 (some 1) (some 0) (some false) none none none false false true false none:=by and_intros <;> kernel_rfl
theorem bV:TF 45 (some 1) (some 24) (some false) (some 52) none none false false true false none∧TZ 45 [.slice none 0 0] .var:=by and_intros <;> kernel_rfl
theorem eC:TF 47 (some 5) (some 56) (some true) none none none false false true true none∧fN ayS 47 0=some (0,23)∧fN ayS 47 1=some (4,45)∧TZ 47 [.int .i64 0,.int .i64 0,.int .i64 0,.int .i64 0,.slice none 0 0] .var:=by and_intros <;> kernel_rfl
theorem dU:TF 50 (some 1) (some 0) (some false) none none none false false true false none:=by and_intros <;> kernel_rfl
theorem aS:TF 52 (some 1) (some 24) (some false) (some 5) none none false false true false none∧TZ 52 [.slice none 0 0] .var:=by and_intros <;> kernel_rfl
theorem eY:TF 53 (some 1) (some 0) (some false) none none none false false true false none:=by and_intros <;> kernel_rfl
theorem dN:TF 67 (some 2) (some 16) (some true) none none none false false true true none∧fN ayS 67 0=some (0,3)∧fN ayS 67 1=some (1,3)∧TZ 67 [.int .i64 0,.int .i64 0] .flat:=by and_intros <;> kernel_rfl
theorem iY:TF 73 (some 1) (some 24) (some false) (some 85) none none false false true false none∧TZ 73 [.slice none 0 0] .var:=by and_intros <;> kernel_rfl
theorem u7:TF 74 (some 1) (some 0) (some false) none none none false false true false none:=by and_intros <;> kernel_rfl
theorem alU:TF 76 (some 1) (some 0) (some false) none none none false false true false none:=by and_intros <;> kernel_rfl
theorem aem:TF 79 (some 2) (some 16) (some true) none none none false false true true none∧fN ayS 79 0=some (0,3)∧fN ayS 79 1=some (1,3)∧TZ 79 [.int .i64 0,.int .i64 0] .flat:=by and_intros <;> kernel_rfl
theorem alV:TF 80 (some 1) (some 0) (some false) none none none false false true false none:=by and_intros <;> kernel_rfl
theorem gU:TF 85 (some 2) (some 24) (some true) none none none false false true true none∧fN ayS 85 0=some (0,9)∧fN ayS 85 1=some (1,3)∧TZ 85 [.string .empty,.int .i64 0] .flat:=by and_intros <;> kernel_rfl
theorem alW:TF 89 (some 1) (some 0) (some false) none none none false false true false none:=by and_intros <;> kernel_rfl
theorem aa0:TF 92 (some 6) (some 96) (some true) none none none false false true true none∧fN ayS 92 0=some (0,33)∧fN ayS 92 1=some (3,3)∧fN ayS 92 2=some (4,31)∧fN ayS 92 3=some (5,31)∧TZ 92 [.int .i64 0,.int .i64 0,.slice none 0 0,.int .i64 0,.slice none 0 0,.slice none 0 0] .var:=by and_intros <;> kernel_rfl
theorem alX:TF 93 (some 1) (some 0) (some false) none none none false false true false none:=by and_intros <;> kernel_rfl
theorem aa1:TF 110 (some 1) (some 0) (some false) none none none false false true false none:=by and_intros <;> kernel_rfl
theorem aa2:TF 118 (some 5) (some 56) (some true) none none none false false true true none∧fN ayS 118 0=some (0,23)∧fN ayS 118 1=some (4,24)∧TZ 118 [.int .i64 0,.int .i64 0,.int .i64 0,.int .i64 0,.slice none 0 0] .var:=by and_intros <;> kernel_rfl
theorem alY:TF 120 (some 1) (some 8) (some false) none none none false false true false none∧TZ 120 [.nilFunc] .var:=by and_intros <;> kernel_rfl
theorem aen:TF 124 (some 1) (some 0) (some false) none none none false false true false none:=by and_intros <;> kernel_rfl
theorem gH:TF 127 (some 6) (some 80) (some true) none none none false false true true none∧fN ayS 127 0=some (0,5)∧fN ayS 127 1=some (1,3)∧fN ayS 127 2=some (2,3)∧fN ayS 127 3=some (3,3)∧fN ayS 127 4=some (4,41)∧fN ayS 127 5=some (5,52)∧TZ 127 [.int .u8 0,.int .i64 0,.int .i64 0,.int .i64 0,.slice none 0 0,.slice none 0 0] .var:=by and_intros <;> kernel_rfl
theorem x6:TF 128 (some 1) (some 0) (some false) none none none false false true false none:=by and_intros <;> kernel_rfl
theorem dA:TF 131 (some 2) (some 48) (some true) none (some (2,52)) none false false true false none∧TZ 131 [.slice none 0 0,.slice none 0 0] .var:=by and_intros <;> kernel_rfl
theorem aeo:TF 132 (some 1) (some 24) (some false) (some 136) none none false false true false none∧TZ 132 [.slice none 0 0] .var:=by and_intros <;> kernel_rfl
theorem alZ:TF 133 (some 1) (some 0) (some false) none none none false false true false none:=by and_intros <;> kernel_rfl
theorem aep:TF 136 (some 2) (some 16) (some true) none (some (2,3)) none false false true false none∧TZ 136 [.int .i64 0,.int .i64 0] .flat:=by and_intros <;> kernel_rfl
theorem al0:TF 140 (some 1) (some 8) (some false) none none none false false true false none∧TZ 140 [.nilFunc] .var:=by and_intros <;> kernel_rfl
theorem u9:TF 149 (some 1) (some 0) (some false) none none none false false true false none:=by and_intros <;> kernel_rfl
theorem aa3:TF 151 (some 1) (some 8) (some false) none none none false false true false none∧TZ 151 [.nilFunc] .var:=by and_intros <;> kernel_rfl
theorem aa4:TF 157 (some 1) (some 0) (some false) none none none false false true false none:=by and_intros <;> kernel_rfl
theorem aa5:TF 161 (some 1) (some 0) (some false) none none none false false true false none:=by and_intros <;> kernel_rfl
theorem aa6:TF 168 (some 1) (some 0) (some false) none none none false false true false none:=by and_intros <;> kernel_rfl
theorem al1:TF 176 (some 1) (some 0) (some false) none none none false false true false none:=by and_intros <;> kernel_rfl
theorem l9:TF 188 (some 1) (some 0) (some false) none none none false false true false none:=by and_intros <;> kernel_rfl
theorem aeq:TF 191 (some 1) (some 8) (some false) none none none false false true false none∧TZ 191 [.nilFunc] .var:=by and_intros <;> kernel_rfl
theorem al2:TF 200 (some 1) (some 0) (some false) none none none false false true false none:=by and_intros <;> kernel_rfl
theorem aa7:TF 206 (some 1) (some 8) (some false) none none none false false true false none∧TZ 206 [.map none] .var:=by and_intros <;> kernel_rfl
theorem al3:TF 208 (some 1) (some 0) (some false) none none none false false true false none:=by and_intros <;> kernel_rfl
theorem x7:TF 223 (some 1) (some 24) (some false) (some 226) none none false false true false none∧TZ 223 [.slice none 0 0] .var:=by and_intros <;> kernel_rfl
theorem x8:TF 226 (some 2) (some 32) (some true) none none none false false true true none∧fN ayS 226 0=some (0,3)∧fN ayS 226 1=some (1,41)∧TZ 226 [.int .i64 0,.slice none 0 0] .var:=by and_intros <;> kernel_rfl
theorem al4:TF 233 (some 1) (some 8) (some false) none none none false false true false none∧TZ 233 [.nilFunc] .var:=by and_intros <;> kernel_rfl
theorem oQ:TF 235 (some 1) (some 8) (some false) none none none false false false false (some .u64)∧TZ 235 [.int .u64 0] .flat:=by and_intros <;> kernel_rfl
theorem aa8:TF 238 (some 1) (some 0) (some false) none none none false false true false none:=by and_intros <;> kernel_rfl
theorem vA:TF 249 (some 1) (some 0) (some false) none none none false false true false none:=by and_intros <;> kernel_rfl
theorem al5:TF 257 (some 1) (some 0) (some false) none none none false false true false none:=by and_intros <;> kernel_rfl
theorem aa9:TF 265 (some 3) (some 24) (some true) none none none false false true true none∧fN ayS 265 0=some (0,3)∧fN ayS 265 1=some (1,3)∧fN ayS 265 2=some (2,3)∧TZ 265 [.int .i64 0,.int .i64 0,.int .i64 0] .flat:=by and_intros <;> kernel_rfl
theorem al6:TF 283 (some 1) (some 8) (some false) none none none false false true false none∧TZ 283 [.nilFunc] .var:=by and_intros <;> kernel_rfl
theorem al7:TF 294 (some 1) (some 4) (some false) none none none false false false false (some .u32)∧TZ 294 [.int .u32 0] .flat:=by and_intros <;> kernel_rfl
theorem al8:TF 299 (some 1) (some 0) (some false) none none none false false true false none:=by and_intros <;> kernel_rfl
theorem aba:TF 302 (some 7) (some 88) (some true) none none none false false true true none∧fN ayS 302 0=some (0,127)∧fN ayS 302 1=some (6,4)∧TZ 302 [.int .u8 0,.int .i64 0,.int .i64 0,.int .i64 0,.slice none 0 0,.slice none 0 0,.bool false] .var:=by and_intros <;> kernel_rfl
theorem abb:TF 304 (some 14) (some 176) (some true) none (some (2,302)) none false false true false none∧TZ 304 [.int .u8 0,.int .i64 0,.int .i64 0,.int .i64 0,.slice none 0 0,.slice none 0 0,.bool false,.int .u8 0,.int .i64 0,.int .i64 0,.int .i64 0,.slice none 0 0,.slice none 0 0,.bool false] .var:=by and_intros <;> kernel_rfl
theorem al9:TF 305 (some 1) (some 0) (some false) none none none false false true false none:=by and_intros <;> kernel_rfl
theorem aer:TF 311 (some 1) (some 8) (some false) none none none false false true false none∧TZ 311 [.nilFunc] .var:=by and_intros <;> kernel_rfl
theorem qF:TF 312 (some 1) (some 0) (some false) none none none false false true false none:=by and_intros <;> kernel_rfl
theorem ama:TF 331 (some 1) (some 8) (some false) none none none false false true false none∧TZ 331 [.map none] .var:=by and_intros <;> kernel_rfl
theorem abc:TF 338 (some 256) (some 256) (some true) none (some (256,5)) none false false true false none:=by and_intros <;> kernel_rfl
theorem amb:TF 352 (some 1) (some 0) (some false) none none none false false true false none:=by and_intros <;> kernel_rfl
def j9:=(⟨aI,aK,aP,dK,aU,aW,cJ,oP,bV,eC,aS,iY,u7,alU,aem,alV,gU⟩:_∧_∧_∧_∧_∧_∧_∧_∧_∧_∧_∧_∧_∧_∧_∧_∧_)
def vB:=(⟨aI,aK,aP,aU,dH,aW,dZ,iX,dU,aS,eY,dN,aa2,aen,dA⟩:_∧_∧_∧_∧_∧_∧_∧_∧_∧_∧_∧_∧_∧_∧_)
def acB:=(⟨aI,aK,aP,aU,bV,eC,aS⟩:_∧_∧_∧_∧_∧_∧_)
def aes:=(⟨aI,aK,aP,aU,aW,dZ,iX,bV,eC,aS,eY,dN,alW⟩:_∧_∧_∧_∧_∧_∧_∧_∧_∧_∧_∧_∧_)
def ag5:=(⟨aI,aK,aP,dK,aU,bV,eC,aS⟩:_∧_∧_∧_∧_∧_∧_∧_)
def mP:=(⟨aI,aK,aP,aU,dH,aW,dZ,iX,aS,eY,dN,aen,dA,u9⟩:_∧_∧_∧_∧_∧_∧_∧_∧_∧_∧_∧_∧_∧_)
def amc:=(⟨aI,aK,aP,aU,aW,bV,eC,dU,aS⟩:_∧_∧_∧_∧_∧_∧_∧_∧_)
def acC:=(⟨aI,aK,aP,aU,bV,eC,aS⟩:_∧_∧_∧_∧_∧_∧_)
def rF:=(⟨aI,aK,aP,aU,aW,cJ,oP,bV,eC,aS,eY⟩:_∧_∧_∧_∧_∧_∧_∧_∧_∧_∧_)
def wF:=(⟨aI,aK,aP,aU,aW,cJ,oP,bV,eC,aS,eY⟩:_∧_∧_∧_∧_∧_∧_∧_∧_∧_∧_)
def gI:=(⟨aI,aK,aP,dK,aU,aW,cJ,oP,bV,eC,aS,eY,iY,u7,gU⟩:_∧_∧_∧_∧_∧_∧_∧_∧_∧_∧_∧_∧_∧_∧_)
def m8:=(⟨aI,aK,aP,dK,aU,aW,cJ,oP,bV,eC,aS,eY,iY,u7,gU⟩:_∧_∧_∧_∧_∧_∧_∧_∧_∧_∧_∧_∧_∧_∧_)
def jJ:=(⟨aI,aK,aP,dK,aU,aW,cJ,oP,bV,eC,dU,aS,iY,u7,gU,aa4⟩:_∧_∧_∧_∧_∧_∧_∧_∧_∧_∧_∧_∧_∧_∧_∧_)
def jZ:=(⟨aI,aK,aP,dK,aU,aW,cJ,oP,bV,eC,dU,aS,iY,u7,aem,gU⟩:_∧_∧_∧_∧_∧_∧_∧_∧_∧_∧_∧_∧_∧_∧_∧_)
def ag6:=(⟨aI,aK,cJ⟩:_∧_∧_)
def x9:=(⟨aI,aK,dK,iY,gU⟩:_∧_∧_∧_∧_)
def abd:=(⟨aI,aK,aP,dK,aW,aS⟩:_∧_∧_∧_∧_∧_)
def j2:=(⟨ty1,aI,aK,aP,aU,dH,aW,dZ,iX,ael,bV,eC,dU,aS,dN,aa1,dA,aa5⟩:_∧_∧_∧_∧_∧_∧_∧_∧_∧_∧_∧_∧_∧_∧_∧_∧_∧_)
def ar6:=(⟨aI,aU,aW,aa6⟩:_∧_∧_∧_)
def ar7:=(⟨aI,aU,aW,aa6⟩:_∧_∧_∧_)
def wG:=(⟨aI,aK,aP,aU,dH,aW,bV,eC,aS,dA⟩:_∧_∧_∧_∧_∧_∧_∧_∧_∧_)
def ag7:=(⟨aI,aK,aP,aU,dH,aW,aS,aa2,alY,dA,aa4⟩:_∧_∧_∧_∧_∧_∧_∧_∧_∧_∧_)
def ar8:=(⟨aI,aK,aP,aU,dH,aW,aS,aa2,dA,aa4⟩:_∧_∧_∧_∧_∧_∧_∧_∧_∧_)
def aet:=(⟨aI,aK,aP,aU,dH,aW,bV,aS,dA,l9⟩:_∧_∧_∧_∧_∧_∧_∧_∧_∧_)
def uD:=(⟨aI,aK,aP,aU,aW,dZ,iX,aS,eY,dN⟩:_∧_∧_∧_∧_∧_∧_∧_∧_∧_)
def lV:=(⟨aI,aK,aP,aU,aW,cJ,dU,aS,gH,al2⟩:_∧_∧_∧_∧_∧_∧_∧_∧_∧_)
def mA:=(⟨aI,aK,aP,aU,dH,aW,cJ,dU,aS,gH,x6,dA,aeo,aep,aa3⟩:_∧_∧_∧_∧_∧_∧_∧_∧_∧_∧_∧_∧_∧_∧_)
def aeu:=(⟨aI,aK,aU⟩:_∧_∧_)
def ar9:=(⟨aI,aU⟩:_∧_)
def amd:=(⟨aI,aK,aP,dK,aS⟩:_∧_∧_∧_∧_)
def acD:=(⟨aI,aK,aP,aU,dH,bV,eC,aS,dA⟩:_∧_∧_∧_∧_∧_∧_∧_∧_)
def yA:=(⟨aI,aK,aP,aU,dH,aW,dZ,bV,eC,dU,aS,eY,dN,aa1,dA⟩:_∧_∧_∧_∧_∧_∧_∧_∧_∧_∧_∧_∧_∧_∧_)
def aev:=(⟨aI,aK,aP,aU,aW,dZ,iX,bV,eC,aS,eY,dN,aa0,alX⟩:_∧_∧_∧_∧_∧_∧_∧_∧_∧_∧_∧_∧_∧_)
def asa:=(⟨aI,aU,aW,dU⟩:_∧_∧_∧_)
def ag8:=(⟨aI,aU⟩:_∧_)
def i9:=(⟨aI,aK,aP,aU,dH,aW,dZ,iX,ael,bV,eC,aS,eY,dN,aa0,dA,u9,aa5⟩:_∧_∧_∧_∧_∧_∧_∧_∧_∧_∧_∧_∧_∧_∧_∧_∧_∧_)
def abe:=(⟨aI,aK,aP,aU,aW,dZ,iX,bV,eC,aS,eY,dN,aa0⟩:_∧_∧_∧_∧_∧_∧_∧_∧_∧_∧_∧_∧_)
def abf:=(⟨aI,aK,aP,aU,aW,dZ,iX,aS,eY,dN⟩:_∧_∧_∧_∧_∧_∧_∧_∧_∧_)
def acE:=(⟨aI,aK,aP,aU,dH,aW,aS,dA⟩:_∧_∧_∧_∧_∧_∧_∧_)
def acF:=(⟨aI,aK,aP,aU,dH,cJ,aS,dA,x7,x8⟩:_∧_∧_∧_∧_∧_∧_∧_∧_∧_)
def ayx:=(⟨aI,aK⟩:_∧_)
def aew:=(⟨aI,aK,aP,aU,dH,aW,bV,aS,dA,l9⟩:_∧_∧_∧_∧_∧_∧_∧_∧_∧_)
def iU:=(⟨aI,aK,aP,dK,aU,aW,dZ,iX,aS,dN⟩:_∧_∧_∧_∧_∧_∧_∧_∧_∧_)
def aex:=(⟨aI,aK,aU,aW⟩:_∧_∧_∧_)
def ame:=(⟨aI,aK,aP,aU,aW,cJ,bV,eC,aS,gH,x6⟩:_∧_∧_∧_∧_∧_∧_∧_∧_∧_∧_)
def aey:=(⟨aI,aK,aP,aU,aW,cJ,aS,al4,oQ⟩:_∧_∧_∧_∧_∧_∧_∧_∧_)
def uE:=(⟨aI,aK,aP,aU,aW,bV,eC,aS⟩:_∧_∧_∧_∧_∧_∧_∧_)
def sM:=(⟨aI,aK,aP,aU,aW,cJ,aS⟩:_∧_∧_∧_∧_∧_∧_)
def yB:=(⟨aI,aK,aP,aU,aW,bV,eC,dU,aS⟩:_∧_∧_∧_∧_∧_∧_∧_∧_)
def rG:=(⟨aI,aK,aP,dK,aU,aW,dU,aS,iY,gU,oQ⟩:_∧_∧_∧_∧_∧_∧_∧_∧_∧_∧_)
def nS:=(⟨aI,aK,aP,dK,aU,aW,aS,iY,gU⟩:_∧_∧_∧_∧_∧_∧_∧_∧_)
def acG:=(⟨aI,aK,dK,aU,aW,iY,gU,aa8⟩:_∧_∧_∧_∧_∧_∧_∧_)
def aez:=(⟨aK,dK,aW⟩:_∧_∧_)
def abg:=(⟨aI,aK,aP,dK,aW⟩:_∧_∧_∧_∧_)
def amf:=(⟨aI,aK,dK,aW⟩:_∧_∧_∧_)
def amg:=(⟨aI,aK,aW,dZ,iX,dN⟩:_∧_∧_∧_∧_∧_)
def asb:=(⟨aI,aK,dZ,dN⟩:_∧_∧_∧_)
def asc:=(⟨aI,aU,aW,dU⟩:_∧_∧_∧_)
def yC:=(⟨aI,aK,aP,aU,dH,aW,dZ,bV,eC,aS,eY,dN,aa1,dA,aa5⟩:_∧_∧_∧_∧_∧_∧_∧_∧_∧_∧_∧_∧_∧_∧_)
def acH:=(⟨aI,aK,aU,aW⟩:_∧_∧_∧_)
def yD:=(⟨aI,aK,aP,aU,dH,cJ,bV,aS,gH,dA,vA⟩:_∧_∧_∧_∧_∧_∧_∧_∧_∧_∧_)
def amh:=(⟨aI,aK,aP,aS⟩:_∧_∧_∧_)
def acI:=(⟨aI,aK,aP,aU,dH,aW,cJ,oP,aS,dA⟩:_∧_∧_∧_∧_∧_∧_∧_∧_∧_)
def aeA:=(⟨aI,aK,aP,aU,dH,aW,bV,aS,dA,l9,aeq⟩:_∧_∧_∧_∧_∧_∧_∧_∧_∧_∧_)
def vC:=(⟨aI,aK,aP,aU,dH,aW,cJ,aS,gH,dA,aeq,al5⟩:_∧_∧_∧_∧_∧_∧_∧_∧_∧_∧_∧_)
def lG:=(⟨aI,aK,aP,aU,dH,aW,cJ,aS,gH,x6,dA⟩:_∧_∧_∧_∧_∧_∧_∧_∧_∧_∧_)
def ami:=(⟨aI,aK,aP,aU,dH,aW,bV,aS,dA,l9⟩:_∧_∧_∧_∧_∧_∧_∧_∧_∧_)
def acJ:=(⟨aI,aK,aP,aU,aW,dU,aS⟩:_∧_∧_∧_∧_∧_∧_)
def amj:=(⟨aI,aP,aS,oQ⟩:_∧_∧_∧_)
def asd:=(⟨aI,aK,aP,dZ,aS,dN⟩:_∧_∧_∧_∧_∧_)
def ayy:=(⟨aK,aP,dK,aS⟩:_∧_∧_∧_)
def ag9:=(⟨aI,aK,aU,aW,dU⟩:_∧_∧_∧_∧_)
def amk:=(⟨aI,aP,aS,oQ⟩:_∧_∧_∧_)
def abh:=(⟨aI,aK,aP,aU,aW,cJ,dU,aS,gH⟩:_∧_∧_∧_∧_∧_∧_∧_∧_)
def ase:=(⟨aI,aU,aW,dU⟩:_∧_∧_∧_)
def ayz:=(⟨aI,aK,cJ,aa3⟩:_∧_∧_∧_)
def asf:=(⟨aI,aK,aP,cJ,aS,gH⟩:_∧_∧_∧_∧_∧_)
def aeB:=(⟨aI,aK,aP,aW,bV,aS,l9,aa7,aa9⟩:_∧_∧_∧_∧_∧_∧_∧_∧_)
def aeC:=(⟨aI,aK,aP,cJ,bV,aS⟩:_∧_∧_∧_∧_∧_)
def aml:=(⟨aI,aK,aP,aW,bV,aS,eY,aa7,aa9⟩:_∧_∧_∧_∧_∧_∧_∧_∧_)
def amm:=(⟨aI,aK,aU⟩:_∧_∧_)
def asg:=(⟨aI,aU,aW,dU⟩:_∧_∧_∧_)
def aha:=(⟨aI,aK,aU,aW,al0⟩:_∧_∧_∧_∧_)
def ahb:=(⟨aI,aU⟩:_∧_)
def ash:=(⟨aI,aU⟩:_∧_)
def asi:=(⟨aI,aU⟩:_∧_)
def asj:=(⟨aI,aU⟩:_∧_)
def ahc:=(⟨aI,aK,aU⟩:_∧_∧_)
def mQ:=(⟨aI,aK,aP,dK,aU,aW,dZ,aS,dN⟩:_∧_∧_∧_∧_∧_∧_∧_∧_)
def amn:=(⟨aI,aP,aU,dH,aW,bV,eC,aS,eY,dN,dA⟩:_∧_∧_∧_∧_∧_∧_∧_∧_∧_∧_)
def iM:=(⟨aI,aK,aU,aW,dZ,iX,dU,dN⟩:_∧_∧_∧_∧_∧_∧_∧_)
def ask:=(⟨aI,aK,aP,aS⟩:_∧_∧_∧_)
def amo:=(⟨aI,aK,aP,aU,aW,dU,aS⟩:_∧_∧_∧_∧_∧_∧_)
def ahd:=(⟨aI,aP,dZ,aS,dN⟩:_∧_∧_∧_∧_)
def aeD:=(⟨aI,aK,aP,aU,dH,aS,dA⟩:_∧_∧_∧_∧_∧_∧_)
def uF:=(⟨aI,aK,aP,aU,dH,cJ,aS,dA,x7,x8⟩:_∧_∧_∧_∧_∧_∧_∧_∧_∧_)
def abi:=(⟨aI,aP,aU,dZ,iX,aS,dN⟩:_∧_∧_∧_∧_∧_∧_)
def aeE:=(⟨aI,aK,aP,aU,dH,aW,bV,aS,dA,al1,l9⟩:_∧_∧_∧_∧_∧_∧_∧_∧_∧_∧_)
def amp:=(⟨aI,aK,aP,aS⟩:_∧_∧_∧_)
def asl:=(⟨aI,aK,aP,dZ,aS,dN⟩:_∧_∧_∧_∧_∧_)
def eZ:=(⟨aI,aK,aU,aW,dZ,iX,dU,dN⟩:_∧_∧_∧_∧_∧_∧_∧_)
def pC:=(⟨aI,aK,aP,aU,dH,cJ,aS,gH,dA,vA⟩:_∧_∧_∧_∧_∧_∧_∧_∧_∧_)
def amq:=(⟨aI,aU⟩:_∧_)
def asm:=(⟨aI,aU⟩:_∧_)
def wH:=(⟨aI,aK,dK,aU,aW,dU,iY,gU⟩:_∧_∧_∧_∧_∧_∧_∧_)
def sN:=(⟨aI,aK,dK,aU,iY,gU⟩:_∧_∧_∧_∧_∧_)
def ayA:=(⟨aI,aK,dK,iY,gU,aa8⟩:_∧_∧_∧_∧_∧_)
def amr:=(⟨aI,aK,dK⟩:_∧_∧_)
def asn:=(⟨aI,aU⟩:_∧_)
def rH:=(⟨aI,aK,aP,aU,aW,dZ,dU,aS,eY,dN⟩:_∧_∧_∧_∧_∧_∧_∧_∧_∧_)
theorem ayB:(type_of% aI):=aI
def aso:=(⟨aI,aU⟩:_∧_)
def asp:=(⟨aI,aU⟩:_∧_)
def rI:=(⟨aI,aK,aP,aU,cJ,aS,gH,dA,vA⟩:_∧_∧_∧_∧_∧_∧_∧_∧_)
def abj:=(⟨aI,aK,aP,aU,cJ,aS,gH,vA⟩:_∧_∧_∧_∧_∧_∧_∧_)
def ams:=(⟨aI,aK,aP,aU,dH,aW,dU,aS,dA⟩:_∧_∧_∧_∧_∧_∧_∧_∧_)
def acK:=(⟨aI,aK,aP,aU,dH,aW,cJ,aS,dA,x7,x8,al8⟩:_∧_∧_∧_∧_∧_∧_∧_∧_∧_∧_∧_)
def qG:=(⟨aI,aK,aP,aU,dH,aW,dU,aS,dA⟩:_∧_∧_∧_∧_∧_∧_∧_∧_)
def ayC:=(⟨aI,aK,aP,aW⟩:_∧_∧_∧_)
def ahe:=(⟨aI,aP,cJ,bV,aS,gH⟩:_∧_∧_∧_∧_∧_)
def zW:=(⟨aI,aK,aP,aW,cJ,bV,aS,eY,l9,aa7,al3,aa9⟩:_∧_∧_∧_∧_∧_∧_∧_∧_∧_∧_∧_)
def zX:=(⟨aI,aK,aP,aU,aW,cJ,aS,gH,dA,aba,abb,al9⟩:_∧_∧_∧_∧_∧_∧_∧_∧_∧_∧_∧_)
def ahf:=(⟨aI,aK,aU,aW,cJ⟩:_∧_∧_∧_∧_)
def asq:=(⟨aI,aU⟩:_∧_)
def amt:=(⟨aI,aK,cJ,aa3⟩:_∧_∧_∧_)
def ayD:=(⟨aI,aK,aP,aW,bV,aS⟩:_∧_∧_∧_∧_∧_)
def asr:=(⟨aI,aK,aP,aW,bV,aS,aer⟩:_∧_∧_∧_∧_∧_∧_)
def ahg:=(⟨aI,aK,aP,aW,bV,aS⟩:_∧_∧_∧_∧_∧_)
theorem ayE:(type_of% aI):=aI
def aeF:=(⟨aI,aK,aU,dZ,dN⟩:_∧_∧_∧_∧_)
def amu:=(⟨aI,aP,aU,aS⟩:_∧_∧_∧_)
def acL:=(⟨aI,aK,aP,dZ,aS,dN⟩:_∧_∧_∧_∧_∧_)
def ass:=(⟨aI,aU,aW,aa6⟩:_∧_∧_∧_)
def abk:=(⟨aI,aK,aU,dZ,dN⟩:_∧_∧_∧_∧_)
def ayF:=(⟨aI,aK⟩:_∧_)
def aeG:=(⟨aI,aK,aP,aU,aS,dA⟩:_∧_∧_∧_∧_∧_)
def wJ:=(⟨aI,aK,aP,aU,cJ,aS,gH,vA⟩:_∧_∧_∧_∧_∧_∧_∧_)
def ahh:=(⟨aI,aK,aP,aU,dH,aS,dA⟩:_∧_∧_∧_∧_∧_∧_)
def ast:=(⟨aI,aK,aP,aS⟩:_∧_∧_∧_)
def abl:=(⟨aI,aK,aP,aW,bV,aS,eY,l9,aa8⟩:_∧_∧_∧_∧_∧_∧_∧_∧_)
def ahi:=(⟨aI,aK,aU,aW,u9⟩:_∧_∧_∧_∧_)
def ahj:=(⟨aI,aK,aU,aW,u9⟩:_∧_∧_∧_∧_)
def ahk:=(⟨aI,aK,aU,aW,u9⟩:_∧_∧_∧_∧_)
def ahl:=(⟨aI,aK,dK,aU,aW,gU⟩:_∧_∧_∧_∧_∧_)
def asu:=(⟨aK,dK⟩:_∧_)
def amv:=(⟨aI,dK,iY,gU⟩:_∧_∧_∧_)
def aeH:=(⟨aI,aK,dK,aU,gU⟩:_∧_∧_∧_∧_)
def wK:=(⟨aI,aK,aP,dK⟩:_∧_∧_∧_)
def acM:=(⟨aI,aK,dK,iY,gU,oQ,al6⟩:_∧_∧_∧_∧_∧_∧_)
def asv:=(⟨aI,dK,gU⟩:_∧_∧_)
def ayG:=(⟨aI,dK⟩:_∧_)
def acN:=(⟨aI,aK,aP,aU,aW,dZ,dU,aS,eY,dN⟩:_∧_∧_∧_∧_∧_∧_∧_∧_∧_)
def m9:=(⟨aI,aK,aP,aU,cJ,aS,gH⟩:_∧_∧_∧_∧_∧_∧_)
def vD:=(⟨aI,aK,aP,aU,dH,aW,cJ,aS,dA,aeo,alZ,aep,x7,x8,ama⟩:_∧_∧_∧_∧_∧_∧_∧_∧_∧_∧_∧_∧_∧_∧_)
def amw:=(⟨aI,aK,aP,aW,bV,aS,l9⟩:_∧_∧_∧_∧_∧_∧_)
def sO:=(⟨aI,aK,aP,aU,aW,cJ,dU,aS,gH,x6,dA,aba,abb⟩:_∧_∧_∧_∧_∧_∧_∧_∧_∧_∧_∧_∧_)
def wL:=(⟨aI,aK,aP,cJ,aS,gH,aba,abb⟩:_∧_∧_∧_∧_∧_∧_∧_)
def zY:=(⟨aI,aK,aU,aW,cJ,dU⟩:_∧_∧_∧_∧_∧_)
def aeI:=(⟨aI,aP,bV,aS,aer⟩:_∧_∧_∧_∧_)
def ayH:=(⟨aI,aK,aP⟩:_∧_∧_)
def asw:=(⟨aI,aP,aW,qF⟩:_∧_∧_∧_)
def ayI:=(⟨aP,aW,qF⟩:_∧_∧_)
theorem ayJ:(type_of% aP):=aP
def amx:=(⟨aI,aK,aP,bV,aS⟩:_∧_∧_∧_∧_)
def aeJ:=(⟨aI,aK,aP,aS,abc⟩:_∧_∧_∧_∧_)
def acO:=(⟨aI,aK,aU,dN⟩:_∧_∧_∧_)
def ayK:=(⟨aI,aK⟩:_∧_)
def aeK:=(⟨aI,aK,aP,bV,aS⟩:_∧_∧_∧_∧_)
def asx:=(⟨aI,aK,aP,aW,bV,aS,eY⟩:_∧_∧_∧_∧_∧_∧_)
def amy:=(⟨aI,aK,aP,aW,bV,aS,l9⟩:_∧_∧_∧_∧_∧_∧_)
def acP:=(⟨aI,aK,aP,aW,bV,aS,qF⟩:_∧_∧_∧_∧_∧_∧_)
def abm:=(⟨aI,aK,aP,aW,bV,aS⟩:_∧_∧_∧_∧_∧_)
def abn:=(⟨aI,aK,aU,aW⟩:_∧_∧_∧_)
def asy:=(⟨aI,aP,aS⟩:_∧_∧_)
def nT:=(⟨aI,aK,aP,aU,cJ,aS,gH⟩:_∧_∧_∧_∧_∧_∧_)
def amz:=(⟨aI,aK,aP,aW,bV,aS⟩:_∧_∧_∧_∧_∧_)
def qH:=(⟨aI,aK,aP,aW,bV,aS,qF⟩:_∧_∧_∧_∧_∧_∧_)
def amA:=(⟨aI,aP,bV,aS⟩:_∧_∧_∧_)
def ayL:=(⟨aI,aK⟩:_∧_)
def ahm:=(⟨aI,aK,aP,aW,abc,amb⟩:_∧_∧_∧_∧_∧_)
def ayM:=(⟨aK,aP,oQ⟩:_∧_∧_)
def amB:=(⟨aI,aK,aP,aW,bV,aS,qF⟩:_∧_∧_∧_∧_∧_∧_)
def ahn:=(⟨aI,aK,aP,aW,bV,aS⟩:_∧_∧_∧_∧_∧_)
def asz:=(⟨aI,aK,aP,bV,aS⟩:_∧_∧_∧_∧_)
def aeL:=(⟨aI,aK,aP,bV,aS⟩:_∧_∧_∧_∧_)
def ayN:=(⟨aK,aP,aW,qF⟩:_∧_∧_∧_)
def acQ:=(⟨aI,aK,aP,aS⟩:_∧_∧_∧_)
def aeM:=(⟨aI,aK,aU,cJ⟩:_∧_∧_∧_)
def amC:=(⟨aI,aP,aS⟩:_∧_∧_)
def amD:=(⟨aI,aP,aS⟩:_∧_∧_)
def asA:=(⟨aK,aP,bV,aS⟩:_∧_∧_∧_)
def asC:=(⟨aK,aP,aS⟩:_∧_∧_)
def amE:=(⟨aI,aK,aP,abc⟩:_∧_∧_∧_)
def ayO:=(⟨aP,oQ⟩:_∧_)
def aho:=(⟨aI,aK,aP,aW⟩:_∧_∧_∧_)
def ahp:=(⟨aI,aK,aP,aW,aS,qF⟩:_∧_∧_∧_∧_∧_)
def aeN:=(⟨aI,aK,aP,oQ,al7⟩:_∧_∧_∧_∧_)
end Go.Proofs.YtaekhhlgnbhnpaaGreat
set_option linter.unusedVariables false
set_option linter.unusedSimpArgs false
set_option maxRecDepth 10000
namespace Go.Proofs.YtaekhhlgnbhnpaaGreat
open Go Go.Tw Go.Proofs
def aB:Nat→Bool:=fun _=>true
abbrev aA (k r c w:Int):AV := .agg [aC k,aC r,aC c,aC w]
def bG (k r c w:Int):Bool:=decide (1≤k∧k≤12∧0≤r∧r≤4∧8≤c∧c≤64∧8≤w∧w≤256∧32≤k*c)
theorem eD {n:Int} (h : -9223372036854775808≤n) (a:n≤9223372036854775807):azv.wrap n=n:=by
 simp only [IntKind.wrap,IntKind.bits,IntKind.signed];simp;split <;> omega
theorem acR {k c:Int} (d:1≤k) (e:k≤12) (f:8≤c) (g:c≤64):8≤k*c∧k*c≤768:=by
 have a:1*8≤k*c:=aA1 d f (by omega) (by omega);have b:k*c≤12*64:=aA1 e g (by omega) (by omega);omega
theorem jA {k r c w:Int}:bG k r c w=true↔(1≤k∧k≤12∧0≤r∧r≤4∧8≤c∧c≤64∧8≤w∧w≤256∧32≤k*c):=by simp [bG]
theorem g9 {k r c w:Int} (h:bG k r c w=true):32≤k*c∧k*c≤768:=by
 rw [jA] at h;have:=acR h.1 h.2.1 h.2.2.2.2.1 h.2.2.2.2.2.1;omega
def wI (k c:Int):Int:=k*c
def dI (k c:Int):Int:=(k*c - 7) / 6
def lI (k c:Int):Int:=k*c / 6
def mI (k c:Int):Int:=min 32768 (dI k c*lI k c*(k*c))
theorem sP (k r c w:Int):aR ayS 119 [aA k r c w] ⟨aC (if bG k r c w then 0 else 2),[]⟩:=by
 refine aX Tryz.func119 aB (h:=?_);unfold Tryz.f119;by_cases a:1≤k∧k≤12∧8≤c∧c≤64
 ·have b:azv.wrap (k*c)=k*c:=eD (by have:=acR a.1 a.2.1 a.2.2.1 a.2.2.2;omega) (by have:=acR a.1 a.2.1 a.2.2.1 a.2.2.2;omega);replace a:=Hid.mk a;simp only [↓pre,simprocAttr,aA,sx,aex,aB];repeat' ((first | refine cU (fun _ => ?_) (fun _ => ?_) | refine cO (fun _ => ?_) (fun _ => ?_) | refine cV (fun _ => ?_) (fun _ => ?_) | refine cQ (fun _ => ?_) (fun _ => ?_) | refine cS (fun _ => ?_) (fun _ => ?_) | refine cM (fun _ => ?_) (fun _ => ?_)) <;> simp only [↓pre,simprocAttr,sx,aex,aB, *])
  all_goals skip
  all_goals have a:=a.out
  all_goals (first | (exfalso;omega) | (rw [if_neg (by rw [jA];omega)];done) | (rw [if_pos (by rw [jA];omega)];done))
 ·replace a:=Hid.mk a;simp only [↓pre,simprocAttr,aA,sx,aex,aB];repeat' ((first | refine cU (fun _ => ?_) (fun _ => ?_) | refine cO (fun _ => ?_) (fun _ => ?_) | refine cV (fun _ => ?_) (fun _ => ?_) | refine cQ (fun _ => ?_) (fun _ => ?_) | refine cS (fun _ => ?_) (fun _ => ?_) | refine cM (fun _ => ?_) (fun _ => ?_)) <;> simp only [↓pre,simprocAttr,sx,aex,aB, *])
  all_goals skip
  all_goals have a:=a.out
  all_goals (first | (exfalso;omega) | (rw [if_neg (by rw [jA];omega)];done))
theorem nA (k r c w:Int):aR ayS 97 [aA k r c w] ⟨aV (bG k r c w),[]⟩:=by
 refine aX Tryz.func97 aB (h:=?_);unfold Tryz.f97;by_cases a:1≤k∧k≤12∧8≤c∧c≤64
 ·have b:azv.wrap (k*c)=k*c:=eD (by have:=acR a.1 a.2.1 a.2.2.1 a.2.2.2;omega) (by have:=acR a.1 a.2.1 a.2.2.1 a.2.2.2;omega);replace a:=Hid.mk a;simp only [↓pre,simprocAttr,aA,sx,aeu,aB];repeat' ((first | refine cU (fun _ => ?_) (fun _ => ?_) | refine cO (fun _ => ?_) (fun _ => ?_) | refine cV (fun _ => ?_) (fun _ => ?_) | refine cQ (fun _ => ?_) (fun _ => ?_) | refine cS (fun _ => ?_) (fun _ => ?_) | refine cM (fun _ => ?_) (fun _ => ?_)) <;> simp only [↓pre,simprocAttr,sx,aeu,aB, *])
  all_goals refine xY ?_
  all_goals simp only [decide_eq_true_eq,jA,reduceCtorEq,false_iff]
  all_goals have a:=a.out
  all_goals omega
 ·replace a:=Hid.mk a;simp only [↓pre,simprocAttr,aA,sx,aeu,aB];repeat' ((first | refine cU (fun _ => ?_) (fun _ => ?_) | refine cO (fun _ => ?_) (fun _ => ?_) | refine cV (fun _ => ?_) (fun _ => ?_) | refine cQ (fun _ => ?_) (fun _ => ?_) | refine cS (fun _ => ?_) (fun _ => ?_) | refine cM (fun _ => ?_) (fun _ => ?_)) <;> simp only [↓pre,simprocAttr,sx,aeu,aB, *])
  all_goals refine xY ?_
  all_goals simp only [decide_eq_true_eq,jA,reduceCtorEq,false_iff]
  all_goals have a:=a.out
  all_goals omega
theorem wM (k r c w:Int) (h:bG k r c w=true):aR ayS 222 [aA k r c w] ⟨aC (wI k c),[]⟩:=by
 refine aX Tryz.func222 aB (h:=?_);unfold Tryz.f222;have a:azv.wrap (k*c)=k*c:=eD (by have:=g9 h;omega) (by have:=g9 h;omega);simp only [↓pre,simprocAttr,aA,sx,aso,a,aB,wI]
theorem abo {a b:Int} (h:0≤a):a.tdiv b=a / b:=Int.tdiv_eq_ediv_of_nonneg h
theorem yE {x:Int} (h:32≤x) (a:x≤768):4≤(x - 7) / 6∧(x - 7) / 6≤126:=by omega
theorem sQ {x:Int} (h:32≤x) (a:x≤768):5≤x / 6∧x / 6≤128:=by omega
theorem amF {x:Int} (h:32≤x) (e:x≤768):20≤(x - 7) / 6*(x / 6)∧(x - 7) / 6*(x / 6)≤16128∧640≤(x - 7) / 6*(x / 6)*x∧(x - 7) / 6*(x / 6)*x≤12386304:=by
 have f:=yE h e;have g:=sQ h e;have a:4*5≤(x - 7) / 6*(x / 6):=aA1 f.1 g.1 (by omega) (by omega);have b:(x - 7) / 6*(x / 6)≤126*128:=aA1 f.2 g.2 (by omega) (by omega);have c:20*32≤(x - 7) / 6*(x / 6)*x:=aA1 (by omega) h (by omega) (by omega);have d:(x - 7) / 6*(x / 6)*x≤16128*768:=aA1 (by omega) e (by omega) (by omega);omega
theorem aeO (k r c w:Int) (h:bG k r c w=true):aR ayS 223 [aA k r c w] ⟨aC (dI k c),[]⟩:=by
 refine aX Tryz.func223 aB (h:=?_);unfold Tryz.f223;have a:=g9 h;simp only [↓pre,simprocAttr,aA,sx,asp,aB]
 (first | refine aH (wM _ _ _ _ h) rfl ?_ | refine aG (wM _ _ _ _ h) rfl (by intro k;first | rfl | simp only [ *,zaa]) ?_)
 simp only [↓pre,simprocAttr,sx,aB,wI,eD (show -9223372036854775808≤k*c - 7 by omega) (by omega),abo (show 0≤k*c - 7 by omega),eD (show -9223372036854775808≤(k*c - 7) / 6 by omega) (by omega),dI]
theorem acS (k r c w:Int) (h:bG k r c w=true):aR ayS 216 [aA k r c w] ⟨aC (lI k c),[]⟩:=by
 refine aX Tryz.func216 aB (h:=?_);unfold Tryz.f216;have a:=g9 h;simp only [↓pre,simprocAttr,aA,sx,asn,aB]
 (first | refine aH (wM _ _ _ _ h) rfl ?_ | refine aG (wM _ _ _ _ h) rfl (by intro k;first | rfl | simp only [ *,zaa]) ?_)
 simp only [↓pre,simprocAttr,sx,aB,wI,abo (show 0≤k*c by omega),eD (show -9223372036854775808≤(k*c) / 6 by omega) (by omega),lI]
theorem asD (k c:Int):min (dI k c*lI k c*wI k c) 32768=mI k c:=by unfold mI wI;omega
theorem amG {k r c w:Int} (h:bG k r c w=true):azv.wrap (dI k c*lI k c)=dI k c*lI k c:=by
 have a:=g9 h;have:=amF a.1 a.2;unfold dI lI;exact eD (by omega) (by omega)
theorem amH {k r c w:Int} (h:bG k r c w=true):azv.wrap (dI k c*lI k c*wI k c)=dI k c*lI k c*wI k c:=by
 have a:=g9 h;have:=amF a.1 a.2;unfold dI lI wI;exact eD (by omega) (by omega)
theorem ahq (k r c w:Int) (h:bG k r c w=true):aR ayS 184 [aA k r c w] ⟨aC (mI k c),[]⟩:=by
 refine aX Tryz.func184 aB (h:=?_);unfold Tryz.f184;simp only [↓pre,simprocAttr,aA,sx,ahb,aB]
 (first | refine aH (aeO _ _ _ _ h) rfl ?_ | refine aG (aeO _ _ _ _ h) rfl (by intro k;first | rfl | simp only [ *,zaa]) ?_)
 simp only [↓pre,simprocAttr,sx,ahb,aB]
 (first | refine aH (acS _ _ _ _ h) rfl ?_ | refine aG (acS _ _ _ _ h) rfl (by intro k;first | rfl | simp only [ *,zaa]) ?_)
 simp only [↓pre,simprocAttr,sx,ahb,aB]
 (first | refine aH (wM _ _ _ _ h) rfl ?_ | refine aG (wM _ _ _ _ h) rfl (by intro k;first | rfl | simp only [ *,zaa]) ?_)
 simp only [↓pre,simprocAttr,sx,aB,amG h,amH h,asD]
def gR (a b:Int):Int:=(a+b - 1) / b
theorem aeP (a b:Int) (n:0≤a) (f:a≤1000000) (m:1≤b) (e:b≤1000000):aR ayS 221 [aC a,aC b] ⟨aC (gR a b),[]⟩:=by
 refine aX Tryz.func221 aB (h:=?_);unfold Tryz.f221;have j:azv.wrap (b - 1)=b - 1:=eD (by omega) (by omega);have i:azv.wrap (a+(b - 1))=a+(b - 1):=eD (by omega) (by omega);have d:(a+(b - 1)).tdiv b=gR a b:=by rw [abo (by omega)];unfold gR;congr 1;omega
 have l:0≤gR a b:=by unfold gR;exact aA2 (by omega) (by omega)
 have k:gR a b≤2000000:=by unfold gR;exact Int.le_trans (Int.ediv_le_self _ (by omega)) (by omega)
 have g:azv.wrap (gR a b)=gR a b:=eD (by omega) (by omega);have c:b≠0:=by omega
 simp only [↓pre,simprocAttr,sx,aB,j,i,d,g,c]
theorem aeQ (a b:Int) (n:0≤a) (f:a≤1000000) (m:1≤b) (e:b≤1000000):aR ayS 246 [aC a,aC b] ⟨aC (gR a b),[]⟩:=by
 refine aX Tryz.func246 aB (h:=?_);unfold Tryz.f246;have i:azv.wrap (a+b)=a+b:=eD (by omega) (by omega);have j:azv.wrap (a+b - 1)=a+b - 1:=eD (by omega) (by omega);have d:(a+b - 1).tdiv b=gR a b:=by rw [abo (by omega)];unfold gR;rfl
 have l:0≤gR a b:=by unfold gR;exact aA2 (by omega) (by omega)
 have k:gR a b≤2000000:=by unfold gR;exact Int.le_trans (Int.ediv_le_self _ (by omega)) (by omega)
 have g:azv.wrap (gR a b)=gR a b:=eD (by omega) (by omega);have c:b≠0:=by omega
 simp only [↓pre,simprocAttr,sx,aB,j,i,d,g,c]
theorem sS (k r c w:Int) (h:bG k r c w=true):aR ayS 187 [aA k r c w] ⟨aC (wI k c),[]⟩:=by
 refine aX Tryz.func187 aB (h:=?_);unfold Tryz.f187;have a:azv.wrap (k*c)=k*c:=eD (by have:=g9 h;omega) (by have:=g9 h;omega);simp only [↓pre,simprocAttr,aA,sx,asj,a,aB,wI]
theorem acT (k r c w:Int) (h:bG k r c w=true):aR ayS 185 [aA k r c w] ⟨aC (dI k c),[]⟩:=by
 refine aX Tryz.func185 aB (h:=?_);unfold Tryz.f185;have a:=g9 h;simp only [↓pre,simprocAttr,aA,sx,ash,aB]
 (first | refine aH (sS _ _ _ _ h) rfl ?_ | refine aG (sS _ _ _ _ h) rfl (by intro k;first | rfl | simp only [ *,zaa]) ?_)
 simp only [↓pre,simprocAttr,sx,aB,wI,eD (show -9223372036854775808≤k*c - 7 by omega) (by omega),abo (show 0≤k*c - 7 by omega),eD (show -9223372036854775808≤(k*c - 7) / 6 by omega) (by omega),dI]
theorem abp (k r c w:Int) (h:bG k r c w=true):aR ayS 186 [aA k r c w] ⟨aC (lI k c),[]⟩:=by
 refine aX Tryz.func186 aB (h:=?_);unfold Tryz.f186;have a:=g9 h;simp only [↓pre,simprocAttr,aA,sx,asi,aB]
 (first | refine aH (sS _ _ _ _ h) rfl ?_ | refine aG (sS _ _ _ _ h) rfl (by intro k;first | rfl | simp only [ *,zaa]) ?_)
 simp only [↓pre,simprocAttr,sx,aB,wI,abo (show 0≤k*c by omega),eD (show -9223372036854775808≤(k*c) / 6 by omega) (by omega),lI]
theorem asE (k c:Int):min 32768 (dI k c*lI k c*wI k c)=mI k c:=by unfold mI wI;omega
theorem abq (k r c w:Int) (h:bG k r c w=true):aR ayS 106 [aA k r c w] ⟨aC (mI k c),[]⟩:=by
 refine aX Tryz.func106 aB (h:=?_);unfold Tryz.f106;simp only [↓pre,simprocAttr,aA,sx,ag8,aB]
 (first | refine aH (acT _ _ _ _ h) rfl ?_ | refine aG (acT _ _ _ _ h) rfl (by intro k;first | rfl | simp only [ *,zaa]) ?_)
 simp only [↓pre,simprocAttr,sx,ag8,aB]
 (first | refine aH (abp _ _ _ _ h) rfl ?_ | refine aG (abp _ _ _ _ h) rfl (by intro k;first | rfl | simp only [ *,zaa]) ?_)
 simp only [↓pre,simprocAttr,sx,ag8,aB]
 (first | refine aH (sS _ _ _ _ h) rfl ?_ | refine aG (sS _ _ _ _ h) rfl (by intro k;first | rfl | simp only [ *,zaa]) ?_)
 simp only [↓pre,simprocAttr,sx,aB,amG h,amH h,asE]
def sI (k c n:Int):Int:=gR n (wI k c)
def fI (k c n:Int):Int:=if sI k c n≤dI k c then 0 else gR (sI k c n) (lI k c)
theorem abr {a b:Int} (e:0≤a) (d:a≤32768) (f:1≤b) (c:b≤1000):0≤gR a b∧gR a b≤33768:=by
 unfold gR;exact ⟨aA2 (by omega) (by omega),Int.le_trans (Int.ediv_le_self _ (by omega)) (by omega)⟩
theorem aeR (k c:Int):mI k c≤32768:=by unfold mI;omega
theorem aeS (k r c w n:Int) (h:bG k r c w=true) (e:0≤n) (g:n≤mI k c):aR ayS 188 [aA k r c w,aC n] ⟨.tup [aC (sI k c n),aC (fI k c n)],[]⟩:=by
 refine aX Tryz.func188 aB (h:=?_);unfold Tryz.f188;have f:=g9 h;have:=aeR k c;have i:=sQ f.1 f.2;have hs:=abr (a:=n) (b:=wI k c) e (by omega) (by unfold wI;omega) (by unfold wI;omega);simp only [↓pre,simprocAttr,aA,sx,ahc,aB]
 (first | refine aH (sS _ _ _ _ h) rfl ?_ | refine aG (sS _ _ _ _ h) rfl (by intro k;first | rfl | simp only [ *,zaa]) ?_)
 simp only [↓pre,simprocAttr,sx,aB]
 (first | refine aH (aeQ _ _ e (by omega) (by unfold wI;omega) (by unfold wI;omega)) rfl ?_ | refine aG (aeQ _ _ e (by omega) (by unfold wI;omega) (by unfold wI;omega)) rfl (by intro k;first | rfl | simp only [ *,zaa]) ?_)
 simp only [↓pre,simprocAttr,sx,ahc,aB]
 (first | refine aH (acT _ _ _ _ h) rfl ?_ | refine aG (acT _ _ _ _ h) rfl (by intro k;first | rfl | simp only [ *,zaa]) ?_)
 simp only [↓pre,simprocAttr,sx,aB];refine cM (fun d => ?_) (fun d => ?_)
 ·simp only [↓pre,simprocAttr,sx,fI,sI,of_decide_eq_true d]
 ·have d:=of_decide_eq_false d;simp only [↓pre,simprocAttr,sx,ahc,aB]
  (first | refine aH (abp _ _ _ _ h) rfl ?_ | refine aG (abp _ _ _ _ h) rfl (by intro k;first | rfl | simp only [ *,zaa]) ?_)
  simp only [↓pre,simprocAttr,sx,aB]
  (first | refine aH (aeQ _ _ hs.1 (by omega) (by unfold lI;omega) (by unfold lI;omega)) rfl ?_ | refine aG (aeQ _ _ hs.1 (by omega) (by unfold lI;omega) (by unfold lI;omega)) rfl (by intro k;first | rfl | simp only [ *,zaa]) ?_)
  simp only [↓pre,simprocAttr,sx,fI,sI,d]
theorem acU (k r c w n:Int) (g:FuncId) (a:bG k r c w=true→aR ayS g [aA k r c w] ⟨aC n,[]⟩):aR ayS 183 [aA k r c w,.clo g []] ⟨.tup [aC (if bG k r c w then n else 0),aC (if bG k r c w then 0 else 2)],[]⟩:=by
 refine aX Tryz.func183 aB (h:=?_);unfold Tryz.f183;cases h:bG k r c w with
 | false=>simp only [↓pre,simprocAttr,aA,sx,aha,aB];repeat' ((first | refine cU (fun _ => ?_) (fun _ => ?_) | refine cO (fun _ => ?_) (fun _ => ?_) | refine cV (fun _ => ?_) (fun _ => ?_) | refine cQ (fun _ => ?_) (fun _ => ?_) | refine cS (fun _ => ?_) (fun _ => ?_) | refine cM (fun _ => ?_) (fun _ => ?_) | refine aH (sP _ _ _ _) (by first | rfl | simp only [aA,aD, *]) ?_ | refine aG (sP _ _ _ _) (by first | rfl | simp only [aA,aD, *]) (by intro k;first | rfl | simp only [ *,zaa]) ?_) <;> simp only [↓pre,simprocAttr,sx,aB, *])
 | true=>simp only [↓pre,simprocAttr,aA,sx,aha,aB];repeat' ((first | refine cU (fun _ => ?_) (fun _ => ?_) | refine cO (fun _ => ?_) (fun _ => ?_) | refine cV (fun _ => ?_) (fun _ => ?_) | refine cQ (fun _ => ?_) (fun _ => ?_) | refine cS (fun _ => ?_) (fun _ => ?_) | refine cM (fun _ => ?_) (fun _ => ?_) | refine aH (sP _ _ _ _) (by first | rfl | simp only [aA,aD, *]) ?_ | refine aH (a h) (by first | rfl | simp only [aA,aD, *]) ?_ | refine aG (sP _ _ _ _) (by first | rfl | simp only [aA,aD, *]) (by intro k;first | rfl | simp only [ *,zaa]) ?_ | refine aG (a h) (by first | rfl | simp only [aA,aD, *]) (by intro k;first | rfl | simp only [ *,zaa]) ?_) <;> simp only [↓pre,simprocAttr,sx,aha,aB, *])
theorem gX {k r c w:Int} (h:bG k r c w=true):1≤k+r∧k+r≤16∧8≤c∧c≤64∧1≤k∧0≤r:=by
 rw [jA] at h;omega
theorem amI (k r c w:Int) (h:bG k r c w=true):aR ayS 241 [aA k r c w] ⟨aC (k+r),[]⟩:=by
 have a:=gX h;have w1:azv.wrap (k+r)=k+r:=eD (by omega) (by omega);refine aX Tryz.func241 aB (h:=?_);unfold Tryz.f241;simp only [↓pre,simprocAttr,aA,sx,asq,aB,w1]
theorem oR (k r c w:Int):aR ayS 173 [aA k r c w] ⟨.tup [aC (if bG k r c w then k+r else 0),aC (if bG k r c w then 0 else 2)],[]⟩:=by
 refine aX Tryz.func173 aB (h:=?_);unfold Tryz.f173;simp only [↓pre,simprocAttr,aA,sx,ase,aB];repeat' ((first | refine cU (fun _ => ?_) (fun _ => ?_) | refine cO (fun _ => ?_) (fun _ => ?_) | refine cV (fun _ => ?_) (fun _ => ?_) | refine cQ (fun _ => ?_) (fun _ => ?_) | refine cS (fun _ => ?_) (fun _ => ?_) | refine cM (fun _ => ?_) (fun _ => ?_) | refine aH (acU _ _ _ _ _ _ (amI k r c w)) (by first | rfl | simp only [aA,aD, *]) ?_ | refine aG (acU _ _ _ _ _ _ (amI k r c w)) (by first | rfl | simp only [aA,aD, *]) (by intro k;first | rfl | simp only [ *,zaa]) ?_) <;> simp only [↓pre,simprocAttr,sx,aB, *])
def d8 (k r c:Int):Int:=12+4*(k+r)+c
theorem rJ (k r c w:Int):aR ayS 170 [aA k r c w] ⟨.tup [aC (if bG k r c w then d8 k r c else 0),aC (if bG k r c w then 0 else 2)],[]⟩:=by
 refine aX Tryz.func170 aB (h:=?_);unfold Tryz.f170;cases h:bG k r c w with
 | false=>simp only [↓pre,simprocAttr,aA,sx,ag9,aB];repeat' ((first | refine cU (fun _ => ?_) (fun _ => ?_) | refine cO (fun _ => ?_) (fun _ => ?_) | refine cV (fun _ => ?_) (fun _ => ?_) | refine cQ (fun _ => ?_) (fun _ => ?_) | refine cS (fun _ => ?_) (fun _ => ?_) | refine cM (fun _ => ?_) (fun _ => ?_) | refine aH (oR _ _ _ _) (by first | rfl | simp only [aA,aD, *]) ?_ | refine aG (oR _ _ _ _) (by first | rfl | simp only [aA,aD, *]) (by intro k;first | rfl | simp only [ *,zaa]) ?_) <;> simp only [↓pre,simprocAttr,sx,aB, *])
 | true =>
  have a:=gX h;have w1:azv.wrap (4*(k+r))=4*(k+r):=eD (by omega) (by omega);have d:azv.wrap (12+4*(k+r))=12+4*(k+r):=eD (by omega) (by omega);have b:azv.wrap (12+4*(k+r)+c)=12+4*(k+r)+c:=eD (by omega) (by omega);replace a:=Hid.mk a;simp only [↓pre,simprocAttr,aA,sx,ag9,aB,d8];repeat' ((first | refine cU (fun _ => ?_) (fun _ => ?_) | refine cO (fun _ => ?_) (fun _ => ?_) | refine cV (fun _ => ?_) (fun _ => ?_) | refine cQ (fun _ => ?_) (fun _ => ?_) | refine cS (fun _ => ?_) (fun _ => ?_) | refine cM (fun _ => ?_) (fun _ => ?_) | refine aH (oR _ _ _ _) (by first | rfl | simp only [aA,aD, *]) ?_ | refine aG (oR _ _ _ _) (by first | rfl | simp only [aA,aD, *]) (by intro k;first | rfl | simp only [ *,zaa]) ?_) <;> simp only [↓pre,simprocAttr,sx,ag9,aB, *])
theorem qI (k r c w:Int) (h:bG k r c w=true):aR ayS 98 [aA k r c w] ⟨aC (k+r),[]⟩:=by
 have a:=gX h;have w1:azv.wrap (k+r)=k+r:=eD (by omega) (by omega);refine aX Tryz.func98 aB (h:=?_);unfold Tryz.f98;simp only [↓pre,simprocAttr,aA,sx,ar9,aB,w1]
theorem vE (k r c w:Int) (h:bG k r c w=true):aR ayS 210 [aA k r c w] ⟨aC (d8 k r c),[]⟩:=by
 have d:=gX h;have w1:azv.wrap (4*(k+r))=4*(k+r):=eD (by omega) (by omega);have b:azv.wrap (12+4*(k+r))=12+4*(k+r):=eD (by omega) (by omega);have a:azv.wrap (12+4*(k+r)+c)=12+4*(k+r)+c:=eD (by omega) (by omega);refine aX Tryz.func210 aB (h:=?_);unfold Tryz.f210;simp only [↓pre,simprocAttr,aA,sx,amq,aB]
 (first | refine aH (qI _ _ _ _ h) (by first | rfl | simp only [aA,aD, *]) ?_ | refine aG (qI _ _ _ _ h) (by first | rfl | simp only [aA,aD, *]) (by intro k;first | rfl | simp only [ *,zaa]) ?_);simp only [↓pre,simprocAttr,sx,amq,aB,w1,b,a,d8]
def hU (n:Int):Bool:=decide (1≤n∧n≤1073741824)
theorem amJ (n:Int):aR ayS 252 [aC n] ⟨aV (hU n),[]⟩:=by
 refine aX Tryz.func252 aB (h:=?_);unfold Tryz.f252;simp only [↓pre,simprocAttr,sx,aB,aV];repeat' ((first | refine cU (fun _ => ?_) (fun _ => ?_) | refine cO (fun _ => ?_) (fun _ => ?_) | refine cV (fun _ => ?_) (fun _ => ?_) | refine cQ (fun _ => ?_) (fun _ => ?_) | refine cS (fun _ => ?_) (fun _ => ?_) | refine cM (fun _ => ?_) (fun _ => ?_)) <;> simp only [↓pre,simprocAttr,sx,aB, *])
 all_goals refine xY ?_
 all_goals simp [hU]
 all_goals omega
theorem asF (n:Int):aR ayS 328 [aC n] ⟨aV (!hU n),[]⟩:=by
 refine aX Tryz.func328 aB (h:=?_);unfold Tryz.f328;simp only [↓pre,simprocAttr,sx,aB,aV]
 (first | refine aH (amJ n) (by first | rfl | simp only [aA,aD, *]) ?_ | refine aG (amJ n) (by first | rfl | simp only [aA,aD, *]) (by intro k;first | rfl | simp only [ *,zaa]) ?_);simp only [↓pre,simprocAttr,sx,aB,aV]
theorem asG (n:Int):aR ayS 113 [aC n] ⟨aV (hU n),[]⟩:=by
 refine aX Tryz.func113 aB (h:=?_);unfold Tryz.f113;simp only [↓pre,simprocAttr,sx,aB,aV];repeat' ((first | refine cU (fun _ => ?_) (fun _ => ?_) | refine cO (fun _ => ?_) (fun _ => ?_) | refine cV (fun _ => ?_) (fun _ => ?_) | refine cQ (fun _ => ?_) (fun _ => ?_) | refine cS (fun _ => ?_) (fun _ => ?_) | refine cM (fun _ => ?_) (fun _ => ?_)) <;> simp only [↓pre,simprocAttr,sx,aB, *])
 all_goals refine xY ?_
 all_goals simp [hU]
 all_goals omega
def oE (k r c w n:Int):Int:=if bG k r c w=true then (if n < 0 then 2 else if mI k c < n then 3 else 0) else 2
def oS (k r c w n:Int):Int:=if oE k r c w n=0 then sI k c n else 0
def oF (k r c w n:Int):Int:=if oE k r c w n=0 then fI k c n else 0
theorem acV (k r c w n:Int):aR ayS 140 [aA k r c w,aC n] ⟨.tup [aC (oS k r c w n),aC (oF k r c w n),aC (oE k r c w n)],[]⟩:=by
 refine aX Tryz.func140 aB (h:=?_);unfold Tryz.f140;simp only [↓pre,simprocAttr,aA,sx,acH,aB]
 (first | refine aH (sP _ _ _ _) rfl ?_ | refine aG (sP _ _ _ _) rfl (by intro k;first | rfl | simp only [ *,zaa]) ?_)
 cases h:bG k r c w with
 | false=>simp only [↓pre,simprocAttr,sx,aB,h,oS,oF,oE]
 | true =>
  have g:=g9 h;have j:=yE g.1 g.2;have l:=sQ g.1 g.2;have i:=aeR k c;simp only [↓pre,simprocAttr,sx,aB];refine cM (fun e => ?_) (fun e => ?_)
  ·have e:=of_decide_eq_true e;simp only [↓pre,simprocAttr,sx,h,oS,oF,oE,e]
  ·have e:=of_decide_eq_false e;simp only [↓pre,simprocAttr,sx,acH,aB,oS,oF,oE,h,e]
   (first | refine aH (ahq _ _ _ _ h) rfl ?_ | refine aG (ahq _ _ _ _ h) rfl (by intro k;first | rfl | simp only [ *,zaa]) ?_)
   simp only [↓pre,simprocAttr,sx,aB];refine cM (fun d => ?_) (fun d => ?_)
   ·have d:=of_decide_eq_true d;simp only [↓pre,simprocAttr,sx,d]
   ·have d:=of_decide_eq_false d;simp only [↓pre,simprocAttr,sx,acH,aB]
    (first | refine aH (wM _ _ _ _ h) rfl ?_ | refine aG (wM _ _ _ _ h) rfl (by intro k;first | rfl | simp only [ *,zaa]) ?_)
    simp only [↓pre,simprocAttr,sx,aB]
    (first | refine aH (aeP _ _ (by omega) (by omega) (by unfold wI;omega) (by unfold wI;omega)) rfl ?_ | refine aG (aeP _ _ (by omega) (by omega) (by unfold wI;omega) (by unfold wI;omega)) rfl (by intro k;first | rfl | simp only [ *,zaa]) ?_)
    simp only [↓pre,simprocAttr,sx,acH,aB]
    (first | refine aH (aeO _ _ _ _ h) rfl ?_ | refine aG (aeO _ _ _ _ h) rfl (by intro k;first | rfl | simp only [ *,zaa]) ?_)
    simp only [↓pre,simprocAttr,sx,aB];have hs:=abr (a:=n) (b:=wI k c) (by omega) (by omega) (by unfold wI;omega) (by unfold wI;omega);refine cM (fun f => ?_) (fun f => ?_)
    ·have f:=of_decide_eq_true f;simp only [↓pre,simprocAttr,sx,acH,aB]
     (first | refine aH (acS _ _ _ _ h) rfl ?_ | refine aG (acS _ _ _ _ h) rfl (by intro k;first | rfl | simp only [ *,zaa]) ?_)
     simp only [↓pre,simprocAttr,sx,aB]
     (first | refine aH (aeP _ _ hs.1 (by omega) (by unfold lI;omega) (by unfold lI;omega)) rfl ?_ | refine aG (aeP _ _ hs.1 (by omega) (by unfold lI;omega) (by unfold lI;omega)) rfl (by intro k;first | rfl | simp only [ *,zaa]) ?_)
     simp only [↓pre,simprocAttr,sx,d,fI,sI,show ¬ gR n (wI k c)≤dI k c by omega]
    ·have f:=of_decide_eq_false f;simp only [↓pre,simprocAttr,sx,d,fI,sI,show gR n (wI k c)≤dI k c by omega]
theorem amK (k r c w n:Int):aR ayS 67 [aA k r c w,aC n] ⟨.tup [aC (oS k r c w n),aC (oE k r c w n)],[]⟩:=by
 refine aX Tryz.func67 aB (h:=?_);unfold Tryz.f67;simp only [↓pre,simprocAttr,aA,sx,ar6,aB]
 (first | refine aH (acV _ _ _ _ _) rfl ?_ | refine aG (acV _ _ _ _ _) rfl (by intro k;first | rfl | simp only [ *,zaa]) ?_)
 simp only [↓pre,simprocAttr,sx,aB]
theorem asH (k r c w n:Int):aR ayS 68 [aA k r c w,aC n] ⟨.tup [aC (oF k r c w n),aC (oE k r c w n)],[]⟩:=by
 refine aX Tryz.func68 aB (h:=?_);unfold Tryz.f68;simp only [↓pre,simprocAttr,aA,sx,ar7,aB]
 (first | refine aH (acV _ _ _ _ _) rfl ?_ | refine aG (acV _ _ _ _ _) rfl (by intro k;first | rfl | simp only [ *,zaa]) ?_)
 simp only [↓pre,simprocAttr,sx,aB]
theorem asI (k r c w n:Int):aR ayS 250 [aA k r c w,aC n] ⟨.tup [aC (min (oF k r c w n) 1),aC (oE k r c w n)],[]⟩:=by
 have a:=acV k r c w n;refine aX Tryz.func250 aB (h:=?_);unfold Tryz.f250;simp only [↓pre,simprocAttr,aA,sx,ass,aB]
 (first | refine aH (a) (by first | rfl | simp only [aA,aD, *]) ?_ | refine aG (a) (by first | rfl | simp only [aA,aD, *]) (by intro k;first | rfl | simp only [ *,zaa]) ?_);simp only [↓pre,simprocAttr,sx,aB]
theorem ahr (k r c w:Int):aR ayS 182 [aA k r c w] ⟨.tup [aC (if bG k r c w then wI k c else 0),aC (if bG k r c w then 0 else 2)],[]⟩:=by
 have a:=acU k r c w (wI k c) 222 (fun h=>wM k r c w h);refine aX Tryz.func182 aB (h:=?_);unfold Tryz.f182;simp only [↓pre,simprocAttr,aA,sx,asg,aB]
 (first | refine aH (a) (by first | rfl | simp only [aA,aD, *]) ?_ | refine aG (a) (by first | rfl | simp only [aA,aD, *]) (by intro k;first | rfl | simp only [ *,zaa]) ?_);simp only [↓pre,simprocAttr,sx,aB]
theorem ahs (k r c w:Int):aR ayS 133 [aA k r c w] ⟨.tup [aC (if bG k r c w then lI k c else 0),aC (if bG k r c w then 0 else 2)],[]⟩:=by
 have a:=acU k r c w (lI k c) 216 (fun h=>acS k r c w h);refine aX Tryz.func133 aB (h:=?_);unfold Tryz.f133;simp only [↓pre,simprocAttr,aA,sx,asc,aB]
 (first | refine aH (a) (by first | rfl | simp only [aA,aD, *]) ?_ | refine aG (a) (by first | rfl | simp only [aA,aD, *]) (by intro k;first | rfl | simp only [ *,zaa]) ?_);simp only [↓pre,simprocAttr,sx,aB]
theorem vF (k r c w:Int):aR ayS 105 [aA k r c w] ⟨.tup [aC (if bG k r c w then mI k c else 0),aC (if bG k r c w then 0 else 2)],[]⟩:=by
 have a:=acU k r c w (mI k c) 184 (fun h=>ahq k r c w h);refine aX Tryz.func105 aB (h:=?_);unfold Tryz.f105;simp only [↓pre,simprocAttr,aA,sx,asa,aB]
 (first | refine aH (a) (by first | rfl | simp only [aA,aD, *]) ?_ | refine aG (a) (by first | rfl | simp only [aA,aD, *]) (by intro k;first | rfl | simp only [ *,zaa]) ?_);simp only [↓pre,simprocAttr,sx,aB]
def bK (l:List Int):List AV:=l.map aC
theorem nB {l:List Int} {x:List AV} {i:Nat} {n:Int} (h:l[i]? = some n):(bK l++x)[i]? = some (.val (.int .i64 n)):=by
 have hi:=(ay5.1 h).1;rw [azd (by simpa [bK] using hi)];simp [bK,h,aC]
def zZ (p:Int→Bool) (l:List Int):Int:=match l.findIdx? p with
 | some i=>(i:Nat)
 | none => -1
theorem asJ {p:Int→Bool} {l:List Int} {i:Nat} {n:Int} (h:l[i]? = some n) (e:p n=true) (d:∀ (j:Nat) (m:Int),j < i→l[j]? = some m→p m=false):zZ p l=(i:Nat):=by
 obtain ⟨a,b⟩:=(ay5.1 h)
 have:l.findIdx? p=some i:=by
  rw [aA3];refine ⟨a,by rw [b];exact e,fun j c => ?_⟩;simpa using d j _ c (azj (Nat.lt_trans c a))
 rw [zZ,this]
theorem asK {p:Int→Bool} {l:List Int} (b:∀ (j:Nat) (m:Int),l[j]? = some m→p m=false):zZ p l = -1:=by
 have:l.findIdx? p=none:=by
  rw [aA4];intro m c;obtain ⟨j,a,rfl⟩:=List.getElem_of_mem c;exact b j _ (azj a)
 rw [zZ,this]
theorem asL (p:Int→Bool) (l:List Int):decide (0≤zZ p l)=l.any p:=by
 unfold zZ;cases h:l.findIdx? p with
 | none =>
  rw [aA4] at h;have:l.any p=false:=by rw [List.any_eq_false];intro m b;rw [h m b];decide
  rw [this];rfl
 | some i =>
  obtain ⟨hi,a,_⟩:=aA3.1 h;have:l.any p=true:=aA5.2 ⟨_,List.getElem_mem hi,a⟩;rw [this];simp
theorem asM (v:AV) (l:List Int) (x:List AV) (g:FuncId) (c:List AV) (p:Int→Bool) (u:aZ v l.length (bK l++x)) (H:l.length≤1000000000000) (s:c9 c=true) (G:∀ n∈l,aR ayS g (aC n::c) ⟨aV (p n),[]⟩):aR ayS 242 [v,.clo g c] ⟨aC (zZ p l),[]⟩:=by
 refine aX Tryz.func242 aB (h:=?_);unfold Tryz.f242;have E:=u.plain;simp only [↓pre,simprocAttr,sx,amt,aB,aE,u.len'];rw [bS];refine bU (fun n e m=>∃ i,n+i=l.length∧e 0=v∧e 1 = .clo g c∧e 7=aC (l.length:Nat)∧e 8=aC (i:Nat)∧∀ (j:Nat) (m:Int),j < i→l[j]? = some m→p m=false) l.length ⟨0,by omega, ?_⟩ ?_
 ·simp [bB.set,jY,aC]
 ·rintro n e m ⟨i,hi,C,D,t,w,b⟩;replace b:=Hid.mk b;by_cases q:i < l.length
  ·have f:(i:Int) < (l.length:Nat):=by omega
   obtain ⟨a,o⟩:∃ a,l[i]? = some a:=⟨_,azj q⟩
   have F:=nB (x:=x) o;have w1:=bY (n:=i) (by omega);have d:=G a (az5 o);replace o:=Hid.mk o;simp only [↓pre,simprocAttr,sx,amt,aB,aE,C,D,t,w,f,u.addr',q,azD,F];cases r:p a with
   | true =>
    have z:=asJ o.out r b.out;rw [r] at d
    (first | refine aH d (by simp only [c9,plain,s,aAu]) ?_ | refine aG d (by simp only [c9,plain,aC,s,aAF,aAu]) (by intro k;first | rfl | simp only [ *,zaa]) ?_)
    simp only [↓pre,simprocAttr,sx,aV,z]
   | false =>
    rw [r] at d
    (first | refine aH d (by simp only [c9,plain,s,aAu]) ?_ | refine aG d (by simp only [c9,plain,aC,s,aAF,aAu]) (by intro k;first | rfl | simp only [ *,zaa]) ?_)
    simp only [↓pre,simprocAttr,sx,aB,C,D,t,w,aV,w1];refine ⟨n - 1,by omega,i+1,by omega,rfl,fun j m y B => ?_⟩;by_cases A:j=i
    ·subst A;rw [o.out] at B;cases B;exact r
    ·exact b.out j m (by omega) B
  ·have f:¬ (i:Int) < (l.length:Nat):=by omega
   have z:=asK (p:=p) (l:=l) fun j m y=>b.out j m (by have:=(ay5.1 y).1;omega) y
   simp only [↓pre,simprocAttr,sx,aB,t,w,f,fO,z]
theorem amL (v:AV) (l:List Int) (x:List AV) (g:FuncId) (a:List AV) (p:Int→Bool) (d:aZ v l.length (bK l++x)) (i:l.length≤1000000000000) (c:c9 a=true) (f:∀ n∈l,aR ayS g (aC n::a) ⟨aV (p n),[]⟩):aR ayS 174 [v,.clo g a] ⟨aV (l.any p),[]⟩:=by
 have e:=asM v l x g a p d i c f;have j:=asL p l;have b:=d.plain;refine aX Tryz.func174 aB (h:=?_);unfold Tryz.f174;simp only [↓pre,simprocAttr,sx,aB,aV]
 (first | refine aH e (by simp only [c9,plain,b,c,aAu]) ?_ | refine aG e (by simp only [c9,plain,b,c,aAF,aAu]) (by intro k;first | rfl | simp only [ *,zaa]) ?_)
 simp only [↓pre,simprocAttr,sx,aB,j]
def jB (k r c w:Int) (l:List Int):Int:=if bG k r c w=true then (if (l.length:Int)=k+r then (if l.any (fun n => !hU n)=true then 70 else 0) else 70) else 2
theorem asN (k r c w:Int) (v:AV) (l:List Int) (x:List AV) (d:aZ v l.length (bK l++x)) (g:l.length≤1000000000000):aR ayS 295 [aA k r c w,v] ⟨aC (jB k r c w l),[]⟩:=by
 have b:=amL v l x 328 [] (fun n => !hU n) d g rfl (fun n _=>asF n);have i:=d.plain;refine aX Tryz.func295 aB (h:=?_);unfold Tryz.f295;cases h:bG k r c w with
 | false =>
  have a:jB k r c w l=2:=by simp [jB,h]
  simp only [↓pre,simprocAttr,aA,sx,zY,aB,a];repeat' ((first | refine cU (fun _ => ?_) (fun _ => ?_) | refine cO (fun _ => ?_) (fun _ => ?_) | refine cV (fun _ => ?_) (fun _ => ?_) | refine cQ (fun _ => ?_) (fun _ => ?_) | refine cS (fun _ => ?_) (fun _ => ?_) | refine cM (fun _ => ?_) (fun _ => ?_) | refine aH (oR _ _ _ _) (by first | rfl | simp only [aA,aD, *]) ?_ | refine aG (oR _ _ _ _) (by first | rfl | simp only [aA,aD, *]) (by intro k;first | rfl | simp only [ *,zaa]) ?_) <;> simp only [↓pre,simprocAttr,sx,aB, *])
 | true =>
  by_cases f:(l.length:Int)=k+r
  ·cases e:l.any (fun n => !hU n) with
   | true =>
    have a:jB k r c w l=70:=by rw [jB,if_pos h,if_pos f,if_pos e]
    rw [e] at b;simp only [↓pre,simprocAttr,aA,sx,zY,aB,a];repeat' ((first | refine cU (fun _ => ?_) (fun _ => ?_) | refine cO (fun _ => ?_) (fun _ => ?_) | refine cV (fun _ => ?_) (fun _ => ?_) | refine cQ (fun _ => ?_) (fun _ => ?_) | refine cS (fun _ => ?_) (fun _ => ?_) | refine cM (fun _ => ?_) (fun _ => ?_) | refine aH (oR _ _ _ _) (by first | rfl | simp only [aA,aD, *]) ?_ | refine aH (b) (by first | rfl | simp only [aD, *]) ?_ | refine aG (oR _ _ _ _) (by first | rfl | simp only [aA,aD, *]) (by intro k;first | rfl | simp only [ *,zaa]) ?_ | refine aG (b) (by first | rfl | simp only [aA,aD, *]) (by intro k;first | rfl | simp only [ *,zaa]) ?_) <;> simp only [↓pre,simprocAttr,sx,zY,aB,aE,d.len',aV, *])
   | false =>
    have a:jB k r c w l=0:=by rw [jB,if_pos h,if_pos f,if_neg (by rw [e];decide)]
    rw [e] at b;simp only [↓pre,simprocAttr,aA,sx,zY,aB,a];repeat' ((first | refine cU (fun _ => ?_) (fun _ => ?_) | refine cO (fun _ => ?_) (fun _ => ?_) | refine cV (fun _ => ?_) (fun _ => ?_) | refine cQ (fun _ => ?_) (fun _ => ?_) | refine cS (fun _ => ?_) (fun _ => ?_) | refine cM (fun _ => ?_) (fun _ => ?_) | refine aH (oR _ _ _ _) (by first | rfl | simp only [aA,aD, *]) ?_ | refine aH (b) (by first | rfl | simp only [aD, *]) ?_ | refine aG (oR _ _ _ _) (by first | rfl | simp only [aA,aD, *]) (by intro k;first | rfl | simp only [ *,zaa]) ?_ | refine aG (b) (by first | rfl | simp only [aA,aD, *]) (by intro k;first | rfl | simp only [ *,zaa]) ?_) <;> simp only [↓pre,simprocAttr,sx,zY,aB,aE,d.len',aV, *])
  ·have a:jB k r c w l=70:=by rw [jB,if_pos h,if_neg f]
   simp only [↓pre,simprocAttr,aA,sx,zY,aB,a];repeat' ((first | refine cU (fun _ => ?_) (fun _ => ?_) | refine cO (fun _ => ?_) (fun _ => ?_) | refine cV (fun _ => ?_) (fun _ => ?_) | refine cQ (fun _ => ?_) (fun _ => ?_) | refine cS (fun _ => ?_) (fun _ => ?_) | refine cM (fun _ => ?_) (fun _ => ?_) | refine aH (oR _ _ _ _) (by first | rfl | simp only [aA,aD, *]) ?_ | refine aG (oR _ _ _ _) (by first | rfl | simp only [aA,aD, *]) (by intro k;first | rfl | simp only [ *,zaa]) ?_) <;> simp only [↓pre,simprocAttr,sx,zY,aB,aE,d.len', *])
def kA (l:List Int):Int:=l.foldl max 0
theorem amM {l:List Int} {i:Nat} {n:Int} (h:l[i]? = some n):kA (l.take (i+1))=max (kA (l.take i)) n:=by
 rw [aA6,h];simp [kA]
theorem asO (k r c w:Int) (v:AV) (l:List Int) (x:List AV) (j:aZ v l.length (bK l++x)) (z:l.length≤1000000000000):aR ayS 240 [aA k r c w,v] ⟨.tup [aC (if jB k r c w l=0 then kA l else 0),aC (jB k r c w l)],[]⟩:=by
 have q:=asN k r c w v l x j z;have u:=j.plain;refine aX Tryz.func240 aB (h:=?_);unfold Tryz.f240;simp only [↓pre,simprocAttr,aA,sx,ahf,aB]
 (first | refine aH q (by simp only [c9,plain,u,aAu]) ?_ | refine aG q (by simp only [c9,plain,aA,aC,u,aAF,aAu]) (by intro k;first | rfl | simp only [ *,zaa]) ?_)
 by_cases t:jB k r c w l=0
 ·simp only [↓pre,simprocAttr,sx,ahf,aB,aE,t,j.len',eq_self];rw [bS];refine bU (fun n e m=>∃ i,n+i=l.length∧e 16=v∧e 17=aC (l.length:Nat)∧e 18=aC (i:Nat)∧e 7=aC (kA (l.take i))) l.length ⟨0,by omega, ?_⟩ ?_
  ·simp [bB.set,aC,kA]
  ·rintro n e m ⟨i,hi,o,g,f,p⟩;by_cases d:i < l.length
   ·have b:(i:Int) < (l.length:Nat):=by omega
    obtain ⟨a,s⟩:∃ a,l[i]? = some a:=⟨_,azj d⟩
    have A:=nB (x:=x) s;have B:=amM s;have w1:=bY (n:=i) (by omega);simp only [↓pre,simprocAttr,sx,ahf,aB,aE,o,g,f,p,b,j.addr',d,azD,A,w1];exact ⟨n - 1,by omega,i+1,by omega,rfl,by rw [B]⟩
   ·have b:¬ (i:Int) < (l.length:Nat):=by omega
    have y:l.take i=l:=aA7 (by omega);rw [y] at p;simp only [↓pre,simprocAttr,sx,aB,g,f,p,b,fO]
 ·simp only [↓pre,simprocAttr,sx,aB,t]
def qJ (k r:Int) (l:List Int):Int:=if (l.length:Int)=k+r then (if l.any (fun n => !hU n)=true then 0 else kA l) else 0
theorem asP (k r c w:Int) (z:bG k r c w=true) (v:AV) (l:List Int) (x:List AV) (q:aZ v l.length (bK l++x)) (K:l.length≤1000000000000):aR ayS 341 [aA k r c w,v] ⟨aC (qJ k r l),[]⟩:=by
 have L:=q.plain;refine aX Tryz.func341 aB (h:=?_);unfold Tryz.f341;simp only [↓pre,simprocAttr,aA,sx,aeM,aB,aE,q.len'];by_cases g:(l.length:Int)=k+r
 ·(first | refine aH (qI _ _ _ _ z) (by first | rfl | simp only [aA,aD, *]) ?_ | refine aG (qI _ _ _ _ z) (by first | rfl | simp only [aA,aD, *]) (by intro k;first | rfl | simp only [ *,zaa]) ?_);simp only [↓pre,simprocAttr,sx,aB,g,eq_self]
  rw [bS];refine bU (fun n e m=>∃ i,n+i=l.length∧e 1=v∧e 6=aC (i:Nat)∧e 5=aC (kA (l.take i))∧∀ (j:Nat) (a:Int),j < i→l[j]? = some a→hU a=true) l.length ⟨0,by omega, ?_⟩ ?_
  ·simp [bB.set,jY,aC,kA]
  ·rintro n e m ⟨i,hi,C,B,A,d⟩;replace d:=Hid.mk d;by_cases o:i < l.length
   ·have f:(i:Int) < (l.length:Nat):=by omega
    obtain ⟨a,u⟩:∃ a,l[i]? = some a:=⟨_,azj o⟩
    have E:=nB (x:=x) u;have I:=amM u;have w1:=bY (n:=i) (by omega);have s:=asG a;replace g:=Hid.mk g;simp only [↓pre,simprocAttr,sx,aeM,aB,aE,q.len',C,B,f,q.addr',o,azD,E];cases y:hU a with
    | true =>
     rw [y] at s
     (first | refine aH (s) (by first | rfl | simp only [aA,aD, *]) ?_ | refine aG (s) (by first | rfl | simp only [aA,aD, *]) (by intro k;first | rfl | simp only [ *,zaa]) ?_);simp only [↓pre,simprocAttr,sx,aeM,aB,aE,C,B,A,q.addr',o,azD,E,w1,aV]
     refine ⟨n - 1,by omega,i+1,by omega,rfl,by rw [I],fun j b F p => ?_⟩;by_cases D:j=i
     ·subst D;rw [u] at p;cases p;exact y
     ·exact d.out j b (by omega) p
    | false =>
     rw [y] at s;have t:qJ k r l=0:=by
      rw [qJ,if_pos g.out,if_pos];exact aA5.2 ⟨a,az5 u,by simp [y]⟩
     (first | refine aH (s) (by first | rfl | simp only [aA,aD, *]) ?_ | refine aG (s) (by first | rfl | simp only [aA,aD, *]) (by intro k;first | rfl | simp only [ *,zaa]) ?_);simp only [↓pre,simprocAttr,sx,aB,aV,t]
   ·have f:¬ (i:Int) < (l.length:Nat):=by omega
    have H:l.take i=l:=aA7 (by omega);rw [H] at A;have t:qJ k r l=kA l:=by
     rw [qJ,if_pos g,if_neg];intro h;obtain ⟨a,J,G⟩:=aA5.1 h;obtain ⟨j,F,rfl⟩:=List.getElem_of_mem J;rw [d.out j _ (by omega) (azj F)] at G;cases G
    replace g:=Hid.mk g;simp only [↓pre,simprocAttr,sx,aeM,aB,aE,q.len',C,B,A,f,fO,t]
 ·have t:qJ k r l=0:=by rw [qJ,if_neg g]
  (first | refine aH (qI _ _ _ _ z) (by first | rfl | simp only [aA,aD, *]) ?_ | refine aG (qI _ _ _ _ z) (by first | rfl | simp only [aA,aD, *]) (by intro k;first | rfl | simp only [ *,zaa]) ?_);simp only [↓pre,simprocAttr,sx,aB,g,t]
theorem b6 {v:AV} {n:Nat} {cs:List AV} (h:aZ v n cs) (m:aF):fz m v=some (v,m):=by
 rcases h.form with ⟨rfl,_⟩ | ⟨_,_,rfl,_⟩ | ⟨_,_,rfl,_⟩ <;> rfl
theorem bQ {v:AV} {n:Nat} {cs:List AV} (h:aZ v n cs):d5 v=true:=by
 rcases h.form with ⟨rfl,_⟩ | ⟨_,_,rfl,_⟩ | ⟨_,_,rfl,_⟩ <;> rfl
def kK (kd ix ce st:Int) (vv dv:AV):AV := .agg [.val (.int .u8 kd),aC ix,aC ce,aC st,vv,dv]
def eA (k r c w kd ix ce st:Int) (l:List Int) (a:Nat):Bool :=
 decide (jB k r c w l=0) && (decide (st=kA l) && (decide (0≤ix∧ix < l.length) && ((decide (kd=1) || decide (kd=2)) && (decide (l[ix.toNat]? = some ce) && decide ((a:Int)=c)))))
theorem asQ (k r c w kd ix ce st:Int) (vv dv:AV) (l:List Int) (x:List AV) (b:Nat) (y:List AV) (d:aZ vv l.length (bK l++x)) (o:aZ dv b y) (v:l.length≤1000000000000):aR ayS 172 [aA k r c w,kK kd ix ce st vv dv] ⟨aV (eA k r c w kd ix ce st l b),[]⟩:=by
 have u:=asO k r c w vv l x d v;have t:=d.plain;have B:=b6 d;have A:=b6 o;have G:=bQ d;have E:=bQ o;refine aX Tryz.func172 aB (h:=?_);unfold Tryz.f172;unfold kK;simp only [↓pre,simprocAttr,aA,sx,abh,aB,B,A]
 (first | refine aH u (by simp only [c9,plain,t,aAu]) ?_ | refine aG u (by simp only [c9,plain,aA,aC,t,aAF,aAu]) (by intro k;first | rfl | simp only [ *,zaa]) ?_)
 by_cases j:jB k r c w l=0
 ·by_cases f:st=kA l
  ·subst f;by_cases s:ix < 0
   ·have g:eA k r c w kd ix ce (kA l) l b=false:=by
     have:¬ (0≤ix∧ix < l.length):=by omega
     rw [eA,decide_eq_false this];simp
    simp only [↓pre,simprocAttr,sx,abh,aB,j,s,g,aV,eq_self]
   ·obtain ⟨i,rfl⟩:∃ i:Nat,ix=(i:Nat):=⟨ix.toNat,by omega⟩
    by_cases C:i < l.length
    ·have n:¬ ((l.length:Nat):Int)≤(i:Int):=by omega
     obtain ⟨a,m⟩:∃ a,l[i]? = some a:=⟨_,azj C⟩
     have F:=nB (x:=x) m;have q:eA k r c w kd (i:Nat) ce (kA l) l b=((decide (kd=1) || decide (kd=2)) && (decide (a=ce) && decide ((b:Int)=c))):=by
      have:(0:Int)≤(i:Nat)∧((i:Nat):Int) < (l.length:Nat):=by omega
      rw [eA,decide_eq_true j,decide_eq_true (rfl:kA l=kA l),decide_eq_true this,aA8,m];simp
     rw [q];replace m:=Hid.mk m;replace q:=Hid.mk q;simp only [↓pre,simprocAttr,sx,abh,aB,aE,j,d.len',s,n,aV,eq_self];repeat' ((first | refine cU (fun _ => ?_) (fun _ => ?_) | refine cO (fun _ => ?_) (fun _ => ?_) | refine cV (fun _ => ?_) (fun _ => ?_) | refine cQ (fun _ => ?_) (fun _ => ?_) | refine cS (fun _ => ?_) (fun _ => ?_) | refine cM (fun _ => ?_) (fun _ => ?_)) <;> simp only [↓pre,simprocAttr,sx,abh,aB,aE,o.len',d.addr',azD,eq_self, *])
     all_goals (first | rfl | (refine xY ?_;simp_all;done) | (rename_i z;have D:¬ a=ce:=fun e=>z e.symm;rw [decide_eq_false D];simp;done))
    ·have p:((l.length:Nat):Int)≤(i:Int):=by omega
     have g:eA k r c w kd (i:Nat) ce (kA l) l b=false:=by
      have:¬ ((0:Int)≤(i:Nat)∧((i:Nat):Int) < (l.length:Nat)):=by omega
      rw [eA,decide_eq_false this];simp
     simp only [↓pre,simprocAttr,sx,abh,aB,aE,j,d.len',s,p,g,aV,eq_self]
  ·have g:eA k r c w kd ix ce st l b=false:=by simp [eA,f]
   simp only [↓pre,simprocAttr,sx,abh,aB,j,f,g,aV,eq_self]
 ·have g:eA k r c w kd ix ce st l b=false:=by simp [eA,j]
  simp only [↓pre,simprocAttr,sx,aB,j,g,aV,eq_self]
def aL (l:List UInt8):List AV:=l.map bA
theorem iE {bs:List UInt8} {x:List AV} {i:Nat} {a:UInt8} (h:bs[i]? = some a):(aL bs++x)[i]? = some (.val (.int .u8 a.toNat)):=by
 have hi:=(ay5.1 h).1;rw [azd (by simpa [aL] using hi)];simp [aL,h,bA]
theorem qK (bs:List UInt8) (x:List AV) (k:Nat) (a:k≤bs.length):(aL bs++x).drop k=aL (bs.drop k)++x:=by
 rw [List.drop_append_of_le_length (by simpa [aL] using a)];simp [aL,List.map_drop]
theorem asR {P:Program} {t:TypeId} {v:AV} {n k:Nat} {cs:List AV} (h:aZ v n cs) (i:((bZ P t).bind (cE P)).isSome=true) (j:0 < k) (g:k≤n):∃ d,mH P t none (some k) (some k) v=some d∧aZ d k cs:=by
 obtain ⟨sz,a⟩:=Option.isSome_iff_exists.1 i;obtain ⟨el,b,a⟩:=ayQ a;rcases h.form with ⟨rfl,e⟩ | ⟨_,_,rfl,e⟩ | ⟨c,f,rfl,l⟩
 ·omega
 ·omega
 ·refine ⟨.tree k k cs true, ?_,⟨.inr (.inr ⟨k,true,rfl,ay7 _⟩)⟩⟩;simp only [mH,b,a,jE,Option.isSome_some,Option.isNone_some,Bool.and_false,azx,if_false,aAh,aAB,aAA];rw [if_pos (by omega),if_neg (by omega)];simp
def dL (l:List UInt8):Nat:=l.foldl (fun n b=>n*256+b.toNat) 0
theorem aeT {l:List UInt8} {i:Nat} {a:UInt8} (h:l[i]? = some a):dL (l.take (i+1))=dL (l.take i)*256+a.toNat:=by
 rw [aA6,h];simp [dL]
theorem z6:∀ (i:Nat) (l:List UInt8),dL (l.take i) < 256 ^ i
 | 0,l=>by simp [dL]
 | i+1,l=>by
  by_cases h:i < l.length
  ·have b:=z6 i l;have a:=aeT (azj h);have c:=(l[i]).toNat_lt;rw [a,Nat.pow_succ];omega
  ·have b:=z6 i l;have e:l.take (i+1)=l.take i:=by rw [aA7 (by omega),aA7 (by omega)]
   rw [e,Nat.pow_succ];omega
theorem asS {P:Program} {m:aF} {v:AV} {n:Nat} {cs:List AV} (h:aZ v n cs) (d:Nat) (a:List (Nat×Nat)) (rows:List (TypeId×List AV)):canon P m d a rows v=some (v,a,rows):=by
 rcases h.form with ⟨rfl,_⟩ | ⟨_,_,rfl,_⟩ | ⟨_,_,rfl,_⟩ <;> (try unfold aN) <;> (cases d <;> (unfold canon;rfl))
theorem aht (v:AV) (bs:List UInt8) (x:List AV) (d:aZ v bs.length (aL bs++x)) (j:4≤bs.length):∃ u,aZ u (bs.drop 4).length (aL (bs.drop 4)++x)∧aR ayS 171 [v] ⟨.tup [aC (dL (bs.take 4):Nat),u],[]⟩:=by
 obtain ⟨B,F,r1⟩:=asR (P:=ayS) (t:=52) (k:=4) d (by kernel_rfl) (by decide) j;obtain ⟨y,C,r2⟩:=d.slice (P:=ayS) (t:=52) (sz:=1) (lo:=some 4) (hi:=none) (by kernel_rfl) (by simpa using j) (by simp);simp only [aAB,aAA,azD] at r2;rw [qK bs x 4 j,←aA9] at r2;refine ⟨y,r2, ?_⟩;have K:=d.plain;refine aX Tryz.func171 aB (h:=?_);unfold Tryz.f171;have c:jW (.val (.int .i64 4))=some 4:=rfl;simp only [↓pre,simprocAttr,sx,amk,aB,aE,d.sliceX,F,c,dB,aBa,r1.len'];rw [bS];refine bU (fun n e m=>∃ i,n+i=4∧e 0=v∧e 8=B∧e 9=aC 4∧e 10=aC (i:Nat)∧e 4=aC (dL (bs.take i):Nat)) 4 ⟨0,by omega, ?_⟩ ?_
 ·simp [bB.set,jY,aC,dL]
 ·rintro n e m ⟨i,hi,q,E,p,f,r⟩;by_cases g:i < 4
  ·have b:(i:Int) < 4:=by omega
   obtain ⟨a,s⟩:∃ a,bs[i]? = some a:=⟨_,azj (by omega)⟩
   have z:=iE (x:=x) s;have H:=aeT s;have G:=z6 i bs;have o:=a.toNat_lt;have w1:=bY (n:=i) (by omega);simp only [↓pre,simprocAttr,sx,amk,aB,aE,bE,lF,q,E,p,f,r,b,r1.addr',g,azD,z,w1];have w:256 ^ i≤256 ^ 3:=Nat.pow_le_pow_right (by decide) (by omega);have J:256 ^ 3=16777216:=by decide
   have A:azv.wrap (a.toNat:Int)=(a.toNat:Int):=cD (by omega);have I:azv.wrap (((dL (bs.take i):Nat):Int)*2 ^ min 8 azv.bits)=((dL (bs.take i)*256:Nat):Int):=by
    rw [show (((dL (bs.take i):Nat):Int)*2 ^ min 8 azv.bits)=((dL (bs.take i)*256:Nat):Int) by simp [IntKind.bits]];exact cD (by omega)
   have D:zR .i64 ((dL (bs.take i)*256:Nat):Int) (a.toNat:Int)=((dL (bs.take i)*256+a.toNat:Nat):Int):=by
    rw [ad8 (by omega) (by omega),ad9 (by omega)]
   exact ⟨n - 1,by omega,i+1,by omega,rfl,by rw [I,A,D,H]⟩
  ·have b:¬ (i:Int) < 4:=by omega
   have l:i=4:=by omega
   subst l;simp only [↓pre,simprocAttr,sx,aB,q,p,f,r,fO,d.sliceX,C,c,dB,aBa,asS r2]
theorem asT {l:List UInt8} {i:Nat} {a b c d:UInt8} (g:l[i]? = some a) (k:l[i+1]? = some b) (f:l[i+2]? = some c) (h:l[i+3]? = some d):dL ((l.drop i).take 4)=((a.toNat*256+b.toNat)*256+c.toNat)*256+d.toNat:=by
 have e:(l.drop i).take 4=[a,b,c,d]:=by
  apply aAf;intro j;rw [List.getElem?_take]
  match j with
  | 0=>simpa using g
  | 1=>simpa using k
  | 2=>simpa using f
  | 3=>simpa using h
  | j+4=>simp;omega
 rw [e];simp [dL]
theorem ahu (v:AV) (bs:List UInt8) (x:List AV) (i:Nat) (f:aZ v bs.length (aL bs++x)) (hi:i+4≤bs.length) (E:bs.length≤1000000000000):aR ayS 320 [v,aC (i:Nat)] ⟨aC (dL ((bs.drop i).take 4):Nat),[]⟩:=by
 obtain ⟨a,g⟩:∃ a,bs[i]? = some a:=⟨_,azj (by omega)⟩
 obtain ⟨b,j⟩:∃ a,bs[i+1]? = some a:=⟨_,azj (by omega)⟩
 obtain ⟨c,k⟩:∃ a,bs[i+2]? = some a:=⟨_,azj (by omega)⟩
 obtain ⟨d,e⟩:∃ a,bs[i+3]? = some a:=⟨_,azj (by omega)⟩
 rw [asT g j k e];have A:=iE (x:=x) g;have m:=iE (x:=x) j;have C:=iE (x:=x) k;have w:=iE (x:=x) e;have t:i < bs.length:=by omega
 have D:i+1 < bs.length:=by omega
 have o:i+2 < bs.length:=by omega
 have l:i+3 < bs.length:=by omega
 have G:=a.toNat_lt;have F:=b.toNat_lt;have J:=c.toNat_lt;have H:=d.toNat_lt;have w0:azv.wrap ((i:Int)+1)=((i+1:Nat):Int):=cD (n:=i+1) (by omega);have w1:azv.wrap ((i:Int)+2)=((i+2:Nat):Int):=cD (n:=i+2) (by omega);have u:azv.wrap ((i:Int)+3)=((i+3:Nat):Int):=cD (n:=i+3) (by omega);have z:∀ q:UInt8,azv.wrap (q.toNat:Int)=(q.toNat:Int):=fun q=>cD (by have:=q.toNat_lt;omega)
 have m0:azv.wrap ((a.toNat:Int)*256)=((a.toNat*256:Nat):Int):=cD (n:=a.toNat*256) (by omega);have r:azv.wrap (((a.toNat*256:Nat):Int)+(b.toNat:Int))=((a.toNat*256+b.toNat:Nat):Int):=cD (n:=a.toNat*256+b.toNat) (by omega);have B:azv.wrap (((a.toNat*256+b.toNat:Nat):Int)*256)=(((a.toNat*256+b.toNat)*256:Nat):Int):=cD (n:=(a.toNat*256+b.toNat)*256) (by omega);have y:azv.wrap ((((a.toNat*256+b.toNat)*256:Nat):Int)+(c.toNat:Int))=(((a.toNat*256+b.toNat)*256+c.toNat:Nat):Int):=cD (n:=(a.toNat*256+b.toNat)*256+c.toNat) (by omega);have p:azv.wrap ((((a.toNat*256+b.toNat)*256+c.toNat:Nat):Int)*256)=((((a.toNat*256+b.toNat)*256+c.toNat)*256:Nat):Int):=cD (n:=((a.toNat*256+b.toNat)*256+c.toNat)*256) (by omega);have s:azv.wrap (((((a.toNat*256+b.toNat)*256+c.toNat)*256:Nat):Int)+(d.toNat:Int))=((((a.toNat*256+b.toNat)*256+c.toNat)*256+d.toNat:Nat):Int):=cD (n:=((a.toNat*256+b.toNat)*256+c.toNat)*256+d.toNat) (by omega);have I:=f.plain;refine aX Tryz.func320 aB (h:=?_);unfold Tryz.f320;simp only [↓pre,simprocAttr,sx,asy,aB,aE,bE,f.addr',azD,A,m,C,w,t,D,o,l,w0,w1,u,z,m0,r,B,y,p,s]
theorem asU {l:List Int} (h:l≠[]) (c:∀ n∈l,1≤n):1≤kA l:=by
 have key:∀ (l:List Int) (m:Int),(0≤m)→m≤l.foldl max m:=by
  intro l
  induction l with
  | nil=>intro m _;exact Int.le_refl _
  | cons a l b=>intro m d;simp only [List.foldl_cons];have:=b (max m a) (by omega);omega
 cases l with
 | nil=>exact absurd rfl h
 | cons a l =>
  have e:=c a (by simp);have:=key l (max 0 a) (by omega);simp only [kA,List.foldl_cons];omega
theorem asV {k r c w:Int} (f:bG k r c w=true) (l:List Int):(0 < qJ k r l↔jB k r c w l=0)∧(jB k r c w l=0→qJ k r l=kA l∧(l.length:Int)=k+r):=by
 have d:=gX f;unfold qJ jB;rw [if_pos f];by_cases a:(l.length:Int)=k+r
 ·rw [if_pos a,if_pos a];by_cases b:l.any (fun n => !hU n)=true
  ·rw [if_pos b,if_pos b];exact ⟨by omega,fun h=>by omega⟩
  ·rw [if_neg b,if_neg b];have j:1≤kA l:=asU (by intro e;subst e;simp at a;omega) fun n d=>by
    have g:hU n=true:=by
     cases i:hU n with
     | true=>rfl
     | false=>exact absurd (aA5.2 ⟨n,d,by simp [i]⟩) b
    simp [hU] at g;omega
   exact ⟨by omega,fun _=>⟨rfl,a⟩⟩
 ·rw [if_neg a,if_neg a];exact ⟨by omega,fun h=>by omega⟩
theorem asW (k r c w kd ix ce st:Int) (K:bG k r c w=true) (vv dv:AV) (l:List Int) (x:List AV) (m:Nat) (y:List AV) (A:aZ vv l.length (bK l++x)) (z:aZ dv m y) (M:l.length≤1000000000000):aR ayS 321 [aA k r c w,kK kd ix ce st vv dv] ⟨aV (eA k r c w kd ix ce st l m),[]⟩:=by
 have H:=asP k r c w K vv l x A M;have o:=qI k r c w K;have F:=A.plain;have s:=b6 A;have p:=b6 z;have O:=bQ A;have N:=bQ z;obtain ⟨E,G⟩:=asV K l;refine aX Tryz.func321 aB (h:=?_);unfold Tryz.f321;unfold kK;by_cases C:kd=1∨kd=2
 ·rcases C with rfl | rfl
  ·skip
   by_cases u:ix < 0
   ·have b:eA k r c w 1 ix ce st l m=false:=by
     have:¬ (0≤ix∧ix < l.length):=by omega
     rw [eA,decide_eq_false this];simp
    simp only [↓pre,simprocAttr,aA,sx,nT,aB,s,p,aV,eq_self,u,b]
   ·by_cases v:k+r≤ix
    ·have b:eA k r c w 1 ix ce st l m=false:=by
      by_cases g:jB k r c w l=0
      ·have:=(G g).2;have:¬ (0≤ix∧ix < l.length):=by omega
       rw [eA,decide_eq_false this];simp
      ·rw [eA,decide_eq_false g];simp
     simp only [↓pre,simprocAttr,aA,sx,nT,aB,s,p,aV,eq_self,u]
     (first | refine aH (o) (by first | rfl | simp only [aA,aD, *]) ?_ | refine aG (o) (by first | rfl | simp only [aA,aD, *]) (by intro k;first | rfl | simp only [ *,zaa]) ?_);simp only [↓pre,simprocAttr,sx,aB,eq_self,v,b]
    ·by_cases j:(m:Int)=c
     ·simp only [↓pre,simprocAttr,aA,sx,nT,aB,s,p,aV,eq_self,u]
      (first | refine aH (o) (by first | rfl | simp only [aA,aD, *]) ?_ | refine aG (o) (by first | rfl | simp only [aA,aD, *]) (by intro k;first | rfl | simp only [ *,zaa]) ?_);simp only [↓pre,simprocAttr,sx,nT,aB,aE,z.len',eq_self,v,j]
      (first | refine aH H (by simp only [c9,plain,F,aAu]) ?_ | refine aG H (by simp only [c9,plain,aA,aC,F,aAF,aAu]) (by intro k;first | rfl | simp only [ *,zaa]) ?_)
      by_cases d:0 < qJ k r l
      ·have g:=E.1 d;obtain ⟨q,B⟩:=G g;obtain ⟨i,rfl⟩:∃ i:Nat,ix=(i:Nat):=⟨ix.toNat,by omega⟩
       have t:i < l.length:=by omega
       obtain ⟨a,D⟩:∃ a,l[i]? = some a:=⟨_,azj t⟩
       have I:=nB (x:=x) D;by_cases f:st=qJ k r l
       ·have b:eA k r c w 1 (i:Nat) ce st l m=decide (ce=a):=by
         have J:(0:Int)≤(i:Nat)∧((i:Nat):Int) < (l.length:Nat):=by omega
         rw [eA,decide_eq_true g,decide_eq_true (f.trans q),decide_eq_true J,decide_eq_true j,aA8,D];by_cases n:ce=a
         ·simp [n]
         ·have:¬ a=ce:=fun e=>n e.symm
          simp [n,this]
        rw [b];clear b;replace q:=Hid.mk q;replace B:=Hid.mk B;replace g:=Hid.mk g;simp only [↓pre,simprocAttr,sx,nT,aB,aE,A.addr',eq_self,d,f,t,azD,I]
       ·have b:eA k r c w 1 (i:Nat) ce st l m=false:=by
         have:¬ st=kA l:=by rw [←q];exact f
         rw [eA,decide_eq_false this];simp
        simp only [↓pre,simprocAttr,sx,nT,aB,eq_self,d,f,b]
      ·have b:eA k r c w 1 ix ce st l m=false:=by
        have g:¬ jB k r c w l=0:=fun h=>d (E.2 h)
        rw [eA,decide_eq_false g];simp
       simp only [↓pre,simprocAttr,sx,aB,eq_self,d,b]
     ·have b:eA k r c w 1 ix ce st l m=false:=by
       rw [eA,decide_eq_false j];simp
      simp only [↓pre,simprocAttr,aA,sx,nT,aB,s,p,aV,eq_self,u]
      (first | refine aH (o) (by first | rfl | simp only [aA,aD, *]) ?_ | refine aG (o) (by first | rfl | simp only [aA,aD, *]) (by intro k;first | rfl | simp only [ *,zaa]) ?_);simp only [↓pre,simprocAttr,sx,nT,aB,aE,z.len',eq_self,v,j,b]
  ·skip
   by_cases u:ix < 0
   ·have b:eA k r c w 2 ix ce st l m=false:=by
     have:¬ (0≤ix∧ix < l.length):=by omega
     rw [eA,decide_eq_false this];simp
    simp only [↓pre,simprocAttr,aA,sx,nT,aB,s,p,aV,eq_self,u,b]
   ·by_cases v:k+r≤ix
    ·have b:eA k r c w 2 ix ce st l m=false:=by
      by_cases g:jB k r c w l=0
      ·have:=(G g).2;have:¬ (0≤ix∧ix < l.length):=by omega
       rw [eA,decide_eq_false this];simp
      ·rw [eA,decide_eq_false g];simp
     simp only [↓pre,simprocAttr,aA,sx,nT,aB,s,p,aV,eq_self,u]
     (first | refine aH (o) (by first | rfl | simp only [aA,aD, *]) ?_ | refine aG (o) (by first | rfl | simp only [aA,aD, *]) (by intro k;first | rfl | simp only [ *,zaa]) ?_);simp only [↓pre,simprocAttr,sx,aB,eq_self,v,b]
    ·by_cases j:(m:Int)=c
     ·simp only [↓pre,simprocAttr,aA,sx,nT,aB,s,p,aV,eq_self,u]
      (first | refine aH (o) (by first | rfl | simp only [aA,aD, *]) ?_ | refine aG (o) (by first | rfl | simp only [aA,aD, *]) (by intro k;first | rfl | simp only [ *,zaa]) ?_);simp only [↓pre,simprocAttr,sx,nT,aB,aE,z.len',eq_self,v,j]
      (first | refine aH H (by simp only [c9,plain,F,aAu]) ?_ | refine aG H (by simp only [c9,plain,aA,aC,F,aAF,aAu]) (by intro k;first | rfl | simp only [ *,zaa]) ?_)
      by_cases d:0 < qJ k r l
      ·have g:=E.1 d;obtain ⟨q,B⟩:=G g;obtain ⟨i,rfl⟩:∃ i:Nat,ix=(i:Nat):=⟨ix.toNat,by omega⟩
       have t:i < l.length:=by omega
       obtain ⟨a,D⟩:∃ a,l[i]? = some a:=⟨_,azj t⟩
       have I:=nB (x:=x) D;by_cases f:st=qJ k r l
       ·have b:eA k r c w 2 (i:Nat) ce st l m=decide (ce=a):=by
         have J:(0:Int)≤(i:Nat)∧((i:Nat):Int) < (l.length:Nat):=by omega
         rw [eA,decide_eq_true g,decide_eq_true (f.trans q),decide_eq_true J,decide_eq_true j,aA8,D];by_cases n:ce=a
         ·simp [n]
         ·have:¬ a=ce:=fun e=>n e.symm
          simp [n,this]
        rw [b];clear b;replace q:=Hid.mk q;replace B:=Hid.mk B;replace g:=Hid.mk g;simp only [↓pre,simprocAttr,sx,nT,aB,aE,A.addr',eq_self,d,f,t,azD,I]
       ·have b:eA k r c w 2 (i:Nat) ce st l m=false:=by
         have:¬ st=kA l:=by rw [←q];exact f
         rw [eA,decide_eq_false this];simp
        simp only [↓pre,simprocAttr,sx,nT,aB,eq_self,d,f,b]
      ·have b:eA k r c w 2 ix ce st l m=false:=by
        have g:¬ jB k r c w l=0:=fun h=>d (E.2 h)
        rw [eA,decide_eq_false g];simp
       simp only [↓pre,simprocAttr,sx,aB,eq_self,d,b]
     ·have b:eA k r c w 2 ix ce st l m=false:=by
       rw [eA,decide_eq_false j];simp
      simp only [↓pre,simprocAttr,aA,sx,nT,aB,s,p,aV,eq_self,u]
      (first | refine aH (o) (by first | rfl | simp only [aA,aD, *]) ?_ | refine aG (o) (by first | rfl | simp only [aA,aD, *]) (by intro k;first | rfl | simp only [ *,zaa]) ?_);simp only [↓pre,simprocAttr,sx,nT,aB,aE,z.len',eq_self,v,j,b]
 ·have b:eA k r c w kd ix ce st l m=false:=by
   have t:¬ kd=1:=fun h=>C (.inl h)
   have L:¬ kd=2:=fun h=>C (.inr h)
   simp [eA,t,L]
  have t:¬ kd=1:=fun h=>C (.inl h)
  have L:¬ kd=2:=fun h=>C (.inr h)
  simp only [↓pre,simprocAttr,aA,sx,nT,aB,s,p,t,L,b,aV]
def wO (l a:List Int):Bool:=decide (l=a)
theorem asX (v A:AV) (l d:List Int) (x D:List AV) (u:aZ v l.length (bK l++x)) (o:aZ A d.length (bK d++D)) (K:l.length≤1000000000000) (J:d.length≤1000000000000):aR ayS 54 [v,A] ⟨aV (wO l d),[]⟩:=by
 refine aX Tryz.func54 aB (h:=?_);unfold Tryz.f54;simp only [↓pre,simprocAttr,sx,ag6,aB,aE,u.len',o.len'];refine cQ (fun G => ?_) (fun G => ?_)
 ·have a:l.length=d.length:=by omega
  simp only [↓pre,simprocAttr];rw [bS];refine bU (fun n e m=>∃ i,n+i=l.length∧e 0=v∧e 1=A∧e 5=aC (i:Nat)∧∀ j,j < i→l[j]? = d[j]?) l.length ⟨0,by omega, ?_⟩ ?_
  ·simp [bB.set,jY,aC]
  ·rintro n e m ⟨i,hi,w,E,t,c⟩;replace c:=Hid.mk c;replace a:=Hid.mk a;simp only [↓pre,simprocAttr,sx,ag6,aB,aE,w,t,u.len'];refine cO (fun s => ?_) (fun s => ?_)
   ·obtain ⟨z,g⟩:∃ r,l[i]? = some r:=⟨_,azj (by omega)⟩
    obtain ⟨L,b⟩:∃ r,d[i]? = some r:=⟨_,azj (by have:=a.out;omega)⟩
    have H:=nB (x:=x) g;have I:=nB (x:=D) b;have C:i < l.length:=by omega
    have q:i < d.length:=by have:=a.out;omega
    have w1:=bY (n:=i) (by omega);simp only [↓pre,simprocAttr,sx,ag6,aB,aE,w,E,t,u.addr',o.addr',azD,H,I,C,q];refine cQ (fun B => ?_) (fun B => ?_)
    ·simp only [↓pre,simprocAttr,sx,aB,w,E,t,w1];refine ⟨n - 1,by omega,i+1,by omega,rfl,fun j F => ?_⟩;by_cases y:j=i
     ·rw [y,g,b,B]
     ·exact c.out j (by omega)
    ·have f:wO l d=false:=by
      unfold wO;simp only [decide_eq_false_iff_not];intro k;subst k;rw [g] at b;simp only [Option.some.injEq] at b;exact B b
     simp only [↓pre,simprocAttr,sx,f,aV]
   ·have p:wO l d=true:=by
     unfold wO;simp only [decide_eq_true_eq];refine aAf fun j => ?_
     by_cases F:j < i
     ·exact c.out j F
     ·have:=a.out;rw [ay3 (by omega),ay3 (by omega)]
    simp only [↓pre,simprocAttr,sx,p,aV]
 ·have f:wO l d=false:=by
   unfold wO;simp only [decide_eq_false_iff_not];intro k;subst k;exact G rfl
  simp only [↓pre,simprocAttr,sx,f,aV]
theorem asY (z kd ix ce st:Int) (vv dv:AV):aR ayS 175 [aC z,.tptr 0 [.val (.int .u8 kd),aC ix,aC ce,aC st,vv,dv]] ⟨aV (!decide (z=ce)),[]⟩:=by
 refine aX Tryz.func175 aB (h:=?_);unfold Tryz.f175;simp only [↓pre,simprocAttr,sx,asf,aB,aV]
def jC:Nat→Bool:=fun d=>d != 4
def nC:AV:=kK 0 0 0 0 aN aN
theorem asZ (k r c w:Int) (v:AV) (bs:List UInt8) (x:List AV) (a:aZ v bs.length (aL bs++x)) (b:bG k r c w=false):aR ayS 93 [aA k r c w,v] ⟨.tup [nC,aV false,aC 2],[]⟩:=by
 have d:=a.plain;refine aX Tryz.func93 jC (h:=?_);unfold Tryz.f93;simp only [↓pre,simprocAttr,aA,sx,lV,jC,aAB,bne,aM,eq_self]
 (first | refine aH (rJ k r c w) (by first | rfl | simp only [aA,aD, *]) ?_ | refine aG (rJ k r c w) (by first | rfl | simp only [aA,aD, *]) (by intro k;first | rfl | simp only [ *,zaa]) ?_);simp only [↓pre,simprocAttr,sx,lV,jC,aAB,bne,aE,aJ,eq_self,b]
 rfl
theorem as0 (k r c w:Int) (v:AV) (bs:List UInt8) (x:List AV) (a:aZ v bs.length (aL bs++x)) (d:bG k r c w=true) (b:(bs.length:Int)=0):aR ayS 93 [aA k r c w,v] ⟨.tup [nC,aV false,aC 0],[]⟩:=by
 have e:=a.plain;refine aX Tryz.func93 jC (h:=?_);unfold Tryz.f93;simp only [↓pre,simprocAttr,aA,sx,lV,jC,aAB,bne,aM,eq_self]
 (first | refine aH (rJ k r c w) (by first | rfl | simp only [aA,aD, *]) ?_ | refine aG (rJ k r c w) (by first | rfl | simp only [aA,aD, *]) (by intro k;first | rfl | simp only [ *,zaa]) ?_);simp only [↓pre,simprocAttr,sx,lV,jC,aAB,bne,aE,aJ,eq_self,d,a.len',b]
 rfl
theorem as1 (k r c w:Int) (v:AV) (bs:List UInt8) (x:List AV) (b:aZ v bs.length (aL bs++x)) (e:bG k r c w=true) (d:¬ (bs.length:Int)=0) (a:¬ (bs.length:Int)=d8 k r c):aR ayS 93 [aA k r c w,v] ⟨.tup [nC,aV false,aC 100],[]⟩:=by
 have f:=b.plain;refine aX Tryz.func93 jC (h:=?_);unfold Tryz.f93;simp only [↓pre,simprocAttr,aA,sx,lV,jC,aAB,bne,aM,eq_self]
 (first | refine aH (rJ k r c w) (by first | rfl | simp only [aA,aD, *]) ?_ | refine aG (rJ k r c w) (by first | rfl | simp only [aA,aD, *]) (by intro k;first | rfl | simp only [ *,zaa]) ?_);simp only [↓pre,simprocAttr,sx,lV,jC,aAB,bne,aE,aJ,eq_self,e,b.len',d,a]
 rfl
theorem as2 (k r c w:Int) (v:AV) (bs:List UInt8) (x:List AV) (g:aZ v bs.length (aL bs++x)) (i:bG k r c w=true) (d:(bs.length:Int)=d8 k r c) {a b:UInt8} (q:bs[0]? = some a) (o:bs[1]? = some b) (j:¬ ((a.toNat:Int)=84∧(b.toNat:Int)=50)):aR ayS 93 [aA k r c w,v] ⟨.tup [nC,aV false,aC 0],[]⟩:=by
 have u:=g.plain;have f:=gX i;have m:=iE (x:=x) q;have p:=iE (x:=x) o;have n:0 < bs.length:=by unfold d8 at d;omega
 have s:1 < bs.length:=by unfold d8 at d;omega
 have e:¬ d8 k r c=0:=by rw [←d];omega
 replace f:=Hid.mk f;refine aX Tryz.func93 jC (h:=?_);unfold Tryz.f93;simp only [↓pre,simprocAttr,aA,sx,lV,jC,aAB,bne,aM,eq_self];by_cases l:(a.toNat:Int)=84
 ·have t:¬ (b.toNat:Int)=50:=fun h=>j ⟨l,h⟩
  (first | refine aH (rJ k r c w) (by first | rfl | simp only [aA,aD, *]) ?_ | refine aG (rJ k r c w) (by first | rfl | simp only [aA,aD, *]) (by intro k;first | rfl | simp only [ *,zaa]) ?_);simp only [↓pre,simprocAttr,sx,lV,jC,aAB,bne,aE,aJ,eq_self,i,g.len',d,e,g.addr',n,s,azD,m,p,l,t]
  rfl
 ·(first | refine aH (rJ k r c w) (by first | rfl | simp only [aA,aD, *]) ?_ | refine aG (rJ k r c w) (by first | rfl | simp only [aA,aD, *]) (by intro k;first | rfl | simp only [ *,zaa]) ?_);simp only [↓pre,simprocAttr,sx,lV,jC,aAB,bne,aE,aJ,eq_self,i,g.len',d,e,g.addr',n,azD,m,l]
  rfl
def gY (bs:List UInt8) (o:Nat):Int:=((dL ((bs.drop o).take 4):Nat):Int)
def kB (bs:List UInt8) (n:Nat):List Int:=(List.range n).map fun j=>gY bs (12+4*j)
theorem amN (bs:List UInt8) (n:Nat):kB bs (n+1)=kB bs n++[gY bs (12+4*n)]:=by simp [kB,List.range_succ]
theorem abt (bs:List UInt8) (n:Nat):(kB bs n).length=n:=by simp [kB]
theorem acW (a b:List Int):bK (a++b)=bK a++bK b:=by simp [bK]
def z7 (kd ix:Int) (bs:List UInt8) (N C:Nat):Bool→fF
 | true=>⟨.tup [kK kd ix (gY bs 4) (gY bs 8) (.sl 0 0 N N false) (.sl 1 0 C C false),aV true,aC 0],[(3,bK (kB bs N)),(5,aL (bs.drop (12+4*N)))]⟩
 | false=>⟨.tup [nC,aV false,aC 0],[]⟩
theorem as3 (k r c w:Int) (v:AV) (bs:List UInt8) (x:List AV) (hv:aZ v bs.length (aL bs++x)) (hm:bG k r c w=true) (hb2:(bs.length:Int)=d8 k r c) {a2 a3:UInt8} (h0:bs[0]? = some 84) (h1:bs[1]? = some 50) (h2:bs[2]? = some a2) (h3:bs[3]? = some a3):aR ayS 93 [aA k r c w,v] (z7 a2.toNat a3.toNat bs (k+r).toNat c.toNat (eA k r c w a2.toNat a3.toNat (gY bs 4) (gY bs 8) (kB bs (k+r).toNat) c.toNat)):=by
 have hp:=hv.plain
 have hmn:=gX hm
 have b0:=iE (x:=x) h0
 have b1:=iE (x:=x) h1
 have b2:=iE (x:=x) h2
 have b3:=iE (x:=x) h3
 have l12:12≤bs.length:=by unfold d8 at hb2;omega
 have l0:0 < bs.length:=by omega
 have l1:1 < bs.length:=by omega
 have l2:2 < bs.length:=by omega
 have l3:3 < bs.length:=by omega
 have hb1:¬ d8 k r c=0:=by rw [←hb2];omega
 have c84:(((84:UInt8).toNat:Nat):Int)=84:=rfl
 have c50:(((50:UInt8).toNat:Nat):Int)=50:=rfl
 have w5:azv.wrap (a3.toNat:Int)=(a3.toNat:Int):=cD (by have:=a3.toNat_lt;omega)
 have nt4:jW (.val (.int .i64 4))=some 4:=rfl
 replace hmn:=Hid.mk hmn
 replace l12:=Hid.mk l12
 obtain ⟨v1,s1,r1⟩:=hv.slice (P:=ayS) (t:=52) (sz:=1) (lo:=some 4) (hi:=none) (by kernel_rfl) (by have:=l12.out;simp only [aAB,aAA];omega) (by simp)
 simp only [aAB,aAA,azD] at r1
 rw [qK bs x 4 (by have:=l12.out;omega),←aA9] at r1
 obtain ⟨v2,r2,t1⟩:=aht v1 (bs.drop 4) x r1 (by have:=l12.out;rw [aA9];omega)
 obtain ⟨v3,r3,t2⟩:=aht v2 ((bs.drop 4).drop 4) x r2 (by have:=l12.out;simp only [aA9];omega)
 have p1:=r1.plain
 have p2:=r2.plain
 have sh1:=cH r1
 have sh2:=cH r2
 have sh3:=cH r3
 rw [aBb,aBb] at r3
 obtain ⟨N,hN⟩:∃ N:Nat,k+r=(N:Int):=⟨(k+r).toNat,by have:=hmn.out;omega⟩
 obtain ⟨C,hC⟩:∃ C:Nat,c=(C:Int):=⟨c.toNat,by have:=hmn.out;omega⟩
 have hNN:(k+r).toNat=N:=by omega
 have hCC:c.toNat=C:=by omega
 rw [hNN,hCC]
 generalize hres:z7 _ _ _ _ _ _=res
 have hlen:bs.length=12+4*N+C:=by unfold d8 at hb2;omega
 have hN16:N≤16∧1≤N∧8≤C∧C≤64:=by have:=hmn.out;omega
 replace hlen:=Hid.mk hlen
 replace hN:=Hid.mk hN
 replace hN16:=Hid.mk hN16
 have bt0:∀ m,gF ayS m 52 0 []=some ⟨.tree 0 0 [] true,m,none⟩:=fun m=>zP (el:=5) (sz:=1) (z:=[]) (by kernel_rfl) (by kernel_rfl) (by kernel_rfl) rfl rfl (by decide)
 refine aX Tryz.func93 jC (h:=?_);unfold Tryz.f93
 simp only [↓pre,simprocAttr,aA,sx,lV,jC,aAB,bne,aM,eq_self]
 (first | refine aH (rJ k r c w) (by first | rfl | simp only [aA,aD, *]) ?_ | refine aG (rJ k r c w) (by first | rfl | simp only [aA,aD, *]) (by intro k;first | rfl | simp only [ *,zaa]) ?_);simp only [↓pre,za,lV,jC,bE,simprocAttr,bne,aJ,hm,hv.len',hb2,hb1,hv.addr',l0,l1,l2,l3,b0,b1,b2,b3,w5]
 refine dE (by kernel_rfl) ?_
 simp only [↓pre,simprocAttr,sx,lV,jC,aAB,aAA,bne,aE,aJ,eq_self]
 refine dE (by kernel_rfl) ?_
 simp only [↓pre,simprocAttr,sx,jC,aAB,bne,eq_self,aBa,dB,hv.sliceX,s1,nt4]
 (first | refine aH (t1) (by first | rfl | simp only [aD, *]) ?_ | refine aG (t1) (by first | rfl | simp only [aA,aD, *]) (by intro k;first | rfl | simp only [ *,zaa]) ?_);simp only [↓pre,simprocAttr,sx,lV,jC,aAB,aAA,bne,aE,aJ,eq_self,sh2];(first | refine aH (t2) (by first | rfl | simp only [aD, *]) ?_ | refine aG (t2) (by first | rfl | simp only [aA,aD, *]) (by intro k;first | rfl | simp only [ *,zaa]) ?_);simp only [↓pre,simprocAttr,sx,lV,jC,aAB,aAA,bne,aE,aJ,eq_self,sh3]
 rw [bS]
 refine bU (fun n e m=>∃ i,n+i=N∧e 2 = .tptr 0 [aC k,aC r,aC c,aC w]∧e 4 = .ptr 0 0∧aZ (e 8) (bs.drop (12+4*i)).length (aL (bs.drop (12+4*i))++x)∧0 < m.next∧∃ vv,m.at_ 0=some ⟨[.val (.int .u8 a2.toNat),aC a3.toNat,aC (gY bs 4),aC (gY bs 8),vv,aN],127,.var,true⟩∧Own m 3 1 vv i (bK (kB bs i))) N ⟨0,by omega, ?_⟩ ?_
 ·refine ⟨rfl,rfl,by simpa [bB.set] using r3,by simp [bX,bM],aN, ?_,fC⟩
  have e9:gY bs 8=((dL (List.take 4 (List.drop 4 (List.drop 4 bs))):Nat):Int):=by rw [aBb];rfl
  rw [e9];rfl
 ·rintro n e m ⟨i,hi,e2,e4,r8,hnx,vv,hm0,ho⟩
  by_cases hlt:i < N
  ·have l4:12+4*i+4+C≤bs.length:=by have:=hlen.out;omega
   have g1:((C:Nat):Int) < ((bs.drop (12+4*i)).length:Nat):=by rw [aA9];omega
   obtain ⟨v9,r9,t9⟩:=aht (e 8) (bs.drop (12+4*i)) x r8 (by rw [aA9];omega)
   have p8:=r8.plain
   have sh9:=cH r9
   rw [←hC] at g1
   simp only [↓pre,simprocAttr,sx,lV,jC,aAB,bne,aE,eq_self,r8.len',e2,g1]
   (first | refine aH (t9) (by first | rfl | simp only [aD, *]) ?_ | refine aG (t9) (by first | rfl | simp only [aA,aD, *]) (by intro k;first | rfl | simp only [ *,zaa]) ?_);simp only [↓pre,simprocAttr,sx,lV,jC,aAB,bne,bE,eq_self,sh9,e4,hm0]
   refine x4 (sz:=1) (y:=8) (zl:=[.int .i64 0]) (by kernel_rfl) ho (by kernel_rfl) (by kernel_rfl) (by kernel_rfl) rfl mN (by rfl) (by have:=hN16.out;omega) (by have:=hN16.out;omega) ?_
   intro vv' m' ho' hnx' hkeep hbl
   have hm0':=hkeep 0 _ hm0 hnx (ho.ne_kind hm0 (fun h=>by cases h))
   obtain ⟨b',rfl,hb',hlt'⟩:=ho'.sl (by omega)
   simp only [↓pre,simprocAttr,sx,lV,jC,aAB,aAA,bne,aE,aJ,eq_self,e2,e4,hm0']
   refine ⟨n - 1,by omega,i+1,by omega, ?_,by omega,.sl b' 0 (i+1) (i+1) false,rfl, ?_⟩
   ·rw [aBb] at r9
    exact r9
   ·rw [amN,acW]
    exact ho'.put_kind hm0' (fun h=>by cases h)
  ·have hiN:i=N:=by omega
   subst hiN
   have hdl:(bs.drop (12+4*i)).length=C:=by have:=hlen.out;rw [aA9];omega
   rw [hdl] at r8
   have g1:¬ ((C:Nat):Int) < ((C:Nat):Int):=by omega
   rw [←hC] at g1
   simp only [↓pre,za,lV,jC,bE,simprocAttr,bne,r8.len',e2,hC.symm,g1,bt0]
   have hsrc:f9 ayS 5 1 m (e 8)=some (aL (bs.drop (12+4*i)),C):=by
    have hq:=r8.src (P:=ayS) (m:=m) (el:=5) (sz:=1) (by rw [azD,aAZ];simp [aL];have:=hlen.out;omega)
    rw [hq,azD,List.take_left' (by simp [aL];have:=hlen.out;omega)]
   rw [ag0 (sz:=1) (y:=1) (zl:=[.int .u8 0]) rfl (by kernel_rfl) (by kernel_rfl) (by kernel_rfl) rfl hsrc (by have:=hN16.out;omega) (by have:=hN16.out;omega) (by have:=hN16.out;omega)]
   have h0n:¬ 0=m.next:=by omega
   have h1n:¬ m.next=0:=by omega
   have hbk:=ho.ne_kind hm0 (fun h=>by cases h)
   obtain ⟨b,rfl,hb,hlt⟩:=ho.sl (by have:=hN16.out;omega)
   have hb0:b≠0:=fun h=>hbk (by rw [h];rfl)
   simp only [↓pre,simprocAttr,sx,lV,jC,aAB,aAA,bne,aE,aJ,eq_self,e2,e4,hm0,h0n,h1n]
   generalize hm2:aF.put _ _ _=m2
   have q0:m2.at_ 0=some ⟨[.val (.int .u8 a2.toNat),aC a3.toNat,aC (gY bs 4),aC (gY bs 8),.sl b 0 i i false,.sl m.next 0 C C false],127,.var,true⟩:=by rw [←hm2,aO,if_pos rfl];rfl
   have q1:m2.at_ b=some ⟨bK (kB bs i),3,.flat,true⟩:=by rw [←hm2,aO,if_neg hb0,aT,if_neg (by omega)];exact hb
   have q2:m2.at_ m.next=some ⟨aL (bs.drop (12+4*i)),5,.flat,true⟩:=by rw [←hm2,aO,if_neg h1n,aT,if_pos rfl]
   have hbn:¬ m.next=b:=by omega
   generalize m.next=b2 at *
   have hil:(kB bs i).length=i:=abt bs i
   refine xX (asQ k r c w a2.toNat a3.toNat (gY bs 4) (gY bs 8) (.tree i i (bK (kB bs i)) false) (.tree C C (aL (bs.drop (12+4*i))) false) (kB bs i) [] C (aL (bs.drop (12+4*i))) ⟨.inr (.inr ⟨i,false,by rw [hil,List.append_nil],by rw [hil];exact ay7 _⟩)⟩ ⟨.inr (.inr ⟨C,false,rfl,ay7 _⟩)⟩ (by rw [hil];have:=hN16.out;omega)) (by simp [d9,lend,q1,q2,aA,kK,aC]) rfl rfl ?_
   rw [←hres]
   cases hms:eA k r c w a2.toNat a3.toNat (gY bs 4) (gY bs 8) (kB bs i) C
   ·simp only [↓pre,za,lV,jC,simprocAttr,bne,aJ,e4,q0]
    rfl
   ·have k3:bP ayS 3 = .flat:=by kernel_rfl
    have k5:bP ayS 5 = .flat:=by kernel_rfl
    have hbn':¬ b=b2:=fun h=>hbn h.symm
    simp only [↓pre,za,lV,jC,simprocAttr,bne,aJ,e4,q0]
    simp only [hb0,h1n,q1,q2,k3,k5,if_false,if_true,aAh,az3,List.any_nil,azx,not_true_eq_false,or_self,List.any_cons,Bool.or_false,beq_eq_false_iff_ne.2 hbn']
    rfl
structure rK where
 kd:Int
 ix:Int
 ce:Int
 st:Int
 vec:List Int
 data:List UInt8
def cT (k r:Int) (bs:List UInt8):rK:=⟨(bs.getD 2 0).toNat,(bs.getD 3 0).toNat,gY bs 4,gY bs 8,kB bs (k+r).toNat,bs.drop (12+4*(k+r).toNat)⟩
def rK.v (s:rK):AV:=kK s.kd s.ix s.ce s.st (.tree s.vec.length s.vec.length (bK s.vec) false) (.tree s.data.length s.data.length (aL s.data) false)
def uG (k r c w:Int) (s:rK):Bool:=eA k r c w s.kd s.ix s.ce s.st s.vec s.data.length
def eS (k r c w:Int) (bs:List UInt8):Bool:=decide ((bs.length:Int)=d8 k r c) && (decide (bs[0]? = some 84) && (decide (bs[1]? = some 50) && uG k r c w (cT k r bs)))
def pF (k r c w:Int) (bs:List UInt8):AV:=if bG k r c w=true∧eS k r c w bs=true then .tup [(cT k r bs).v,aV true,aC 0] else .tup [nC,aV false,aC (if bG k r c w=false then 2 else if (bs.length:Int)=0 then 0 else if (bs.length:Int)=d8 k r c then 0 else 100)]
theorem amO (k r c w:Int) (v:AV) (bs:List UInt8) (x:List AV) (l:aZ v bs.length (aL bs++x)):aR ayS 93 [aA k r c w,v] ⟨pF k r c w bs,[]⟩:=by
 cases b:bG k r c w with
 | false =>
  have:=asZ k r c w v bs x l b;simpa [pF,b] using this
 | true =>
  have J:=gX b;by_cases g:(bs.length:Int)=0
  ·have e:eS k r c w bs=false:=by
    have:¬ (bs.length:Int)=d8 k r c:=by rw [g];unfold d8;omega
    unfold eS;rw [decide_eq_false this];rfl
   have:=as0 k r c w v bs x l b g;simpa [pF,b,e,g] using this
  ·by_cases hs:(bs.length:Int)=d8 k r c
   ·have I:12≤bs.length:=by unfold d8 at hs;omega
    obtain ⟨A,t⟩:∃ a,bs[0]? = some a:=⟨_,azj (by omega)⟩
    obtain ⟨u,e⟩:∃ a,bs[1]? = some a:=⟨_,azj (by omega)⟩
    obtain ⟨q,B⟩:∃ a,bs[2]? = some a:=⟨_,azj (by omega)⟩
    obtain ⟨p,o⟩:∃ a,bs[3]? = some a:=⟨_,azj (by omega)⟩
    by_cases i:A=84∧u=50
    ·obtain ⟨rfl,rfl⟩:=i;have m:=as3 k r c w v bs x l b hs t e B o;have y:(cT k r bs).vec.length=(k+r).toNat:=abt _ _;have n:(cT k r bs).data.length=c.toNat:=by simp only [cT,aA9];unfold d8 at hs;omega
     have H:(bs.getD 2 0)=q:=by rw [azp,B];rfl
     have F:(bs.getD 3 0)=p:=by rw [azp,o];rfl
     have j:uG k r c w (cT k r bs)=eA k r c w q.toNat p.toNat (gY bs 4) (gY bs 8) (kB bs (k+r).toNat) c.toNat:=by
      unfold uG;rw [n];simp only [cT,H,F]
     have d:eS k r c w bs=uG k r c w (cT k r bs):=by unfold eS;rw [decide_eq_true hs,decide_eq_true t,decide_eq_true e];rfl
     rw [←j] at m;cases s:uG k r c w (cT k r bs) with
     | false =>
      rw [s] at m;simpa [pF,b,d,s,g,hs,z7] using m
     | true =>
      rw [s] at m;have E:bP ayS 3 = .flat:=by kernel_rfl
      have D:bP ayS 5 = .flat:=by kernel_rfl
      have:=uB 1 m (by simp [z7,iT,j7,kK,aC,aV,E,D]);have z:pF k r c w bs=fE ayS (z7 q.toNat p.toNat bs (k+r).toNat c.toNat true).rows 1 (z7 q.toNat p.toNat bs (k+r).toNat c.toNat true).v:=by
       unfold pF;rw [if_pos ⟨b,by rw [d,s]⟩];simp [z7,fE,iD,kK,aC,aV,E,D,rK.v,y,n];simp [cT,B,o]
      rw [z];exact this
    ·have f:¬ ((A.toNat:Int)=84∧(u.toNat:Int)=50):=by
      rintro ⟨o,K⟩;exact i ⟨aBc.1 (by simp;omega),aBc.1 (by simp;omega)⟩
     have d:eS k r c w bs=false:=by
      unfold eS;rw [t,e];by_cases C:A=84
      ·have G:¬ u=50:=fun h=>i ⟨C,h⟩
       simp [G]
      ·simp [C]
     have:=as2 k r c w v bs x l b hs t e f;simpa [pF,b,d,g,hs] using this
   ·have e:eS k r c w bs=false:=by unfold eS;rw [decide_eq_false hs];rfl
    have:=as1 k r c w v bs x l b g hs;have f:bs≠[]:=by rintro rfl;exact g rfl
    simpa [pF,b,e,f,hs] using this
def kL:Nat→Bool:=fun d=>d != 4 && (d != 6 && (d != 47 && d != 57))
def z8 (k r c w:Int) (bs:List UInt8):AV := .tup [if eS k r c w bs=true then (cT k r bs).v else nC,aV (eS k r c w bs)]
theorem as4 (k r c w:Int) (v:AV) (bs:List UInt8) (x:List AV) (e:aZ v bs.length (aL bs++x)) (d:bG k r c w=true) (b:¬ (bs.length:Int)=d8 k r c):aR ayS 288 [aA k r c w,v] ⟨.tup [nC,aV false],[]⟩:=by
 have f:=e.plain;have a:=gX d;replace a:=Hid.mk a;refine aX Tryz.func288 kL (h:=?_);unfold Tryz.f288;simp only [↓pre,za,m9,kL,aM,simprocAttr,aA,bne,e.len']
 (first | refine aH (vE k r c w d) (by first | rfl | simp only [aA,aD, *]) ?_ | refine aG (vE k r c w d) (by first | rfl | simp only [aA,aD, *]) (by intro k;first | rfl | simp only [ *,zaa]) ?_);simp only [↓pre,za,m9,kL,simprocAttr,bne,aJ,b]
 rfl
theorem as5 (k r c w:Int) (v:AV) (bs:List UInt8) (x:List AV) (g:aZ v bs.length (aL bs++x)) (f:bG k r c w=true) (d:(bs.length:Int)=d8 k r c) {a b:UInt8} (p:bs[0]? = some a) (n:bs[1]? = some b) (i:¬ ((a.toNat:Int)=84∧(b.toNat:Int)=50)):aR ayS 288 [aA k r c w,v] ⟨.tup [nC,aV false],[]⟩:=by
 have t:=g.plain;have e:=gX f;have l:=iE (x:=x) p;have o:=iE (x:=x) n;have m:0 < bs.length:=by unfold d8 at d;omega
 have q:1 < bs.length:=by unfold d8 at d;omega
 replace e:=Hid.mk e;refine aX Tryz.func288 kL (h:=?_);unfold Tryz.f288;simp only [↓pre,za,m9,kL,aM,simprocAttr,aA,bne,g.len'];by_cases j:(a.toNat:Int)=84
 ·have s:¬ (b.toNat:Int)=50:=fun h=>i ⟨j,h⟩
  (first | refine aH (vE k r c w f) (by first | rfl | simp only [aA,aD, *]) ?_ | refine aG (vE k r c w f) (by first | rfl | simp only [aA,aD, *]) (by intro k;first | rfl | simp only [ *,zaa]) ?_);simp only [↓pre,za,m9,kL,simprocAttr,bne,aJ,d,g.addr',m,q,l,o,j,s]
  rfl
 ·(first | refine aH (vE k r c w f) (by first | rfl | simp only [aA,aD, *]) ?_ | refine aG (vE k r c w f) (by first | rfl | simp only [aA,aD, *]) (by intro k;first | rfl | simp only [ *,zaa]) ?_);simp only [↓pre,za,m9,kL,simprocAttr,bne,aJ,d,g.addr',m,l,j]
  rfl
def aaa (kd ix:Int) (bs:List UInt8) (N C:Nat):Bool→fF
 | true=>⟨.tup [kK kd ix (gY bs 4) (gY bs 8) (.sl 0 0 N N false) (.sl 1 0 C C false),aV true],[(3,bK (kB bs N)),(5,aL (bs.drop (12+4*N)))]⟩
 | false=>⟨.tup [nC,aV false],[]⟩
theorem as6 (k r c w:Int) (v:AV) (bs:List UInt8) (x:List AV) (hv:aZ v bs.length (aL bs++x)) (hm:bG k r c w=true) (hb2:(bs.length:Int)=d8 k r c) {a2 a3:UInt8} (h0:bs[0]? = some 84) (h1:bs[1]? = some 50) (h2:bs[2]? = some a2) (h3:bs[3]? = some a3):aR ayS 288 [aA k r c w,v] (aaa a2.toNat a3.toNat bs (k+r).toNat c.toNat (eA k r c w a2.toNat a3.toNat (gY bs 4) (gY bs 8) (kB bs (k+r).toNat) c.toNat)):=by
 have hp:=hv.plain
 have hmn:=gX hm
 have b0:=iE (x:=x) h0
 have b1:=iE (x:=x) h1
 have b2:=iE (x:=x) h2
 have b3:=iE (x:=x) h3
 have l12:12≤bs.length:=by unfold d8 at hb2;omega
 have l0:0 < bs.length:=by omega
 have l1:1 < bs.length:=by omega
 have l2:2 < bs.length:=by omega
 have l3:3 < bs.length:=by omega
 have c84:(((84:UInt8).toNat:Nat):Int)=84:=rfl
 have c50:(((50:UInt8).toNat:Nat):Int)=50:=rfl
 have w5:azv.wrap (a3.toNat:Int)=(a3.toNat:Int):=cD (by have:=a3.toNat_lt;omega)
 obtain ⟨N,hN⟩:∃ N:Nat,k+r=(N:Int):=⟨(k+r).toNat,by omega⟩
 obtain ⟨C,hC⟩:∃ C:Nat,c=(C:Int):=⟨c.toNat,by omega⟩
 have hNN:(k+r).toNat=N:=by omega
 have hCC:c.toNat=C:=by omega
 rw [hNN,hCC]
 generalize hres:aaa _ _ _ _ _ _=res
 have hlen:bs.length=12+4*N+C:=by unfold d8 at hb2;omega
 have hN16:N≤16∧1≤N∧8≤C∧C≤64:=by omega
 have n4:=ahu v bs x 4 hv (by omega) (by omega)
 have n8:=ahu v bs x 8 hv (by omega) (by omega)
 replace hlen:=Hid.mk hlen
 replace hN16:=Hid.mk hN16
 replace hmn:=Hid.mk hmn
 replace l12:=Hid.mk l12
 refine aX Tryz.func288 kL (h:=?_);unfold Tryz.f288
 simp only [↓pre,za,m9,kL,aM,simprocAttr,aA,bne,hv.len']
 (first | refine aH (vE k r c w hm) (by first | rfl | simp only [aA,aD, *]) ?_ | refine aG (vE k r c w hm) (by first | rfl | simp only [aA,aD, *]) (by intro k;first | rfl | simp only [ *,zaa]) ?_);simp only [↓pre,za,m9,kL,bE,simprocAttr,bne,hb2,hv.addr',l0,l1,l2,l3,b0,b1,b2,b3,w5];(first | refine aH (n4) (by first | rfl | simp only [aD, *]) ?_ | refine aG (n4) (by first | rfl | simp only [aD, *]) (by intro k;first | rfl | simp only [ *,zaa]) ?_);simp only [↓pre,zah,kL,simprocAttr,bne];(first | refine aH (n8) (by first | rfl | simp only [aD, *]) ?_ | refine aG (n8) (by first | rfl | simp only [aD, *]) (by intro k;first | rfl | simp only [ *,zaa]) ?_);simp only [↓pre,za,m9,kL,aM,simprocAttr,bne]
 refine dE (by kernel_rfl) ?_
 simp only [↓pre,za,m9,kL,simprocAttr,bne,aJ]
 refine dE (by kernel_rfl) ?_
 simp only [↓pre,zah,m9,kL,simprocAttr,bne]
 (first | refine aH (qI k r c w hm) (by first | rfl | simp only [aA,aD, *]) ?_ | refine aG (qI k r c w hm) (by first | rfl | simp only [aA,aD, *]) (by intro k;first | rfl | simp only [ *,zaa]) ?_);simp only [↓pre,simprocAttr,sx,aE,hN]
 rw [bS]
 refine bU (fun n e m=>∃ i,n+i=N∧e 1=v∧e 2 = .tptr 0 [aC k,aC r,aC c,aC w]∧e 4 = .ptr 0 0∧e 6 = .ptr 1 0∧e 7=aC (N:Nat)∧e 8=aC (i:Nat)∧1 < m.next∧m.at_ 0=some ⟨[.val (.int .u8 0),aC 0,aC 0,aC 0,aN,aN],127,.var,true⟩∧∃ vv,m.at_ 1=some ⟨[.val (.int .u8 a2.toNat),aC a3.toNat,aC (gY bs 4),aC (gY bs 8),vv,aN],127,.var,true⟩∧Own m 3 1 vv i (bK (kB bs i))) N ⟨0,by omega, ?_⟩ ?_
 ·refine ⟨rfl,rfl,rfl,rfl, ?_,rfl,by simp [bX,bM,aF.empty],rfl,aN, ?_,fC⟩
  ·simp [bB.set,aC]
  ·rfl
 ·rintro n e m ⟨i,hi,e1,e2,e4,e6,e7,e8,hnx,hm0,vv,hm1,ho⟩
  by_cases hlt:i < N
  ·have l4:12+4*i+4+C≤bs.length:=by have:=hlen.out;omega
   have g1:((i:Nat):Int) < ((N:Nat):Int):=by omega
   have hn16:=hN16.out
   have wa:azv.wrap (4*(i:Int))=((4*i:Nat):Int):=by rw [show (4*(i:Int))=((4*i:Nat):Int) by simp];exact cD (by omega)
   have wb:azv.wrap (12+((4*i:Nat):Int))=((12+4*i:Nat):Int):=by rw [show (12+((4*i:Nat):Int))=((12+4*i:Nat):Int) by simp];exact cD (by omega)
   have w1:=bY (n:=i) (by omega)
   have ni:=ahu v bs x (12+4*i) hv (by omega) (by have:=hlen.out;omega)
   replace hn16:=Hid.mk hn16
   simp only [↓pre,zah,m9,kL,simprocAttr,bne,e1,e6,e7,e8,g1,hm1,wa,wb]
   (first | refine aH (ni) (by first | rfl | simp only [aD, *]) ?_ | refine aG (ni) (by first | rfl | simp only [aD, *]) (by intro k;first | rfl | simp only [ *,zaa]) ?_);simp only [↓pre,zah,m9,kL,bE,simprocAttr,bne]
   refine x4 (sz:=1) (y:=8) (zl:=[.int .i64 0]) (by kernel_rfl) ho (by kernel_rfl) (by kernel_rfl) (by kernel_rfl) rfl mN (by rfl) (by have:=hN16.out;omega) (by have:=hN16.out;omega) ?_
   intro vv' m' ho' hnx' hkeep hbl
   have hm1':=hkeep 1 _ hm1 hnx (ho.ne_kind hm1 (fun h=>by cases h))
   have hm0':=hkeep 0 _ hm0 (by omega) (ho.ne_kind hm0 (fun h=>by cases h))
   obtain ⟨b',rfl,hb',hlt'⟩:=ho'.sl (by omega)
   refine dE (by kernel_rfl) ?_
   simp only [↓pre,za,m9,kL,simprocAttr,bne,aJ,e6,hm1']
   refine dE (by kernel_rfl) ?_
   simp only [↓pre,za,kL,simprocAttr,bne,e1,e2,e4,e6,e7,e8,hm0',w1]
   refine ⟨n - 1,by omega,i+1,by omega,rfl,by omega,.sl b' 0 (i+1) (i+1) false,rfl, ?_⟩
   rw [amN,acW]
   exact ho'.put_kind hm1' (fun h=>by cases h)
  ·have hiN:i=N:=by omega
   subst hiN
   have hdl:(bs.drop (12+4*i)).length=C:=by have:=hlen.out;rw [aA9];omega
   have g1:¬ ((i:Nat):Int) < ((i:Nat):Int):=by omega
   have hn16:=hN16.out
   have wa:azv.wrap (4*(i:Int))=((4*i:Nat):Int):=by rw [show (4*(i:Int))=((4*i:Nat):Int) by simp];exact cD (by omega)
   have wb:azv.wrap (12+((4*i:Nat):Int))=((12+4*i:Nat):Int):=by rw [show (12+((4*i:Nat):Int))=((12+4*i:Nat):Int) by simp];exact cD (by omega)
   obtain ⟨v5,s5,r5⟩:=hv.slice (P:=ayS) (t:=52) (sz:=1) (lo:=some (12+4*i)) (hi:=none) (by kernel_rfl) (by have:=hlen.out;simp only [aAB,aAA];omega) (by simp)
   simp only [aAB,aAA,azD] at r5
   rw [qK bs x _ (by have:=hlen.out;omega),←aA9,hdl] at r5
   replace hn16:=Hid.mk hn16
   simp only [↓pre,za,m9,kL,bE,aBa,simprocAttr,bne,dB,e1,e6,e7,e8,g1,hm1,wa,wb,hv.sliceX,s5]
   have hsrc:f9 ayS 5 1 m v5=some (aL (bs.drop (12+4*i)),C):=by
    have hq:=r5.src (P:=ayS) (m:=m) (el:=5) (sz:=1) (by rw [azD,aAZ];simp [aL];have:=hlen.out;omega)
    rw [hq,azD,List.take_left' (by simp [aL];have:=hlen.out;omega)]
   have hm0b:=ho.ne_kind hm0 (fun h=>by cases h)
   have hm1b:=ho.ne_kind hm1 (fun h=>by cases h)
   refine x4 (kd := .flat) (sz:=1) (y:=1) (zl:=[.int .u8 0]) (by kernel_rfl) fC (by kernel_rfl) (by kernel_rfl) (by kernel_rfl) rfl hsrc (by simp [aL];have:=hlen.out;omega) (by have:=hN16.out;omega) (by have:=hN16.out;omega) ?_
   intro dv m' hd hnx' hkeep hbl
   obtain ⟨b2,rfl,hb2',hlt2⟩:=hd.sl (by have:=hN16.out;omega)
   obtain ⟨b,rfl,hb,hlt1⟩:=ho.sl (by have:=hN16.out;omega)
   have hm1':=hkeep 1 _ hm1 hnx (fun h=>by cases h)
   have hm0':=hkeep 0 _ hm0 (by omega) (fun h=>by cases h)
   have hb':=hkeep b _ hb hlt1 (fun h=>by cases h)
   have hb0:¬ b=0:=fun h=>hm0b (by rw [h];rfl)
   have hb1:¬ b=1:=fun h=>hm1b (by rw [h];rfl)
   have hb2n:b2=m.next:=by
    rcases hbl b2 rfl with h | h
    ·exact h
    ·cases h
   have h20:¬ b2=0:=by omega
   have h21:¬ b2=1:=by omega
   have hbb:¬ b=b2:=by omega
   refine dE (by kernel_rfl) ?_
   rw [List.nil_append] at hb2'
   rw [Nat.zero_add]
   simp only [↓pre,za,m9,kL,simprocAttr,bne,aJ,e6,hm1']
   refine dE (by kernel_rfl) ?_
   generalize hm2:aF.put _ _ _=m2
   have q0:m2.at_ 0=some ⟨[.val (.int .u8 0),aC 0,aC 0,aC 0,aN,aN],127,.var,true⟩:=by rw [←hm2,aO,if_neg (by omega)];exact hm0'
   have q1:m2.at_ 1=some ⟨[.val (.int .u8 a2.toNat),aC a3.toNat,aC (gY bs 4),aC (gY bs 8),.sl b 0 i i false,.sl b2 0 C C false],127,.var,true⟩:=by rw [←hm2,aO,if_pos rfl];rfl
   have q2:m2.at_ b=some ⟨bK (kB bs i),3,.flat,true⟩:=by rw [←hm2,aO,if_neg hb1];exact hb'
   have q3:m2.at_ b2=some ⟨aL (bs.drop (12+4*i)),5,.flat,true⟩:=by rw [←hm2,aO,if_neg h21];exact hb2'
   simp only [↓pre,zah,m9,kL,simprocAttr,bne,e2,e6,q1]
   have hil:(kB bs i).length=i:=abt bs i
   refine xX (asW k r c w a2.toNat a3.toNat (gY bs 4) (gY bs 8) hm (.tree i i (bK (kB bs i)) false) (.tree C C (aL (bs.drop (12+4*i))) false) (kB bs i) [] C (aL (bs.drop (12+4*i))) ⟨.inr (.inr ⟨i,false,by rw [hil,List.append_nil],by rw [hil];exact ay7 _⟩)⟩ ⟨.inr (.inr ⟨C,false,rfl,ay7 _⟩)⟩ (by rw [hil];have:=hN16.out;omega)) (by simp [d9,lend,q2,q3,aA,kK,aC]) rfl rfl ?_
   rw [←hres]
   cases hms:eA k r c w a2.toNat a3.toNat (gY bs 4) (gY bs 8) (kB bs i) C
   ·simp only [↓pre,za,m9,kL,simprocAttr,bne,aJ,e4,q0,aN]
    rfl
   ·have k3:bP ayS 3 = .flat:=by kernel_rfl
    have k5:bP ayS 5 = .flat:=by kernel_rfl
    have hbn':¬ b2=b:=fun h=>hbb h.symm
    simp only [↓pre,za,m9,kL,simprocAttr,bne,aJ,e4,e6,q0,q1]
    simp only [hb0,h20,q2,q3,k3,k5,if_false,if_true,aAh,az3,List.any_nil,azx,not_true_eq_false,or_self,List.any_cons,Bool.or_false,beq_eq_false_iff_ne.2 hbb]
    rfl
theorem as7 (k r c w:Int) (v:AV) (bs:List UInt8) (x:List AV) (t:aZ v bs.length (aL bs++x)) (o:bG k r c w=true):aR ayS 288 [aA k r c w,v] ⟨z8 k r c w bs,[]⟩:=by
 have I:=gX o;by_cases hs:(bs.length:Int)=d8 k r c
 ·have H:12≤bs.length:=by unfold d8 at hs;omega
  obtain ⟨z,p⟩:∃ a,bs[0]? = some a:=⟨_,azj (by omega)⟩
  obtain ⟨q,e⟩:∃ a,bs[1]? = some a:=⟨_,azj (by omega)⟩
  obtain ⟨n,A⟩:∃ a,bs[2]? = some a:=⟨_,azj (by omega)⟩
  obtain ⟨m,l⟩:∃ a,bs[3]? = some a:=⟨_,azj (by omega)⟩
  by_cases d:z=84∧q=50
  ·obtain ⟨rfl,rfl⟩:=d;have g:=as6 k r c w v bs x t o hs p e A l;have u:(cT k r bs).vec.length=(k+r).toNat:=abt _ _;have j:(cT k r bs).data.length=c.toNat:=by simp only [cT,aA9];unfold d8 at hs;omega
   have G:(bs.getD 2 0)=n:=by rw [azp,A];rfl
   have E:(bs.getD 3 0)=m:=by rw [azp,l];rfl
   have f:uG k r c w (cT k r bs)=eA k r c w n.toNat m.toNat (gY bs 4) (gY bs 8) (kB bs (k+r).toNat) c.toNat:=by
    unfold uG;rw [j];simp only [cT,G,E]
   have b:eS k r c w bs=uG k r c w (cT k r bs):=by unfold eS;rw [decide_eq_true hs,decide_eq_true p,decide_eq_true e];rfl
   rw [←f] at g;cases i:uG k r c w (cT k r bs) with
   | false =>
    rw [i] at g;simpa [z8,b,i,aaa] using g
   | true =>
    rw [i] at g;have D:bP ayS 3 = .flat:=by kernel_rfl
    have C:bP ayS 5 = .flat:=by kernel_rfl
    have:=uB 1 g (by simp [aaa,iT,j7,kK,aC,aV,D,C]);have y:z8 k r c w bs=fE ayS (aaa n.toNat m.toNat bs (k+r).toNat c.toNat true).rows 1 (aaa n.toNat m.toNat bs (k+r).toNat c.toNat true).v:=by
     unfold z8;rw [if_pos (by rw [b,i]),b,i];simp [aaa,fE,iD,kK,aC,aV,D,C,rK.v,u,j];simp [cT,A,l]
    rw [y];exact this
  ·have s:¬ ((z.toNat:Int)=84∧(q.toNat:Int)=50):=by
    rintro ⟨l,J⟩;exact d ⟨aBc.1 (by simp;omega),aBc.1 (by simp;omega)⟩
   have b:eS k r c w bs=false:=by
    unfold eS;rw [p,e];by_cases B:z=84
    ·have F:¬ q=50:=fun h=>d ⟨B,h⟩
     simp [F]
    ·simp [B]
   have:=as5 k r c w v bs x t o hs p e s;simpa [z8,b] using this
 ·have e:eS k r c w bs=false:=by unfold eS;rw [decide_eq_false hs];rfl
  have:=as4 k r c w v bs x t o hs;simpa [z8,e] using this
theorem a8:aF.empty.next=0:=rfl
def wP:Nat→Bool:=fun d=>d != 6 && d != 8
def gZ (k r c w:Int) (bs:List UInt8) (ix:Int):Bool:=eS k r c w bs && decide ((cT k r bs).ix=ix)
theorem amP (k r c w ix:Int) (v:AV) (bs:List UInt8) (x:List AV) (e:aZ v bs.length (aL bs++x)) (f:bG k r c w=true):aR ayS 227 [aA k r c w,v,aC ix] ⟨.tup [if gZ k r c w bs ix=true then (cT k r bs).v else nC,aV (gZ k r c w bs ix)],[]⟩:=by
 have i:=e.plain;have a:=as7 k r c w v bs x e f;unfold z8 at a;cases hs:eS k r c w bs with
 | false =>
  rw [hs] at a;have d:gZ k r c w bs ix=false:=by unfold gZ;rw [hs];rfl
  rw [d];rw [if_neg (by decide)] at a;rw [if_neg (by decide)];unfold nC kK at a ⊢;refine aX Tryz.func227 wP (h:=?_);unfold Tryz.f227;simp only [↓pre,zah,abj,wP,aM,a8,simprocAttr,aA,bne]
  (first | refine aH (a) (by first | rfl | simp only [aD, *]) ?_ | refine aG (a) (by first | rfl | simp only [aA,aD, *]) (by intro k;first | rfl | simp only [ *,zaa]) ?_);simp only [↓pre,za,abj,wP,aM,a8,aBd,simprocAttr,bne,aJ,aN]
 | true =>
  rw [hs] at a;rw [if_pos rfl] at a;have d:gZ k r c w bs ix=decide ((cT k r bs).ix=ix):=by unfold gZ;rw [hs];rfl
  rw [d];generalize g:cT k r bs=s at *
  by_cases b:s.ix=ix
  ·rw [if_pos (by simpa using b),decide_eq_true b];unfold rK.v kK at a ⊢;refine aX Tryz.func227 wP (h:=?_);unfold Tryz.f227;simp only [↓pre,zah,abj,wP,aM,a8,simprocAttr,aA,bne]
   (first | refine aH (a) (by first | rfl | simp only [aD, *]) ?_ | refine aG (a) (by first | rfl | simp only [aA,aD, *]) (by intro k;first | rfl | simp only [ *,zaa]) ?_);simp only [↓pre,za,abj,wP,aM,a8,Nat.one_ne_zero,aBd,simprocAttr,bne,aJ,b]
  ·rw [if_neg (by simpa using b),decide_eq_false b];unfold rK.v kK at a;unfold nC kK;refine aX Tryz.func227 wP (h:=?_);unfold Tryz.f227;simp only [↓pre,zah,abj,wP,aM,a8,simprocAttr,aA,bne]
   (first | refine aH (a) (by first | rfl | simp only [aD, *]) ?_ | refine aG (a) (by first | rfl | simp only [aA,aD, *]) (by intro k;first | rfl | simp only [ *,zaa]) ?_);simp only [↓pre,za,abj,wP,aM,a8,Nat.one_ne_zero,aBd,simprocAttr,bne,aJ,aN,b]
def eV (k r c:Int) (n:Nat):Bool:=decide ((n:Int)=0) || decide ((n:Int)=d8 k r c)
def kC (k r c:Int) (n a:Nat):Bool:=eV k r c n && eV k r c a
theorem as8 (k r c w:Int) (v t:AV) (n p:Nat) (x J:List AV) (A:aZ v n x) (g:aZ t p J) (Q:bG k r c w=true):aR ayS 254 [aA k r c w,.agg [v,t]] ⟨aV (kC k r c n p),[]⟩:=by
 have K:=A.plain;have N:=g.plain;have P:=b6 A;have O:=b6 g;have T:=bQ A;have S:=bQ g;have l:=vE k r c w Q;refine aX Tryz.func254 aB (h:=?_);unfold Tryz.f254;simp only [↓pre,simprocAttr,aA,sx,aeG,aB,P,O];rw [bS];refine bU (fun q e m=>∃ i,q+i=2∧e 2 = .tptr 0 [aC k,aC r,aC c,aC w]∧e 3 = .tptr 0 [v,t]∧e 5=aC (i:Nat)∧(1≤i→eV k r c n=true)∧(2≤i→eV k r c p=true)) 2 ⟨0,by omega,rfl,rfl,rfl,by omega,by omega⟩ ?_;rintro q e m ⟨i,hi,B,z,s,E,M⟩;by_cases f:i < 2
 ·obtain ⟨u,o,L,D,j,a⟩:∃ u o L,[v,t][i]? = some u∧aZ u o L∧o=(if i=0 then n else p):=by
   match i,f with
   | 0,_=>exact ⟨v,n,x,rfl,A,rfl⟩
   | 1,_=>exact ⟨t,p,J,rfl,g,rfl⟩
  have R:=bQ j;have b:(i:Int) < 2:=by omega
  have w1:=bY (n:=i) (by omega);by_cases y:(o:Int)=0
  ·simp only [↓pre,simprocAttr,sx,aeG,aB,aE,bH,B,z,s,f,b,D,j.len',y,w1,azD];have d:eV k r c o=true:=by unfold eV;rw [decide_eq_true y];rfl
   refine ⟨q - 1,by omega,i+1,by omega,rfl,fun F => ?_,fun I => ?_⟩
   ·by_cases G:i=0
    ·rw [if_pos G] at a;subst a;exact d
    ·exact E (by omega)
   ·rw [if_neg (by omega)] at a;subst a;exact d
  ·by_cases C:(o:Int)=d8 k r c
   ·simp only [↓pre,simprocAttr,sx,aeG,aB,aE,bH,B,z,s,f,b,D,j.len',y,azD]
    (first | refine aH (l) (by first | rfl | simp only [aA,aD, *]) ?_ | refine aG (l) (by first | rfl | simp only [aA,aD, *]) (by intro k;first | rfl | simp only [ *,zaa]) ?_);simp only [↓pre,simprocAttr,sx,aB,B,z,s,C,w1]
    have d:eV k r c o=true:=by unfold eV;rw [decide_eq_true C,Bool.or_true]
    refine ⟨q - 1,by omega,i+1,by omega,rfl,fun F => ?_,fun I => ?_⟩
    ·by_cases G:i=0
     ·rw [if_pos G] at a;subst a;exact d
     ·exact E (by omega)
    ·rw [if_neg (by omega)] at a;subst a;exact d
   ·simp only [↓pre,simprocAttr,sx,aeG,aB,aE,bH,B,z,s,f,b,D,j.len',y,azD]
    (first | refine aH (l) (by first | rfl | simp only [aA,aD, *]) ?_ | refine aG (l) (by first | rfl | simp only [aA,aD, *]) (by intro k;first | rfl | simp only [ *,zaa]) ?_);simp only [↓pre,simprocAttr,sx,aB,C]
    have d:eV k r c o=false:=by unfold eV;rw [decide_eq_false y,decide_eq_false C];rfl
    have H:kC k r c n p=false:=by
     unfold kC;split at a
     ·subst a;rw [d];rfl
     ·subst a;rw [d,Bool.and_false]
    rw [H];rfl
 ·have b:¬ (i:Int) < 2:=by omega
  have K:kC k r c n p=true:=by
   unfold kC;rw [E (by omega),M (by omega)];rfl
  simp only [↓pre,simprocAttr,sx,aB,s,b,fO,K,aV]
end Go.Proofs.YtaekhhlgnbhnpaaGreat
namespace Go.Proofs.YtaekhhlgnbhnpaaGreat
open Go Go.Tw Go.Proofs
def zab:=(⟨@aB.eq_1,@sx⟩:_∧_)
def zac:=(⟨@aB.eq_1,@aM.eq_1,@aO,@aT,@za⟩:_∧_∧_∧_∧_)
def zad:=(⟨@sr,@zab⟩:_∧_)
def zae:=(⟨@aE,@zab⟩:_∧_)
def zaf:=(⟨@Nat.one_ne_zero,@Nat.zero_ne_one,@a8,@aM.eq_1,@aO,@aT,@bE,@bM,@bX,@jZ,@za⟩:_∧_∧_∧_∧_∧_∧_∧_∧_∧_∧_)
def zag:=(⟨@aB.eq_1,@za⟩:_∧_)
def zai:=(⟨@bE,@bH,@bM,@bX,@iW,@j9,@zac⟩:_∧_∧_∧_∧_∧_∧_)
def zaj:=(⟨@a8,@za⟩:_∧_)
def zal:=(⟨@aV.eq_1,@zae⟩:_∧_)
end Go.Proofs.YtaekhhlgnbhnpaaGreat
