import Derived.Test.YtaekhhlgnbhnpaaGreatOzcG08
import Derived.Test.YtaekhhlgnbhnpaaGreatProg
import Derived.KernelRfl
import Derived.Test.YtaekhhlgnbhnpaaGreatOzcG10
import Derived.Test.YtaekhhlgnbhnpaaGreatOzcG11
set_option maxRecDepth 4000
open Go Go.Tw
namespace Go.Proofs.YtaekhhlgnbhnpaaGreat
open Go.Proofs
theorem follows:Tryz.prog.follows .mixedOrders=true:=by kernel_rfl
abbrev TF (t:TypeId) (a b:Option Nat) (c:Option Bool) (d:Option TypeId) (e f:Option (Nat×TypeId)) (g h i j:Bool) (k:Option IntKind):Prop:=cH Tryz.prog t=a∧hY Tryz.prog t=b∧wR Tryz.prog t=c∧cD Tryz.prog t=d∧oN Tryz.prog t=e∧ac9 Tryz.prog t=f∧nO Tryz.prog t=g∧rG Tryz.prog t=h∧uA Tryz.prog t=i∧ada Tryz.prog t=j∧aaH Tryz.prog t=k
abbrev TZ (t:TypeId) (z:List Value) (k:fW):Prop:=eX Tryz.prog t=some z∧bW Tryz.prog t=k
theorem ty1:TF 1 (some 1) (some 8) (some false) none none none false false true false none∧TZ 1 [.nilFunc] .var:=by and_intros <;> kernel_rfl
theorem aN:TF 3 (some 1) (some 8) (some false) none none none false false false false (some .i64)∧TZ 3 [.int .i64 0] .flat:=by and_intros <;> kernel_rfl
theorem aP:TF 4 (some 1) (some 1) (some false) none none none false false true false none∧TZ 4 [.bool false] .flat:=by and_intros <;> kernel_rfl
theorem aS:TF 5 (some 1) (some 1) (some false) none none none false true false false (some .u8)∧TZ 5 [.int .u8 0] .flat:=by and_intros <;> kernel_rfl
theorem uH:TF 9 (some 1) (some 16) (some false) none none none true false true false none∧TZ 9 [.string .empty] .flat:=by and_intros <;> kernel_rfl
theorem adT:TF 20 (some 1) (some 16) (some false) none none none false false true false none∧TZ 20 [.nilIface] .var:=by and_intros <;> kernel_rfl
theorem a8:TF 23 (some 4) (some 32) (some true) none none none false false true true none∧fP Tryz.prog 23 0=some (0,3)∧fP Tryz.prog 23 1=some (1,3)∧fP Tryz.prog 23 2=some (2,3)∧fP Tryz.prog 23 3=some (3,3)∧TZ 23 [.int .i64 0,.int .i64 0,.int .i64 0,.int .i64 0] .flat:=by and_intros <;> kernel_rfl
theorem dM:TF 24 (some 1) (some 24) (some false) (some 131) none none false false true false none∧TZ 24 [.slice none 0 0] .var:=by and_intros <;> kernel_rfl
theorem akW:TF 25 (some 1) (some 24) (some false) (some 4) none none false false true false none∧TZ 25 [.slice none 0 0] .var:=by and_intros <;> kernel_rfl
theorem bG:TF 28 (some 1) (some 8) (some false) none none none false false false false (some .i64)∧TZ 28 [.int .i64 0] .flat:=by and_intros <;> kernel_rfl
theorem dE:TF 31 (some 1) (some 24) (some false) (some 67) none none false false true false none∧TZ 31 [.slice none 0 0] .var:=by and_intros <;> kernel_rfl
theorem gA:TF 33 (some 3) (some 40) (some true) none none none false false true true none∧fP Tryz.prog 33 0=some (0,3)∧fP Tryz.prog 33 1=some (1,3)∧fP Tryz.prog 33 2=some (2,31)∧TZ 33 [.int .i64 0,.int .i64 0,.slice none 0 0] .var:=by and_intros <;> kernel_rfl
theorem adU:TF 34 (some 1) (some 0) (some false) none none none false false true false none:=by and_intros <;> kernel_rfl
theorem cZ:TF 41 (some 1) (some 24) (some false) (some 3) none none false false true false none∧TZ 41 [.slice none 0 0] .var:=by and_intros <;> kernel_rfl
theorem aaP:TF 42 (some 1) (some 0) (some false) none none none false false true false none:=by and_intros <;> kernel_rfl
theorem cJ:TF 45 (some 1) (some 24) (some false) (some 52) none none false false true false none∧TZ 45 [.slice none 0 0] .var:=by and_intros <;> kernel_rfl
theorem gB:TF 47 (some 5) (some 56) (some true) none none none false false true true none∧fP Tryz.prog 47 0=some (0,23)∧fP Tryz.prog 47 1=some (4,45)∧TZ 47 [.int .i64 0,.int .i64 0,.int .i64 0,.int .i64 0,.slice none 0 0] .var:=by and_intros <;> kernel_rfl
theorem fG:TF 50 (some 1) (some 0) (some false) none none none false false true false none:=by and_intros <;> kernel_rfl
theorem aY:TF 52 (some 1) (some 24) (some false) (some 5) none none false false true false none∧TZ 52 [.slice none 0 0] .var:=by and_intros <;> kernel_rfl
theorem jL:TF 53 (some 1) (some 0) (some false) none none none false false true false none:=by and_intros <;> kernel_rfl
theorem dA:TF 67 (some 2) (some 16) (some true) none none none false false true true none∧fP Tryz.prog 67 0=some (0,3)∧fP Tryz.prog 67 1=some (1,3)∧TZ 67 [.int .i64 0,.int .i64 0] .flat:=by and_intros <;> kernel_rfl
theorem adV:TF 89 (some 1) (some 0) (some false) none none none false false true false none:=by and_intros <;> kernel_rfl
theorem rV:TF 92 (some 6) (some 96) (some true) none none none false false true true none∧fP Tryz.prog 92 0=some (0,33)∧fP Tryz.prog 92 1=some (3,3)∧fP Tryz.prog 92 2=some (4,31)∧fP Tryz.prog 92 3=some (5,31)∧TZ 92 [.int .i64 0,.int .i64 0,.slice none 0 0,.int .i64 0,.slice none 0 0,.slice none 0 0] .var:=by and_intros <;> kernel_rfl
theorem xG:TF 93 (some 1) (some 0) (some false) none none none false false true false none:=by and_intros <;> kernel_rfl
theorem nV:TF 96 (some 1) (some 24) (some false) (some 104) none none false false true false none∧TZ 96 [.slice none 0 0] .var:=by and_intros <;> kernel_rfl
theorem adW:TF 97 (some 1) (some 0) (some false) none none none false false true false none:=by and_intros <;> kernel_rfl
theorem nW:TF 104 (some 3) (some 24) (some true) none none none false false true true none∧fP Tryz.prog 104 0=some (0,3)∧fP Tryz.prog 104 1=some (1,5)∧fP Tryz.prog 104 2=some (2,3)∧TZ 104 [.int .i64 0,.int .u8 0,.int .i64 0] .flat:=by and_intros <;> kernel_rfl
theorem adX:TF 110 (some 1) (some 0) (some false) none none none false false true false none:=by and_intros <;> kernel_rfl
theorem aaQ:TF 118 (some 5) (some 56) (some true) none none none false false true true none∧fP Tryz.prog 118 0=some (0,23)∧fP Tryz.prog 118 1=some (4,24)∧TZ 118 [.int .i64 0,.int .i64 0,.int .i64 0,.int .i64 0,.slice none 0 0] .var:=by and_intros <;> kernel_rfl
theorem akX:TF 120 (some 1) (some 8) (some false) none none none false false true false none∧TZ 120 [.nilFunc] .var:=by and_intros <;> kernel_rfl
theorem adY:TF 124 (some 1) (some 0) (some false) none none none false false true false none:=by and_intros <;> kernel_rfl
theorem gK:TF 127 (some 6) (some 80) (some true) none none none false false true true none∧fP Tryz.prog 127 0=some (0,5)∧fP Tryz.prog 127 1=some (1,3)∧fP Tryz.prog 127 2=some (2,3)∧fP Tryz.prog 127 3=some (3,3)∧fP Tryz.prog 127 4=some (4,41)∧fP Tryz.prog 127 5=some (5,52)∧TZ 127 [.int .u8 0,.int .i64 0,.int .i64 0,.int .i64 0,.slice none 0 0,.slice none 0 0] .var:=by and_intros <;> kernel_rfl
theorem aaR:TF 128 (some 1) (some 0) (some false) none none none false false true false none:=by and_intros <;> kernel_rfl
theorem dB:TF 131 (some 2) (some 48) (some true) none (some (2,52)) none false false true false none∧TZ 131 [.slice none 0 0,.slice none 0 0] .var:=by and_intros <;> kernel_rfl
theorem adZ:TF 132 (some 1) (some 24) (some false) (some 136) none none false false true false none∧TZ 132 [.slice none 0 0] .var:=by and_intros <;> kernel_rfl
theorem akY:TF 133 (some 1) (some 0) (some false) none none none false false true false none:=by and_intros <;> kernel_rfl
theorem ad0:TF 136 (some 2) (some 16) (some true) none (some (2,3)) none false false true false none∧TZ 136 [.int .i64 0,.int .i64 0] .flat:=by and_intros <;> kernel_rfl
theorem akZ:TF 140 (some 1) (some 8) (some false) none none none false false true false none∧TZ 140 [.nilFunc] .var:=by and_intros <;> kernel_rfl
theorem uI:TF 149 (some 1) (some 0) (some false) none none none false false true false none:=by and_intros <;> kernel_rfl
theorem aaS:TF 151 (some 1) (some 8) (some false) none none none false false true false none∧TZ 151 [.nilFunc] .var:=by and_intros <;> kernel_rfl
theorem ad1:TF 157 (some 1) (some 0) (some false) none none none false false true false none:=by and_intros <;> kernel_rfl
theorem aaT:TF 161 (some 1) (some 0) (some false) none none none false false true false none:=by and_intros <;> kernel_rfl
theorem aaU:TF 168 (some 1) (some 0) (some false) none none none false false true false none:=by and_intros <;> kernel_rfl
theorem ak0:TF 176 (some 1) (some 0) (some false) none none none false false true false none:=by and_intros <;> kernel_rfl
theorem lQ:TF 188 (some 1) (some 0) (some false) none none none false false true false none:=by and_intros <;> kernel_rfl
theorem ad2:TF 191 (some 1) (some 8) (some false) none none none false false true false none∧TZ 191 [.nilFunc] .var:=by and_intros <;> kernel_rfl
theorem ak1:TF 200 (some 1) (some 0) (some false) none none none false false true false none:=by and_intros <;> kernel_rfl
theorem aaV:TF 206 (some 1) (some 8) (some false) none none none false false true false none∧TZ 206 [.map none] .var:=by and_intros <;> kernel_rfl
theorem ak2:TF 208 (some 1) (some 0) (some false) none none none false false true false none:=by and_intros <;> kernel_rfl
theorem xH:TF 223 (some 1) (some 24) (some false) (some 226) none none false false true false none∧TZ 223 [.slice none 0 0] .var:=by and_intros <;> kernel_rfl
theorem xI:TF 226 (some 2) (some 32) (some true) none none none false false true true none∧fP Tryz.prog 226 0=some (0,3)∧fP Tryz.prog 226 1=some (1,41)∧TZ 226 [.int .i64 0,.slice none 0 0] .var:=by and_intros <;> kernel_rfl
theorem uJ:TF 235 (some 1) (some 8) (some false) none none none false false false false (some .u64)∧TZ 235 [.int .u64 0] .flat:=by and_intros <;> kernel_rfl
theorem ak3:TF 238 (some 1) (some 0) (some false) none none none false false true false none:=by and_intros <;> kernel_rfl
theorem ad3:TF 243 (some 1) (some 24) (some false) (some 31) none none false false true false none∧TZ 243 [.slice none 0 0] .var:=by and_intros <;> kernel_rfl
theorem uK:TF 249 (some 1) (some 0) (some false) none none none false false true false none:=by and_intros <;> kernel_rfl
theorem ak4:TF 257 (some 1) (some 0) (some false) none none none false false true false none:=by and_intros <;> kernel_rfl
theorem aaW:TF 265 (some 3) (some 24) (some true) none none none false false true true none∧fP Tryz.prog 265 0=some (0,3)∧fP Tryz.prog 265 1=some (1,3)∧fP Tryz.prog 265 2=some (2,3)∧TZ 265 [.int .i64 0,.int .i64 0,.int .i64 0] .flat:=by and_intros <;> kernel_rfl
theorem ak5:TF 294 (some 1) (some 4) (some false) none none none false false false false (some .u32)∧TZ 294 [.int .u32 0] .flat:=by and_intros <;> kernel_rfl
theorem ak6:TF 299 (some 1) (some 0) (some false) none none none false false true false none:=by and_intros <;> kernel_rfl
theorem aaX:TF 302 (some 7) (some 88) (some true) none none none false false true true none∧fP Tryz.prog 302 0=some (0,127)∧fP Tryz.prog 302 1=some (6,4)∧TZ 302 [.int .u8 0,.int .i64 0,.int .i64 0,.int .i64 0,.slice none 0 0,.slice none 0 0,.bool false] .var:=by and_intros <;> kernel_rfl
theorem aaY:TF 304 (some 14) (some 176) (some true) none (some (2,302)) none false false true false none∧TZ 304 [.int .u8 0,.int .i64 0,.int .i64 0,.int .i64 0,.slice none 0 0,.slice none 0 0,.bool false,.int .u8 0,.int .i64 0,.int .i64 0,.int .i64 0,.slice none 0 0,.slice none 0 0,.bool false] .var:=by and_intros <;> kernel_rfl
theorem ak7:TF 305 (some 1) (some 0) (some false) none none none false false true false none:=by and_intros <;> kernel_rfl
theorem ad4:TF 311 (some 1) (some 8) (some false) none none none false false true false none∧TZ 311 [.nilFunc] .var:=by and_intros <;> kernel_rfl
theorem p6:TF 312 (some 1) (some 0) (some false) none none none false false true false none:=by and_intros <;> kernel_rfl
theorem ak8:TF 331 (some 1) (some 8) (some false) none none none false false true false none∧TZ 331 [.map none] .var:=by and_intros <;> kernel_rfl
theorem aaZ:TF 338 (some 256) (some 256) (some true) none (some (256,5)) none false false true false none:=by and_intros <;> kernel_rfl
theorem ak9:TF 352 (some 1) (some 0) (some false) none none none false false true false none:=by and_intros <;> kernel_rfl
theorem iG:(type_of% aN)∧(type_of% aP)∧(type_of% aS)∧(type_of% a8)∧(type_of% bG)∧(type_of% dE)∧(type_of% gA)∧(type_of% cZ)∧(type_of% aaP)∧(type_of% cJ)∧(type_of% gB)∧(type_of% aY)∧(type_of% dA)∧(type_of% adV)∧(type_of% rV)∧(type_of% xG)∧(type_of% nV)∧(type_of% adW)∧(type_of% nW):=⟨aN,aP,aS,a8,bG,dE,gA,cZ,aaP,cJ,gB,aY,dA,adV,rV,xG,nV,adW,nW⟩
theorem tK:(type_of% aN)∧(type_of% aP)∧(type_of% aS)∧(type_of% a8)∧(type_of% dM)∧(type_of% bG)∧(type_of% dE)∧(type_of% gA)∧(type_of% fG)∧(type_of% aY)∧(type_of% jL)∧(type_of% dA)∧(type_of% aaQ)∧(type_of% adY)∧(type_of% dB):=⟨aN,aP,aS,a8,dM,bG,dE,gA,fG,aY,jL,dA,aaQ,adY,dB⟩
theorem aa0:(type_of% aN)∧(type_of% aP)∧(type_of% aS)∧(type_of% a8)∧(type_of% cJ)∧(type_of% gB)∧(type_of% aY):=⟨aN,aP,aS,a8,cJ,gB,aY⟩
theorem agf:(type_of% aN)∧(type_of% aP)∧(type_of% aS)∧(type_of% uH)∧(type_of% a8)∧(type_of% cJ)∧(type_of% gB)∧(type_of% aY):=⟨aN,aP,aS,uH,a8,cJ,gB,aY⟩
theorem mA:(type_of% aN)∧(type_of% aP)∧(type_of% aS)∧(type_of% a8)∧(type_of% dM)∧(type_of% bG)∧(type_of% dE)∧(type_of% gA)∧(type_of% aY)∧(type_of% jL)∧(type_of% dA)∧(type_of% adY)∧(type_of% dB)∧(type_of% uI):=⟨aN,aP,aS,a8,dM,bG,dE,gA,aY,jL,dA,adY,dB,uI⟩
theorem ala:(type_of% aN)∧(type_of% aP)∧(type_of% dE)∧(type_of% gA)∧(type_of% dA):=⟨aN,aP,dE,gA,dA⟩
theorem xJ:(type_of% aN)∧(type_of% aP)∧(type_of% cZ):=⟨aN,aP,cZ⟩
theorem alb:(type_of% aN)∧(type_of% aP)∧(type_of% aS)∧(type_of% a8)∧(type_of% bG)∧(type_of% cZ)∧(type_of% aaP)∧(type_of% cJ)∧(type_of% gB)∧(type_of% aY):=⟨aN,aP,aS,a8,bG,cZ,aaP,cJ,gB,aY⟩
theorem aci:(type_of% aN)∧(type_of% aP)∧(type_of% aS)∧(type_of% a8)∧(type_of% cJ)∧(type_of% gB)∧(type_of% aY):=⟨aN,aP,aS,a8,cJ,gB,aY⟩
theorem i9:(type_of% ty1)∧(type_of% aN)∧(type_of% aP)∧(type_of% aS)∧(type_of% a8)∧(type_of% dM)∧(type_of% bG)∧(type_of% dE)∧(type_of% gA)∧(type_of% adU)∧(type_of% cJ)∧(type_of% gB)∧(type_of% fG)∧(type_of% aY)∧(type_of% dA)∧(type_of% adX)∧(type_of% dB)∧(type_of% aaT):=⟨ty1,aN,aP,aS,a8,dM,bG,dE,gA,adU,cJ,gB,fG,aY,dA,adX,dB,aaT⟩
theorem xK:(type_of% aN)∧(type_of% aP)∧(type_of% aS)∧(type_of% a8)∧(type_of% bG)∧(type_of% dE)∧(type_of% gA)∧(type_of% cJ)∧(type_of% gB)∧(type_of% aY)∧(type_of% dA)∧(type_of% rV)∧(type_of% xG):=⟨aN,aP,aS,a8,bG,dE,gA,cJ,gB,aY,dA,rV,xG⟩
theorem vS:(type_of% aN)∧(type_of% aP)∧(type_of% aS)∧(type_of% a8)∧(type_of% bG)∧(type_of% cZ)∧(type_of% cJ)∧(type_of% gB)∧(type_of% aY)∧(type_of% nV)∧(type_of% adW)∧(type_of% nW):=⟨aN,aP,aS,a8,bG,cZ,cJ,gB,aY,nV,adW,nW⟩
theorem aa1:(type_of% aN)∧(type_of% aP)∧(type_of% aS)∧(type_of% a8)∧(type_of% bG)∧(type_of% dE)∧(type_of% gA)∧(type_of% cZ)∧(type_of% cJ)∧(type_of% gB)∧(type_of% aY)∧(type_of% dA)∧(type_of% rV)∧(type_of% xG)∧(type_of% nV)∧(type_of% nW):=⟨aN,aP,aS,a8,bG,dE,gA,cZ,cJ,gB,aY,dA,rV,xG,nV,nW⟩
theorem xL:(type_of% aN)∧(type_of% aP)∧(type_of% aS)∧(type_of% a8)∧(type_of% bG)∧(type_of% dE)∧(type_of% gA)∧(type_of% cJ)∧(type_of% gB)∧(type_of% aY)∧(type_of% dA)∧(type_of% adV)∧(type_of% nV)∧(type_of% nW)∧(type_of% ad3):=⟨aN,aP,aS,a8,bG,dE,gA,cJ,gB,aY,dA,adV,nV,nW,ad3⟩
theorem acj:(type_of% aN)∧(type_of% aP)∧(type_of% aS)∧(type_of% a8)∧(type_of% bG)∧(type_of% dE)∧(type_of% gA)∧(type_of% cJ)∧(type_of% gB)∧(type_of% aY)∧(type_of% dA)∧(type_of% rV)∧(type_of% xG)∧(type_of% nV)∧(type_of% nW):=⟨aN,aP,aS,a8,bG,dE,gA,cJ,gB,aY,dA,rV,xG,nV,nW⟩
theorem agh:(type_of% aN)∧(type_of% aP)∧(type_of% dE)∧(type_of% dA):=⟨aN,aP,dE,dA⟩
theorem agi:(type_of% aN)∧(type_of% aP)∧(type_of% aS)∧(type_of% nV)∧(type_of% nW):=⟨aN,aP,aS,nV,nW⟩
theorem alc:(type_of% aN)∧(type_of% a8)∧(type_of% bG)∧(type_of% aaU):=⟨aN,a8,bG,aaU⟩
theorem ald:(type_of% aN)∧(type_of% a8)∧(type_of% bG)∧(type_of% aaU):=⟨aN,a8,bG,aaU⟩
theorem qR:(type_of% aN)∧(type_of% aP)∧(type_of% aS)∧(type_of% a8)∧(type_of% dM)∧(type_of% bG)∧(type_of% cJ)∧(type_of% gB)∧(type_of% aY)∧(type_of% dB):=⟨aN,aP,aS,a8,dM,bG,cJ,gB,aY,dB⟩
theorem aa2:(type_of% aN)∧(type_of% aP)∧(type_of% aS)∧(type_of% a8)∧(type_of% dM)∧(type_of% bG)∧(type_of% aY)∧(type_of% aaQ)∧(type_of% akX)∧(type_of% dB)∧(type_of% ad1):=⟨aN,aP,aS,a8,dM,bG,aY,aaQ,akX,dB,ad1⟩
theorem ale:(type_of% aN)∧(type_of% aP)∧(type_of% aS)∧(type_of% a8)∧(type_of% dM)∧(type_of% bG)∧(type_of% aY)∧(type_of% aaQ)∧(type_of% dB)∧(type_of% ad1):=⟨aN,aP,aS,a8,dM,bG,aY,aaQ,dB,ad1⟩
theorem y7:(type_of% aN)∧(type_of% aP)∧(type_of% aS)∧(type_of% a8)∧(type_of% dM)∧(type_of% bG)∧(type_of% cJ)∧(type_of% aY)∧(type_of% dB)∧(type_of% lQ):=⟨aN,aP,aS,a8,dM,bG,cJ,aY,dB,lQ⟩
theorem nX:(type_of% aN)∧(type_of% aP)∧(type_of% aS)∧(type_of% a8)∧(type_of% bG)∧(type_of% dE)∧(type_of% gA)∧(type_of% aY)∧(type_of% jL)∧(type_of% dA):=⟨aN,aP,aS,a8,bG,dE,gA,aY,jL,dA⟩
theorem kL:(type_of% aN)∧(type_of% aP)∧(type_of% aS)∧(type_of% a8)∧(type_of% bG)∧(type_of% cZ)∧(type_of% fG)∧(type_of% aY)∧(type_of% gK)∧(type_of% ak1):=⟨aN,aP,aS,a8,bG,cZ,fG,aY,gK,ak1⟩
theorem jI:(type_of% aN)∧(type_of% aP)∧(type_of% aS)∧(type_of% a8)∧(type_of% dM)∧(type_of% bG)∧(type_of% cZ)∧(type_of% fG)∧(type_of% aY)∧(type_of% gK)∧(type_of% aaR)∧(type_of% dB)∧(type_of% adZ)∧(type_of% ad0)∧(type_of% aaS):=⟨aN,aP,aS,a8,dM,bG,cZ,fG,aY,gK,aaR,dB,adZ,ad0,aaS⟩
theorem ad5:(type_of% aN)∧(type_of% aP)∧(type_of% a8):=⟨aN,aP,a8⟩
theorem aq0:(type_of% aN)∧(type_of% a8):=⟨aN,a8⟩
theorem alf:(type_of% aN)∧(type_of% aP)∧(type_of% aS)∧(type_of% uH)∧(type_of% aY):=⟨aN,aP,aS,uH,aY⟩
theorem xM:(type_of% aN)∧(type_of% aP)∧(type_of% aS)∧(type_of% a8)∧(type_of% bG)∧(type_of% cJ)∧(type_of% gB)∧(type_of% aY):=⟨aN,aP,aS,a8,bG,cJ,gB,aY⟩
theorem y8:(type_of% aN)∧(type_of% aP)∧(type_of% aS)∧(type_of% a8)∧(type_of% dM)∧(type_of% cJ)∧(type_of% gB)∧(type_of% aY)∧(type_of% dB):=⟨aN,aP,aS,a8,dM,cJ,gB,aY,dB⟩
theorem ad6:(type_of% aN)∧(type_of% a8):=⟨aN,a8⟩
theorem gY:(type_of% aN)∧(type_of% aP)∧(type_of% aS)∧(type_of% a8)∧(type_of% dM)∧(type_of% bG)∧(type_of% dE)∧(type_of% gA)∧(type_of% adU)∧(type_of% cJ)∧(type_of% gB)∧(type_of% aY)∧(type_of% jL)∧(type_of% dA)∧(type_of% rV)∧(type_of% dB)∧(type_of% uI)∧(type_of% aaT):=⟨aN,aP,aS,a8,dM,bG,dE,gA,adU,cJ,gB,aY,jL,dA,rV,dB,uI,aaT⟩
theorem vT:(type_of% aN)∧(type_of% aP)∧(type_of% aS)∧(type_of% a8)∧(type_of% bG)∧(type_of% dE)∧(type_of% gA)∧(type_of% aY)∧(type_of% jL)∧(type_of% dA):=⟨aN,aP,aS,a8,bG,dE,gA,aY,jL,dA⟩
theorem xN:(type_of% aN)∧(type_of% aP)∧(type_of% aS)∧(type_of% a8)∧(type_of% dM)∧(type_of% bG)∧(type_of% aY)∧(type_of% dB):=⟨aN,aP,aS,a8,dM,bG,aY,dB⟩
theorem aa3:(type_of% aN)∧(type_of% aP)∧(type_of% aS)∧(type_of% a8)∧(type_of% dM)∧(type_of% cZ)∧(type_of% aY)∧(type_of% dB)∧(type_of% xH)∧(type_of% xI):=⟨aN,aP,aS,a8,dM,cZ,aY,dB,xH,xI⟩
theorem alg:(type_of% aN)∧(type_of% aP):=⟨aN,aP⟩
theorem y9:(type_of% aN)∧(type_of% aP)∧(type_of% aS)∧(type_of% a8)∧(type_of% dM)∧(type_of% bG)∧(type_of% cJ)∧(type_of% aY)∧(type_of% dB)∧(type_of% lQ):=⟨aN,aP,aS,a8,dM,bG,cJ,aY,dB,lQ⟩
theorem fH:(type_of% aN)∧(type_of% aP)∧(type_of% aS)∧(type_of% uH)∧(type_of% a8)∧(type_of% bG)∧(type_of% dE)∧(type_of% gA)∧(type_of% aY)∧(type_of% dA):=⟨aN,aP,aS,uH,a8,bG,dE,gA,aY,dA⟩
theorem ad7:(type_of% aN)∧(type_of% aP)∧(type_of% a8)∧(type_of% bG):=⟨aN,aP,a8,bG⟩
theorem p7:(type_of% aN)∧(type_of% aP)∧(type_of% aS)∧(type_of% a8)∧(type_of% bG)∧(type_of% cJ)∧(type_of% gB)∧(type_of% aY):=⟨aN,aP,aS,a8,bG,cJ,gB,aY⟩
theorem rW:(type_of% aN)∧(type_of% aP)∧(type_of% aS)∧(type_of% a8)∧(type_of% bG)∧(type_of% cJ)∧(type_of% gB)∧(type_of% fG)∧(type_of% aY):=⟨aN,aP,aS,a8,bG,cJ,gB,fG,aY⟩
theorem alh:(type_of% aN)∧(type_of% aP)∧(type_of% bG)∧(type_of% dE)∧(type_of% gA)∧(type_of% dA):=⟨aN,aP,bG,dE,gA,dA⟩
theorem ali:(type_of% aN)∧(type_of% aP)∧(type_of% dE)∧(type_of% dA):=⟨aN,aP,dE,dA⟩
theorem alj:(type_of% aN)∧(type_of% a8)∧(type_of% bG)∧(type_of% fG):=⟨aN,a8,bG,fG⟩
theorem tL:(type_of% aN)∧(type_of% aP)∧(type_of% aS)∧(type_of% a8)∧(type_of% dM)∧(type_of% bG)∧(type_of% dE)∧(type_of% cJ)∧(type_of% gB)∧(type_of% aY)∧(type_of% jL)∧(type_of% dA)∧(type_of% adX)∧(type_of% dB)∧(type_of% aaT):=⟨aN,aP,aS,a8,dM,bG,dE,cJ,gB,aY,jL,dA,adX,dB,aaT⟩
theorem zA:(type_of% aN)∧(type_of% aP)∧(type_of% aS)∧(type_of% a8)∧(type_of% akW)∧(type_of% cZ)∧(type_of% nV)∧(type_of% nW):=⟨aN,aP,aS,a8,akW,cZ,nV,nW⟩
theorem zB:(type_of% aN)∧(type_of% aP)∧(type_of% aS)∧(type_of% dE)∧(type_of% gA)∧(type_of% dA)∧(type_of% rV)∧(type_of% nV)∧(type_of% nW):=⟨aN,aP,aS,dE,gA,dA,rV,nV,nW⟩
theorem qS:(type_of% aN)∧(type_of% aP)∧(type_of% adT)∧(type_of% dE)∧(type_of% dA)∧(type_of% ad3):=⟨aN,aP,adT,dE,dA,ad3⟩
theorem oU:(type_of% aN)∧(type_of% aP)∧(type_of% a8)∧(type_of% bG):=⟨aN,aP,a8,bG⟩
theorem uL:(type_of% aN)∧(type_of% aP)∧(type_of% aS)∧(type_of% a8)∧(type_of% dM)∧(type_of% cZ)∧(type_of% cJ)∧(type_of% aY)∧(type_of% gK)∧(type_of% dB)∧(type_of% uK):=⟨aN,aP,aS,a8,dM,cZ,cJ,aY,gK,dB,uK⟩
theorem alk:(type_of% aN)∧(type_of% aP)∧(type_of% aS)∧(type_of% aY):=⟨aN,aP,aS,aY⟩
theorem aa4:(type_of% aN)∧(type_of% aP)∧(type_of% aS)∧(type_of% a8)∧(type_of% dM)∧(type_of% bG)∧(type_of% cZ)∧(type_of% aaP)∧(type_of% aY)∧(type_of% dB):=⟨aN,aP,aS,a8,dM,bG,cZ,aaP,aY,dB⟩
theorem ack:(type_of% aN)∧(type_of% aP)∧(type_of% aS)∧(type_of% a8)∧(type_of% dM)∧(type_of% bG)∧(type_of% cJ)∧(type_of% aY)∧(type_of% dB)∧(type_of% lQ)∧(type_of% ad2):=⟨aN,aP,aS,a8,dM,bG,cJ,aY,dB,lQ,ad2⟩
theorem oV:(type_of% aN)∧(type_of% aP)∧(type_of% aS)∧(type_of% a8)∧(type_of% dM)∧(type_of% bG)∧(type_of% cZ)∧(type_of% aY)∧(type_of% gK)∧(type_of% dB)∧(type_of% ad2)∧(type_of% ak4):=⟨aN,aP,aS,a8,dM,bG,cZ,aY,gK,dB,ad2,ak4⟩
theorem jM:(type_of% aN)∧(type_of% aP)∧(type_of% aS)∧(type_of% a8)∧(type_of% dM)∧(type_of% bG)∧(type_of% cZ)∧(type_of% aY)∧(type_of% gK)∧(type_of% aaR)∧(type_of% dB):=⟨aN,aP,aS,a8,dM,bG,cZ,aY,gK,aaR,dB⟩
theorem agj:(type_of% aN)∧(type_of% aP)∧(type_of% aS)∧(type_of% a8)∧(type_of% dM)∧(type_of% bG)∧(type_of% cJ)∧(type_of% aY)∧(type_of% dB)∧(type_of% lQ):=⟨aN,aP,aS,a8,dM,bG,cJ,aY,dB,lQ⟩
theorem aa5:(type_of% aN)∧(type_of% aP)∧(type_of% aS)∧(type_of% a8)∧(type_of% bG)∧(type_of% fG)∧(type_of% aY):=⟨aN,aP,aS,a8,bG,fG,aY⟩
theorem agk:(type_of% aN)∧(type_of% aS)∧(type_of% aY)∧(type_of% uJ):=⟨aN,aS,aY,uJ⟩
theorem aa6:(type_of% aN)∧(type_of% aP)∧(type_of% aS)∧(type_of% dE)∧(type_of% aY)∧(type_of% dA):=⟨aN,aP,aS,dE,aY,dA⟩
theorem aq1:(type_of% aP)∧(type_of% aS)∧(type_of% uH)∧(type_of% aY):=⟨aP,aS,uH,aY⟩
theorem ad8:(type_of% aN)∧(type_of% aP)∧(type_of% a8)∧(type_of% bG)∧(type_of% fG):=⟨aN,aP,a8,bG,fG⟩
theorem agl:(type_of% aN)∧(type_of% aS)∧(type_of% aY)∧(type_of% uJ):=⟨aN,aS,aY,uJ⟩
theorem zC:(type_of% aN)∧(type_of% aP)∧(type_of% aS)∧(type_of% a8)∧(type_of% bG)∧(type_of% cZ)∧(type_of% fG)∧(type_of% aY)∧(type_of% gK):=⟨aN,aP,aS,a8,bG,cZ,fG,aY,gK⟩
theorem alm:(type_of% aN)∧(type_of% a8)∧(type_of% bG)∧(type_of% fG):=⟨aN,a8,bG,fG⟩
theorem aln:(type_of% aN)∧(type_of% aP)∧(type_of% cZ)∧(type_of% aaS):=⟨aN,aP,cZ,aaS⟩
theorem aq2:(type_of% aN)∧(type_of% aP)∧(type_of% aS)∧(type_of% cZ)∧(type_of% aY)∧(type_of% gK):=⟨aN,aP,aS,cZ,aY,gK⟩
theorem vU:(type_of% aN)∧(type_of% aP)∧(type_of% aS)∧(type_of% bG)∧(type_of% cJ)∧(type_of% aY)∧(type_of% lQ)∧(type_of% aaV)∧(type_of% aaW):=⟨aN,aP,aS,bG,cJ,aY,lQ,aaV,aaW⟩
theorem acl:(type_of% aN)∧(type_of% aP)∧(type_of% aS)∧(type_of% cZ)∧(type_of% cJ)∧(type_of% aY):=⟨aN,aP,aS,cZ,cJ,aY⟩
theorem acm:(type_of% aN)∧(type_of% aP)∧(type_of% aS)∧(type_of% bG)∧(type_of% cJ)∧(type_of% aY)∧(type_of% jL)∧(type_of% aaV)∧(type_of% aaW):=⟨aN,aP,aS,bG,cJ,aY,jL,aaV,aaW⟩
theorem alo:(type_of% aN)∧(type_of% aP)∧(type_of% a8):=⟨aN,aP,a8⟩
theorem alp:(type_of% aN)∧(type_of% a8)∧(type_of% bG)∧(type_of% fG):=⟨aN,a8,bG,fG⟩
theorem ad9:(type_of% aN)∧(type_of% aP)∧(type_of% a8)∧(type_of% bG)∧(type_of% akZ):=⟨aN,aP,a8,bG,akZ⟩
theorem aea:(type_of% aN)∧(type_of% a8):=⟨aN,a8⟩
theorem alq:(type_of% aN)∧(type_of% a8):=⟨aN,a8⟩
theorem alr:(type_of% aN)∧(type_of% a8):=⟨aN,a8⟩
theorem aq3:(type_of% aN)∧(type_of% a8):=⟨aN,a8⟩
theorem xO:(type_of% aN)∧(type_of% aP)∧(type_of% a8):=⟨aN,aP,a8⟩
theorem iK:(type_of% aN)∧(type_of% aP)∧(type_of% aS)∧(type_of% uH)∧(type_of% a8)∧(type_of% bG)∧(type_of% dE)∧(type_of% aY)∧(type_of% dA):=⟨aN,aP,aS,uH,a8,bG,dE,aY,dA⟩
theorem gC:(type_of% aN)∧(type_of% aP)∧(type_of% a8)∧(type_of% bG)∧(type_of% dE)∧(type_of% gA)∧(type_of% fG)∧(type_of% dA):=⟨aN,aP,a8,bG,dE,gA,fG,dA⟩
theorem agm:(type_of% aN)∧(type_of% aP)∧(type_of% aS)∧(type_of% aY):=⟨aN,aP,aS,aY⟩
theorem als:(type_of% aN)∧(type_of% aP)∧(type_of% aS)∧(type_of% a8)∧(type_of% bG)∧(type_of% fG)∧(type_of% aY):=⟨aN,aP,aS,a8,bG,fG,aY⟩
theorem acn:(type_of% aN)∧(type_of% aS)∧(type_of% dE)∧(type_of% aY)∧(type_of% dA):=⟨aN,aS,dE,aY,dA⟩
theorem xP:(type_of% aN)∧(type_of% aP)∧(type_of% aS)∧(type_of% a8)∧(type_of% dM)∧(type_of% aY)∧(type_of% dB):=⟨aN,aP,aS,a8,dM,aY,dB⟩
theorem mP:(type_of% aN)∧(type_of% aP)∧(type_of% aS)∧(type_of% a8)∧(type_of% dM)∧(type_of% cZ)∧(type_of% aY)∧(type_of% dB)∧(type_of% xH)∧(type_of% xI):=⟨aN,aP,aS,a8,dM,cZ,aY,dB,xH,xI⟩
theorem zD:(type_of% aN)∧(type_of% aS)∧(type_of% a8)∧(type_of% dE)∧(type_of% gA)∧(type_of% aY)∧(type_of% dA):=⟨aN,aS,a8,dE,gA,aY,dA⟩
theorem aco:(type_of% aN)∧(type_of% aP)∧(type_of% aS)∧(type_of% a8)∧(type_of% dM)∧(type_of% bG)∧(type_of% cJ)∧(type_of% aY)∧(type_of% dB)∧(type_of% ak0)∧(type_of% lQ):=⟨aN,aP,aS,a8,dM,bG,cJ,aY,dB,ak0,lQ⟩
theorem agn:(type_of% aN)∧(type_of% aP)∧(type_of% aS)∧(type_of% aY):=⟨aN,aP,aS,aY⟩
theorem aa7:(type_of% aN)∧(type_of% aP)∧(type_of% aS)∧(type_of% dE)∧(type_of% aY)∧(type_of% dA):=⟨aN,aP,aS,dE,aY,dA⟩
theorem eH:(type_of% aN)∧(type_of% aP)∧(type_of% a8)∧(type_of% bG)∧(type_of% dE)∧(type_of% gA)∧(type_of% fG)∧(type_of% dA):=⟨aN,aP,a8,bG,dE,gA,fG,dA⟩
theorem nA:(type_of% aN)∧(type_of% aP)∧(type_of% aS)∧(type_of% a8)∧(type_of% dM)∧(type_of% cZ)∧(type_of% aY)∧(type_of% gK)∧(type_of% dB)∧(type_of% uK):=⟨aN,aP,aS,a8,dM,cZ,aY,gK,dB,uK⟩
theorem alt:(type_of% aN)∧(type_of% a8):=⟨aN,a8⟩
theorem aq4:(type_of% aN)∧(type_of% a8):=⟨aN,a8⟩
theorem alu:(type_of% aN)∧(type_of% a8):=⟨aN,a8⟩
theorem j7:(type_of% aN)∧(type_of% aP)∧(type_of% aS)∧(type_of% a8)∧(type_of% bG)∧(type_of% dE)∧(type_of% fG)∧(type_of% aY)∧(type_of% jL)∧(type_of% dA):=⟨aN,aP,aS,a8,bG,dE,fG,aY,jL,dA⟩
theorem alv:(type_of% aN)∧(type_of% aP)∧(type_of% adT)∧(type_of% dE)∧(type_of% dA):=⟨aN,aP,adT,dE,dA⟩
theorem aq5:(type_of% aN):=aN
theorem aq6:(type_of% aN)∧(type_of% a8):=⟨aN,a8⟩
theorem alw:(type_of% aN)∧(type_of% a8):=⟨aN,a8⟩
theorem oW:(type_of% aN)∧(type_of% aP)∧(type_of% aS)∧(type_of% a8)∧(type_of% cZ)∧(type_of% aY)∧(type_of% gK)∧(type_of% dB)∧(type_of% uK):=⟨aN,aP,aS,a8,cZ,aY,gK,dB,uK⟩
theorem aa8:(type_of% aN)∧(type_of% aP)∧(type_of% aS)∧(type_of% a8)∧(type_of% cZ)∧(type_of% aY)∧(type_of% gK)∧(type_of% uK):=⟨aN,aP,aS,a8,cZ,aY,gK,uK⟩
theorem acp:(type_of% aN)∧(type_of% aP)∧(type_of% aS)∧(type_of% a8)∧(type_of% dM)∧(type_of% bG)∧(type_of% fG)∧(type_of% aY)∧(type_of% dB):=⟨aN,aP,aS,a8,dM,bG,fG,aY,dB⟩
theorem xQ:(type_of% aN)∧(type_of% aP)∧(type_of% aS)∧(type_of% a8)∧(type_of% dM)∧(type_of% bG)∧(type_of% cZ)∧(type_of% aY)∧(type_of% dB)∧(type_of% xH)∧(type_of% xI)∧(type_of% ak6):=⟨aN,aP,aS,a8,dM,bG,cZ,aY,dB,xH,xI,ak6⟩
theorem nB:(type_of% aN)∧(type_of% aP)∧(type_of% aS)∧(type_of% a8)∧(type_of% dM)∧(type_of% bG)∧(type_of% fG)∧(type_of% aY)∧(type_of% dB):=⟨aN,aP,aS,a8,dM,bG,fG,aY,dB⟩
theorem zE:(type_of% aN)∧(type_of% aP)∧(type_of% aS)∧(type_of% bG):=⟨aN,aP,aS,bG⟩
theorem ago:(type_of% aN)∧(type_of% aS)∧(type_of% cZ)∧(type_of% cJ)∧(type_of% aY)∧(type_of% gK):=⟨aN,aS,cZ,cJ,aY,gK⟩
theorem qA:(type_of% aN)∧(type_of% aP)∧(type_of% aS)∧(type_of% bG)∧(type_of% cZ)∧(type_of% cJ)∧(type_of% aY)∧(type_of% jL)∧(type_of% lQ)∧(type_of% aaV)∧(type_of% ak2)∧(type_of% aaW):=⟨aN,aP,aS,bG,cZ,cJ,aY,jL,lQ,aaV,ak2,aaW⟩
theorem xR:(type_of% aN)∧(type_of% aP)∧(type_of% aS)∧(type_of% a8)∧(type_of% bG)∧(type_of% cZ)∧(type_of% aY)∧(type_of% gK)∧(type_of% dB)∧(type_of% aaX)∧(type_of% aaY)∧(type_of% ak7):=⟨aN,aP,aS,a8,bG,cZ,aY,gK,dB,aaX,aaY,ak7⟩
theorem acq:(type_of% aN)∧(type_of% aP)∧(type_of% a8)∧(type_of% bG)∧(type_of% cZ):=⟨aN,aP,a8,bG,cZ⟩
theorem aq7:(type_of% aN)∧(type_of% a8):=⟨aN,a8⟩
theorem acr:(type_of% aN)∧(type_of% aP)∧(type_of% cZ)∧(type_of% aaS):=⟨aN,aP,cZ,aaS⟩
theorem alx:(type_of% aN)∧(type_of% aP)∧(type_of% aS)∧(type_of% bG)∧(type_of% cJ)∧(type_of% aY):=⟨aN,aP,aS,bG,cJ,aY⟩
theorem aly:(type_of% aN)∧(type_of% aP)∧(type_of% aS)∧(type_of% bG)∧(type_of% cJ)∧(type_of% aY)∧(type_of% ad4):=⟨aN,aP,aS,bG,cJ,aY,ad4⟩
theorem acs:(type_of% aN)∧(type_of% aP)∧(type_of% aS)∧(type_of% bG)∧(type_of% cJ)∧(type_of% aY):=⟨aN,aP,aS,bG,cJ,aY⟩
theorem aq8:(type_of% aN):=aN
theorem aa9:(type_of% aN)∧(type_of% aP)∧(type_of% a8)∧(type_of% dE)∧(type_of% dA):=⟨aN,aP,a8,dE,dA⟩
theorem alz:(type_of% aN)∧(type_of% aS)∧(type_of% a8)∧(type_of% aY):=⟨aN,aS,a8,aY⟩
theorem zF:(type_of% aN)∧(type_of% aP)∧(type_of% aS)∧(type_of% dE)∧(type_of% aY)∧(type_of% dA):=⟨aN,aP,aS,dE,aY,dA⟩
theorem alA:(type_of% aN)∧(type_of% a8)∧(type_of% bG)∧(type_of% aaU):=⟨aN,a8,bG,aaU⟩
theorem zG:(type_of% aN)∧(type_of% aP)∧(type_of% a8)∧(type_of% dE)∧(type_of% dA):=⟨aN,aP,a8,dE,dA⟩
theorem alB:(type_of% aN)∧(type_of% aP):=⟨aN,aP⟩
theorem zH:(type_of% aN)∧(type_of% aP)∧(type_of% aS)∧(type_of% a8)∧(type_of% aY)∧(type_of% dB):=⟨aN,aP,aS,a8,aY,dB⟩
theorem vV:(type_of% aN)∧(type_of% aP)∧(type_of% aS)∧(type_of% a8)∧(type_of% cZ)∧(type_of% aY)∧(type_of% gK)∧(type_of% uK):=⟨aN,aP,aS,a8,cZ,aY,gK,uK⟩
theorem act:(type_of% aN)∧(type_of% aP)∧(type_of% aS)∧(type_of% a8)∧(type_of% dM)∧(type_of% aY)∧(type_of% dB):=⟨aN,aP,aS,a8,dM,aY,dB⟩
theorem agp:(type_of% aN)∧(type_of% aP)∧(type_of% aS)∧(type_of% aY):=⟨aN,aP,aS,aY⟩
theorem nC:(type_of% aN)∧(type_of% aP)∧(type_of% aS)∧(type_of% bG)∧(type_of% cJ)∧(type_of% aY)∧(type_of% jL)∧(type_of% lQ)∧(type_of% ak3):=⟨aN,aP,aS,bG,cJ,aY,jL,lQ,ak3⟩
theorem acu:(type_of% aN)∧(type_of% aP)∧(type_of% a8)∧(type_of% bG)∧(type_of% uI):=⟨aN,aP,a8,bG,uI⟩
theorem acv:(type_of% aN)∧(type_of% aP)∧(type_of% a8)∧(type_of% bG)∧(type_of% uI):=⟨aN,aP,a8,bG,uI⟩
theorem acw:(type_of% aN)∧(type_of% aP)∧(type_of% a8)∧(type_of% bG)∧(type_of% uI):=⟨aN,aP,a8,bG,uI⟩
theorem xS:(type_of% aN)∧(type_of% aP)∧(type_of% aS)∧(type_of% a8)∧(type_of% bG)∧(type_of% dE)∧(type_of% fG)∧(type_of% aY)∧(type_of% jL)∧(type_of% dA):=⟨aN,aP,aS,a8,bG,dE,fG,aY,jL,dA⟩
theorem lD:(type_of% aN)∧(type_of% aP)∧(type_of% aS)∧(type_of% a8)∧(type_of% cZ)∧(type_of% aY)∧(type_of% gK):=⟨aN,aP,aS,a8,cZ,aY,gK⟩
theorem j8:(type_of% aN)∧(type_of% aP)∧(type_of% aS)∧(type_of% a8)∧(type_of% dM)∧(type_of% bG)∧(type_of% cZ)∧(type_of% aY)∧(type_of% dB)∧(type_of% adZ)∧(type_of% akY)∧(type_of% ad0)∧(type_of% xH)∧(type_of% xI)∧(type_of% ak8):=⟨aN,aP,aS,a8,dM,bG,cZ,aY,dB,adZ,akY,ad0,xH,xI,ak8⟩
theorem acx:(type_of% aN)∧(type_of% aP)∧(type_of% aS)∧(type_of% bG)∧(type_of% cJ)∧(type_of% aY)∧(type_of% lQ):=⟨aN,aP,aS,bG,cJ,aY,lQ⟩
theorem rX:(type_of% aN)∧(type_of% aP)∧(type_of% aS)∧(type_of% a8)∧(type_of% bG)∧(type_of% cZ)∧(type_of% fG)∧(type_of% aY)∧(type_of% gK)∧(type_of% aaR)∧(type_of% dB)∧(type_of% aaX)∧(type_of% aaY):=⟨aN,aP,aS,a8,bG,cZ,fG,aY,gK,aaR,dB,aaX,aaY⟩
theorem uM:(type_of% aN)∧(type_of% aP)∧(type_of% aS)∧(type_of% cZ)∧(type_of% aY)∧(type_of% gK)∧(type_of% aaX)∧(type_of% aaY):=⟨aN,aP,aS,cZ,aY,gK,aaX,aaY⟩
theorem xT:(type_of% aN)∧(type_of% aP)∧(type_of% a8)∧(type_of% bG)∧(type_of% cZ)∧(type_of% fG):=⟨aN,aP,a8,bG,cZ,fG⟩
theorem zI:(type_of% aN)∧(type_of% aS)∧(type_of% cJ)∧(type_of% aY)∧(type_of% ad4):=⟨aN,aS,cJ,aY,ad4⟩
theorem alC:(type_of% aN)∧(type_of% aP)∧(type_of% aS):=⟨aN,aP,aS⟩
theorem agq:(type_of% aN)∧(type_of% aS)∧(type_of% bG)∧(type_of% p6):=⟨aN,aS,bG,p6⟩
theorem alD:(type_of% aS)∧(type_of% bG)∧(type_of% p6):=⟨aS,bG,p6⟩
theorem aq9:(type_of% aS):=aS
theorem agr:(type_of% aN)∧(type_of% aP)∧(type_of% aS)∧(type_of% cJ)∧(type_of% aY):=⟨aN,aP,aS,cJ,aY⟩
theorem xU:(type_of% aN)∧(type_of% aP)∧(type_of% aS)∧(type_of% aY)∧(type_of% aaZ):=⟨aN,aP,aS,aY,aaZ⟩
theorem acy:(type_of% aN)∧(type_of% aP)∧(type_of% a8)∧(type_of% dA):=⟨aN,aP,a8,dA⟩
theorem ara:(type_of% aN)∧(type_of% aP):=⟨aN,aP⟩
theorem acz:(type_of% aN)∧(type_of% aP)∧(type_of% aS)∧(type_of% cJ)∧(type_of% aY):=⟨aN,aP,aS,cJ,aY⟩
theorem aba:(type_of% aN)∧(type_of% aP)∧(type_of% aS)∧(type_of% bG)∧(type_of% cJ)∧(type_of% aY)∧(type_of% jL):=⟨aN,aP,aS,bG,cJ,aY,jL⟩
theorem acA:(type_of% aN)∧(type_of% aP)∧(type_of% aS)∧(type_of% bG)∧(type_of% cJ)∧(type_of% aY)∧(type_of% lQ):=⟨aN,aP,aS,bG,cJ,aY,lQ⟩
theorem nY:(type_of% aN)∧(type_of% aP)∧(type_of% aS)∧(type_of% bG)∧(type_of% cJ)∧(type_of% aY)∧(type_of% p6):=⟨aN,aP,aS,bG,cJ,aY,p6⟩
theorem zJ:(type_of% aN)∧(type_of% aP)∧(type_of% aS)∧(type_of% bG)∧(type_of% cJ)∧(type_of% aY):=⟨aN,aP,aS,bG,cJ,aY⟩
theorem uN:(type_of% aN)∧(type_of% aP)∧(type_of% a8)∧(type_of% bG):=⟨aN,aP,a8,bG⟩
theorem arb:(type_of% aN)∧(type_of% aS)∧(type_of% aY):=⟨aN,aS,aY⟩
theorem lE:(type_of% aN)∧(type_of% aP)∧(type_of% aS)∧(type_of% a8)∧(type_of% cZ)∧(type_of% aY)∧(type_of% gK):=⟨aN,aP,aS,a8,cZ,aY,gK⟩
theorem ags:(type_of% aN)∧(type_of% aP)∧(type_of% aS)∧(type_of% bG)∧(type_of% cJ)∧(type_of% aY):=⟨aN,aP,aS,bG,cJ,aY⟩
theorem lF:(type_of% aN)∧(type_of% aP)∧(type_of% aS)∧(type_of% bG)∧(type_of% cJ)∧(type_of% aY)∧(type_of% p6):=⟨aN,aP,aS,bG,cJ,aY,p6⟩
theorem acB:(type_of% aN)∧(type_of% aS)∧(type_of% cJ)∧(type_of% aY):=⟨aN,aS,cJ,aY⟩
theorem alE:(type_of% aN)∧(type_of% aP):=⟨aN,aP⟩
theorem acC:(type_of% aN)∧(type_of% aP)∧(type_of% aS)∧(type_of% bG)∧(type_of% aaZ)∧(type_of% ak9):=⟨aN,aP,aS,bG,aaZ,ak9⟩
theorem aeb:(type_of% aP)∧(type_of% aS)∧(type_of% uJ):=⟨aP,aS,uJ⟩
theorem vW:(type_of% aN)∧(type_of% aP)∧(type_of% aS)∧(type_of% bG)∧(type_of% cJ)∧(type_of% aY)∧(type_of% p6):=⟨aN,aP,aS,bG,cJ,aY,p6⟩
theorem agt:(type_of% aN)∧(type_of% aP)∧(type_of% aS)∧(type_of% bG)∧(type_of% cJ)∧(type_of% aY):=⟨aN,aP,aS,bG,cJ,aY⟩
theorem aec:(type_of% aN)∧(type_of% aP)∧(type_of% aS)∧(type_of% cJ)∧(type_of% aY):=⟨aN,aP,aS,cJ,aY⟩
theorem qB:(type_of% aN)∧(type_of% aP)∧(type_of% aS)∧(type_of% cJ)∧(type_of% aY):=⟨aN,aP,aS,cJ,aY⟩
theorem aed:(type_of% aP)∧(type_of% aS)∧(type_of% bG)∧(type_of% p6):=⟨aP,aS,bG,p6⟩
theorem xV:(type_of% aN)∧(type_of% aP)∧(type_of% aS)∧(type_of% aY):=⟨aN,aP,aS,aY⟩
theorem zK:(type_of% aN)∧(type_of% aP)∧(type_of% a8)∧(type_of% cZ):=⟨aN,aP,a8,cZ⟩
theorem aee:(type_of% aN)∧(type_of% aS)∧(type_of% aY):=⟨aN,aS,aY⟩
theorem abb:(type_of% aN)∧(type_of% aS)∧(type_of% aY):=⟨aN,aS,aY⟩
theorem arc:(type_of% aP)∧(type_of% aS)∧(type_of% cJ)∧(type_of% aY):=⟨aP,aS,cJ,aY⟩
theorem ard:(type_of% aP)∧(type_of% aS)∧(type_of% aY):=⟨aP,aS,aY⟩
theorem aef:(type_of% aN)∧(type_of% aP)∧(type_of% aS)∧(type_of% aaZ):=⟨aN,aP,aS,aaZ⟩
theorem are:(type_of% aS)∧(type_of% uJ):=⟨aS,uJ⟩
theorem abc:(type_of% aN)∧(type_of% aP)∧(type_of% aS)∧(type_of% bG):=⟨aN,aP,aS,bG⟩
theorem abd:(type_of% aN)∧(type_of% aP)∧(type_of% aS)∧(type_of% bG)∧(type_of% aY)∧(type_of% p6):=⟨aN,aP,aS,bG,aY,p6⟩
theorem xW:(type_of% aN)∧(type_of% aP)∧(type_of% aS)∧(type_of% uJ)∧(type_of% ak5):=⟨aN,aP,aS,uJ,ak5⟩
end Go.Proofs.YtaekhhlgnbhnpaaGreat
set_option linter.unusedVariables false
set_option linter.unusedSimpArgs false
set_option maxRecDepth 10000
namespace Go.Proofs.YtaekhhlgnbhnpaaGreat
open Go Go.Tw Go.Proofs
def aE:Nat→Bool:=fun _=>true
abbrev aA (k r c w:Int):AV := .agg [aD k,aD r,aD c,aD w]
def bU (k r c w:Int):Bool:=decide (1≤k∧k≤12∧0≤r∧r≤4∧8≤c∧c≤64∧8≤w∧w≤256∧32≤k*c)
theorem eD {n:Int} (h : -9223372036854775808≤n) (h2:n≤9223372036854775807):IntKind.i64.wrap n=n:=by
 simp only [IntKind.wrap,IntKind.bits,IntKind.signed]
 simp
 split <;> omega
theorem acD {k c:Int} (h1:1≤k) (h2:k≤12) (h3:8≤c) (h4:c≤64):8≤k*c∧k*c≤768:=by
 have a:1*8≤k*c:=Int.mul_le_mul h1 h3 (by omega) (by omega)
 have b:k*c≤12*64:=Int.mul_le_mul h2 h4 (by omega) (by omega)
 omega
theorem jN {k r c w:Int}:bU k r c w=true↔(1≤k∧k≤12∧0≤r∧r≤4∧8≤c∧c≤64∧8≤w∧w≤256∧32≤k*c):=by simp [bU]
theorem gZ {k r c w:Int} (h:bU k r c w=true):32≤k*c∧k*c≤768:=by
 rw [jN] at h
 have:=acD h.1 h.2.1 h.2.2.2.2.1 h.2.2.2.2.2.1
 omega
def wI (k c:Int):Int:=k*c
def dI (k c:Int):Int:=(k*c - 7) / 6
def lI (k c:Int):Int:=k*c / 6
def mI (k c:Int):Int:=min 32768 (dI k c*lI k c*(k*c))
theorem aeg (k r c w:Int):aX Tryz.prog 119 [aA k r c w] ⟨aD (if bU k r c w then 0 else 2),[]⟩:=by
 refine bE follows Tryz.func119 (by unfold Tryz.f119;rfl) (by unfold Tryz.f119;simp) aE (by unfold Tryz.f119;simp) (by kernel_rfl) ?_;unfold Tryz.f119
 by_cases hb:1≤k∧k≤12∧8≤c∧c≤64
 ·have hw:IntKind.i64.wrap (k*c)=k*c:=eD (by have:=acD hb.1 hb.2.1 hb.2.2.1 hb.2.2.2;omega) (by have:=acD hb.1 hb.2.1 hb.2.2.1 hb.2.2.2;omega)
  replace hb:=aB.mk hb
  simp only [↓pre,simprocAttr,aA,sx,ad7,hw,aE];repeat' ((first | refine yW (fun _ => ?_) (fun _ => ?_) | refine afT (fun _ => ?_) (fun _ => ?_)) <;> simp only [↓pre,simprocAttr,aA,sx,ad7,hw,aE, *])
  all_goals skip
  all_goals have hb:=hb.out
  all_goals (first | (exfalso;omega) | (rw [if_neg (by rw [jN];omega)];done) | (rw [if_pos (by rw [jN];omega)];done))
 ·replace hb:=aB.mk hb
  simp only [↓pre,simprocAttr,aA,sx,ad7,aE];repeat' ((first | refine yW (fun _ => ?_) (fun _ => ?_) | refine afT (fun _ => ?_) (fun _ => ?_)) <;> simp only [↓pre,simprocAttr,aA,sx,ad7,aE, *])
  all_goals skip
  all_goals have hb:=hb.out
  all_goals (first | (exfalso;omega) | (rw [if_neg (by rw [jN];omega)];done))
theorem abe (k r c w:Int):aX Tryz.prog 97 [aA k r c w] ⟨bB (bU k r c w),[]⟩:=by
 refine bE follows Tryz.func97 (by unfold Tryz.f97;rfl) (by unfold Tryz.f97;simp) aE (by unfold Tryz.f97;simp) (by kernel_rfl) ?_;unfold Tryz.f97
 by_cases hb:1≤k∧k≤12∧8≤c∧c≤64
 ·have hw:IntKind.i64.wrap (k*c)=k*c:=eD (by have:=acD hb.1 hb.2.1 hb.2.2.1 hb.2.2.2;omega) (by have:=acD hb.1 hb.2.1 hb.2.2.1 hb.2.2.2;omega)
  replace hb:=aB.mk hb
  simp only [↓pre,simprocAttr,aA,sx,ad5,hw,aE];repeat' ((refine yW (fun _ => ?_) (fun _ => ?_)) <;> simp only [↓pre,simprocAttr,aA,sx,ad5,hw,aE, *])
  all_goals refine adG ?_
  all_goals simp only [decide_eq_true_eq,decide_eq_false_iff_not,jN,reduceCtorEq,false_iff,true_iff]
  all_goals have hb:=hb.out
  all_goals omega
 ·replace hb:=aB.mk hb
  simp only [↓pre,simprocAttr,aA,sx,ad5,aE];repeat' ((refine yW (fun _ => ?_) (fun _ => ?_)) <;> simp only [↓pre,simprocAttr,aA,sx,ad5,aE, *])
  all_goals refine adG ?_
  all_goals simp only [decide_eq_true_eq,decide_eq_false_iff_not,jN,reduceCtorEq,false_iff,true_iff]
  all_goals have hb:=hb.out
  all_goals omega
theorem acE (k r c w:Int) (h:bU k r c w=true):aX Tryz.prog 222 [aA k r c w] ⟨aD (wI k c),[]⟩:=by
 refine bE follows Tryz.func222 (by unfold Tryz.f222;rfl) (by unfold Tryz.f222;simp) aE (by unfold Tryz.f222;simp) (by kernel_rfl) ?_;unfold Tryz.f222
 have hw:IntKind.i64.wrap (k*c)=k*c:=eD (by have:=gZ h;omega) (by have:=gZ h;omega)
 simp only [↓pre,simprocAttr,aA,sx,aq6,hw,aE,wI]
theorem abf {a b:Int} (h:0≤a):a.tdiv b=a / b:=Int.tdiv_eq_ediv_of_nonneg h
theorem vX {x:Int} (h:32≤x) (h2:x≤768):4≤(x - 7) / 6∧(x - 7) / 6≤126:=by omega
theorem tN {x:Int} (h:32≤x) (h2:x≤768):5≤x / 6∧x / 6≤128:=by omega
theorem alF {x:Int} (h:32≤x) (h2:x≤768):20≤(x - 7) / 6*(x / 6)∧(x - 7) / 6*(x / 6)≤16128∧640≤(x - 7) / 6*(x / 6)*x∧(x - 7) / 6*(x / 6)*x≤12386304:=by
 have hd:=vX h h2
 have hl:=tN h h2
 have a:4*5≤(x - 7) / 6*(x / 6):=Int.mul_le_mul hd.1 hl.1 (by omega) (by omega)
 have b:(x - 7) / 6*(x / 6)≤126*128:=Int.mul_le_mul hd.2 hl.2 (by omega) (by omega)
 have c:20*32≤(x - 7) / 6*(x / 6)*x:=Int.mul_le_mul (by omega) h (by omega) (by omega)
 have d:(x - 7) / 6*(x / 6)*x≤16128*768:=Int.mul_le_mul (by omega) h2 (by omega) (by omega)
 omega
theorem alG (k r c w:Int) (h:bU k r c w=true):aX Tryz.prog 223 [aA k r c w] ⟨aD (dI k c),[]⟩:=by
 refine bE follows Tryz.func223 (by unfold Tryz.f223;rfl) (by unfold Tryz.f223;simp) aE (by unfold Tryz.f223;simp) (by kernel_rfl) ?_;unfold Tryz.f223
 have hw:=gZ h
 simp only [↓pre,simprocAttr,aA,sx,alw,aE]
 refine aM (acE _ _ _ _ h) rfl ?_
 simp only [↓pre,simprocAttr,aA,sx,alw,aE,wI,eD (show -9223372036854775808≤k*c - 7 by omega) (by omega),abf (show 0≤k*c - 7 by omega),eD (show -9223372036854775808≤(k*c - 7) / 6 by omega) (by omega),dI]
theorem agu (k r c w:Int) (h:bU k r c w=true):aX Tryz.prog 216 [aA k r c w] ⟨aD (lI k c),[]⟩:=by
 refine bE follows Tryz.func216 (by unfold Tryz.f216;rfl) (by unfold Tryz.f216;simp) aE (by unfold Tryz.f216;simp) (by kernel_rfl) ?_;unfold Tryz.f216
 have hw:=gZ h
 simp only [↓pre,simprocAttr,aA,sx,alu,aE]
 refine aM (acE _ _ _ _ h) rfl ?_
 simp only [↓pre,simprocAttr,aA,sx,alu,aE,wI,abf (show 0≤k*c by omega),eD (show -9223372036854775808≤(k*c) / 6 by omega) (by omega),lI]
theorem arf (k c:Int):min (dI k c*lI k c*wI k c) 32768=mI k c:=by unfold mI wI;omega
theorem alH {k r c w:Int} (h:bU k r c w=true):IntKind.i64.wrap (dI k c*lI k c)=dI k c*lI k c:=by
 have hw:=gZ h
 have:=alF hw.1 hw.2
 unfold dI lI
 exact eD (by omega) (by omega)
theorem alI {k r c w:Int} (h:bU k r c w=true):IntKind.i64.wrap (dI k c*lI k c*wI k c)=dI k c*lI k c*wI k c:=by
 have hw:=gZ h
 have:=alF hw.1 hw.2
 unfold dI lI wI
 exact eD (by omega) (by omega)
theorem arg (k r c w:Int) (h:bU k r c w=true):aX Tryz.prog 184 [aA k r c w] ⟨aD (mI k c),[]⟩:=by
 refine bE follows Tryz.func184 (by unfold Tryz.f184;rfl) (by unfold Tryz.f184;simp) aE (by unfold Tryz.f184;simp) (by kernel_rfl) ?_;unfold Tryz.f184
 simp only [↓pre,simprocAttr,aA,sx,aea,aE]
 (refine cE (alG _ _ _ _ h) rfl (by intro k;rfl) ?_)
 simp only [↓pre,simprocAttr,aA,sx,aea,aE]
 (refine cE (agu _ _ _ _ h) rfl (by intro k;rfl) ?_)
 simp only [↓pre,simprocAttr,aA,sx,aea,aE]
 (refine cE (acE _ _ _ _ h) rfl (by intro k;rfl) ?_)
 simp only [↓pre,simprocAttr,aA,sx,aea,aE,alH h,alI h,arf]
def gU (a b:Int):Int:=(a+b - 1) / b
theorem alJ (a b:Int) (ha:0≤a) (ha2:a≤1000000) (hb:1≤b) (hb2:b≤1000000):aX Tryz.prog 221 [aD a,aD b] ⟨aD (gU a b),[]⟩:=by
 refine bE follows Tryz.func221 (by unfold Tryz.f221;rfl) (by unfold Tryz.f221;simp) aE (by unfold Tryz.f221;simp) (by kernel_rfl) ?_;unfold Tryz.f221
 have h1:IntKind.i64.wrap (b - 1)=b - 1:=eD (by omega) (by omega)
 have h2:IntKind.i64.wrap (a+(b - 1))=a+(b - 1):=eD (by omega) (by omega)
 have h3:(a+(b - 1)).tdiv b=gU a b:=by rw [abf (by omega)];unfold gU;congr 1;omega
 have h4:0≤gU a b:=by unfold gU;exact Int.ediv_nonneg (by omega) (by omega)
 have h5:gU a b≤2000000:=by unfold gU;exact Int.le_trans (Int.ediv_le_self _ (by omega)) (by omega)
 have h6:IntKind.i64.wrap (gU a b)=gU a b:=eD (by omega) (by omega)
 have hb0:b≠0:=by omega
 simp only [↓pre,simprocAttr,aA,sx,aq5,aE,h1,h2,h3,h6,hb0]
theorem alK (a b:Int) (ha:0≤a) (ha2:a≤1000000) (hb:1≤b) (hb2:b≤1000000):aX Tryz.prog 246 [aD a,aD b] ⟨aD (gU a b),[]⟩:=by
 refine bE follows Tryz.func246 (by unfold Tryz.f246;rfl) (by unfold Tryz.f246;simp) aE (by unfold Tryz.f246;simp) (by kernel_rfl) ?_;unfold Tryz.f246
 have h2:IntKind.i64.wrap (a+b)=a+b:=eD (by omega) (by omega)
 have h1:IntKind.i64.wrap (a+b - 1)=a+b - 1:=eD (by omega) (by omega)
 have h3:(a+b - 1).tdiv b=gU a b:=by rw [abf (by omega)];unfold gU;rfl
 have h4:0≤gU a b:=by unfold gU;exact Int.ediv_nonneg (by omega) (by omega)
 have h5:gU a b≤2000000:=by unfold gU;exact Int.le_trans (Int.ediv_le_self _ (by omega)) (by omega)
 have h6:IntKind.i64.wrap (gU a b)=gU a b:=eD (by omega) (by omega)
 have hb0:b≠0:=by omega
 simp only [↓pre,simprocAttr,aA,sx,aq8,aE,h1,h2,h3,h6,hb0]
theorem zL (k r c w:Int) (h:bU k r c w=true):aX Tryz.prog 187 [aA k r c w] ⟨aD (wI k c),[]⟩:=by
 refine bE follows Tryz.func187 (by unfold Tryz.f187;rfl) (by unfold Tryz.f187;simp) aE (by unfold Tryz.f187;simp) (by kernel_rfl) ?_;unfold Tryz.f187
 have hw:IntKind.i64.wrap (k*c)=k*c:=eD (by have:=gZ h;omega) (by have:=gZ h;omega)
 simp only [↓pre,simprocAttr,aA,sx,aq3,hw,aE,wI]
theorem agv (k r c w:Int) (h:bU k r c w=true):aX Tryz.prog 185 [aA k r c w] ⟨aD (dI k c),[]⟩:=by
 refine bE follows Tryz.func185 (by unfold Tryz.f185;rfl) (by unfold Tryz.f185;simp) aE (by unfold Tryz.f185;simp) (by kernel_rfl) ?_;unfold Tryz.f185
 have hw:=gZ h
 simp only [↓pre,simprocAttr,aA,sx,alq,aE]
 refine aM (zL _ _ _ _ h) rfl ?_
 simp only [↓pre,simprocAttr,aA,sx,alq,aE,wI,eD (show -9223372036854775808≤k*c - 7 by omega) (by omega),abf (show 0≤k*c - 7 by omega),eD (show -9223372036854775808≤(k*c - 7) / 6 by omega) (by omega),dI]
theorem aeh (k r c w:Int) (h:bU k r c w=true):aX Tryz.prog 186 [aA k r c w] ⟨aD (lI k c),[]⟩:=by
 refine bE follows Tryz.func186 (by unfold Tryz.f186;rfl) (by unfold Tryz.f186;simp) aE (by unfold Tryz.f186;simp) (by kernel_rfl) ?_;unfold Tryz.f186
 have hw:=gZ h
 simp only [↓pre,simprocAttr,aA,sx,alr,aE]
 refine aM (zL _ _ _ _ h) rfl ?_
 simp only [↓pre,simprocAttr,aA,sx,alr,aE,wI,abf (show 0≤k*c by omega),eD (show -9223372036854775808≤(k*c) / 6 by omega) (by omega),lI]
theorem arh (k c:Int):min 32768 (dI k c*lI k c*wI k c)=mI k c:=by unfold mI wI;omega
theorem alL (k r c w:Int) (h:bU k r c w=true):aX Tryz.prog 106 [aA k r c w] ⟨aD (mI k c),[]⟩:=by
 refine bE follows Tryz.func106 (by unfold Tryz.f106;rfl) (by unfold Tryz.f106;simp) aE (by unfold Tryz.f106;simp) (by kernel_rfl) ?_;unfold Tryz.f106
 simp only [↓pre,simprocAttr,aA,sx,ad6,aE]
 (refine cE (agv _ _ _ _ h) rfl (by intro k;rfl) ?_)
 simp only [↓pre,simprocAttr,aA,sx,ad6,aE]
 (refine cE (aeh _ _ _ _ h) rfl (by intro k;rfl) ?_)
 simp only [↓pre,simprocAttr,aA,sx,ad6,aE]
 (refine cE (zL _ _ _ _ h) rfl (by intro k;rfl) ?_)
 simp only [↓pre,simprocAttr,aA,sx,ad6,aE,alH h,alI h,arh]
def sI (k c n:Int):Int:=gU n (wI k c)
def fI (k c n:Int):Int:=if sI k c n≤dI k c then 0 else gU (sI k c n) (lI k c)
theorem acF {a b:Int} (ha:0≤a) (ha2:a≤32768) (hb:1≤b) (hb2:b≤1000):0≤gU a b∧gU a b≤33768:=by
 unfold gU
 exact ⟨Int.ediv_nonneg (by omega) (by omega),Int.le_trans (Int.ediv_le_self _ (by omega)) (by omega)⟩
theorem aei (k c:Int):mI k c≤32768:=by unfold mI;omega
theorem aej (k r c w n:Int) (h:bU k r c w=true) (hn:0≤n) (hm:n≤mI k c):aX Tryz.prog 188 [aA k r c w,aD n] ⟨.tup [aD (sI k c n),aD (fI k c n)],[]⟩:=by
 refine bE follows Tryz.func188 (by unfold Tryz.f188;rfl) (by unfold Tryz.f188;simp) aE (by unfold Tryz.f188;simp) (by kernel_rfl) ?_;unfold Tryz.f188
 have hw:=gZ h
 have:=aei k c
 have hl:=tN hw.1 hw.2
 have hs:=acF (a:=n) (b:=wI k c) hn (by omega) (by unfold wI;omega) (by unfold wI;omega)
 simp only [↓pre,simprocAttr,aA,sx,xO,aE]
 refine aM (zL _ _ _ _ h) rfl ?_
 simp only [↓pre,simprocAttr,aA,sx,xO,aE]
 (refine aM (alK _ _ hn (by omega) (by unfold wI;omega) (by unfold wI;omega)) rfl ?_)
 simp only [↓pre,simprocAttr,aA,sx,xO,aE]
 refine aM (agv _ _ _ _ h) rfl ?_
 simp only [↓pre,simprocAttr,aA,sx,xO,aE]
 refine aaI (fun hc => ?_) (fun hc => ?_)
 ·simp only [↓pre,simprocAttr,aA,sx,xO,aE,fI,sI,of_decide_eq_true hc]
 ·have hc:=of_decide_eq_false hc
  simp only [↓pre,simprocAttr,aA,sx,xO,aE]
  refine aM (aeh _ _ _ _ h) rfl ?_
  simp only [↓pre,simprocAttr,aA,sx,xO,aE]
  (refine aM (alK _ _ hs.1 (by omega) (by unfold lI;omega) (by unfold lI;omega)) rfl ?_)
  simp only [↓pre,simprocAttr,aA,sx,xO,aE,fI,sI,hc]
theorem agw (k r c w n:Int) (g:FuncId) (hg:bU k r c w=true→aX Tryz.prog g [aA k r c w] ⟨aD n,[]⟩):aX Tryz.prog 183 [aA k r c w,.clo g []] ⟨.tup [aD (if bU k r c w then n else 0),aD (if bU k r c w then 0 else 2)],[]⟩:=by
 refine bE follows Tryz.func183 (by unfold Tryz.f183;rfl) (by unfold Tryz.f183;simp) aE (by unfold Tryz.f183;simp) (by kernel_rfl) ?_;unfold Tryz.f183
 cases h:bU k r c w with
 | false=>simp only [↓pre,simprocAttr,aA,sx,ad9,aE,h];repeat' ((refine aM (aeg _ _ _ _) (by rfl) ?_) <;> simp only [↓pre,simprocAttr,aA,sx,ad9,aE,h, *])
 | true=>simp only [↓pre,simprocAttr,aA,sx,ad9,aE,h];repeat' ((first | refine aM (aeg _ _ _ _) (by rfl) ?_ | refine aM (hg h) (by rfl) ?_) <;> simp only [↓pre,simprocAttr,aA,sx,ad9,aE,h, *])
theorem g7 {k r c w:Int} (h:bU k r c w=true):1≤k+r∧k+r≤16∧8≤c∧c≤64∧1≤k∧0≤r:=by
 rw [jN] at h
 omega
theorem ari (k r c w:Int) (h:bU k r c w=true):aX Tryz.prog 241 [aA k r c w] ⟨aD (k+r),[]⟩:=by
 have hn:=g7 h
 have w1:IntKind.i64.wrap (k+r)=k+r:=eD (by omega) (by omega)
 refine bE follows Tryz.func241 (by unfold Tryz.f241;rfl) (by unfold Tryz.f241;simp) aE (by unfold Tryz.f241;simp) (by kernel_rfl) ?_;unfold Tryz.f241
 simp only [↓pre,simprocAttr,aA,sx,aq7,aE,w1]
theorem uO (k r c w:Int):aX Tryz.prog 173 [aA k r c w] ⟨.tup [aD (if bU k r c w then k+r else 0),aD (if bU k r c w then 0 else 2)],[]⟩:=by
 refine bE follows Tryz.func173 (by unfold Tryz.f173;rfl) (by unfold Tryz.f173;simp) aE (by unfold Tryz.f173;simp) (by kernel_rfl) ?_;unfold Tryz.f173
 simp only [↓pre,simprocAttr,aA,sx,alm,aE];repeat' ((refine aM (agw _ _ _ _ _ _ (ari k r c w)) (by rfl) ?_) <;> simp only [↓pre,simprocAttr,aA,sx,alm,aE, *])
def d7 (k r c:Int):Int:=12+4*(k+r)+c
theorem zM (k r c w:Int):aX Tryz.prog 170 [aA k r c w] ⟨.tup [aD (if bU k r c w then d7 k r c else 0),aD (if bU k r c w then 0 else 2)],[]⟩:=by
 refine bE follows Tryz.func170 (by unfold Tryz.f170;rfl) (by unfold Tryz.f170;simp) aE (by unfold Tryz.f170;simp) (by kernel_rfl) ?_;unfold Tryz.f170
 cases h:bU k r c w with
 | false=>simp only [↓pre,simprocAttr,aA,sx,ad8,aE,h,Bool.false_eq_true];repeat' ((refine aM (uO _ _ _ _) (by rfl) ?_) <;> simp only [↓pre,simprocAttr,aA,sx,ad8,aE,h,Bool.false_eq_true, *])
 | true =>
  have hn:=g7 h
  have w1:IntKind.i64.wrap (4*(k+r))=4*(k+r):=eD (by omega) (by omega)
  have w2:IntKind.i64.wrap (12+4*(k+r))=12+4*(k+r):=eD (by omega) (by omega)
  have w3:IntKind.i64.wrap (12+4*(k+r)+c)=12+4*(k+r)+c:=eD (by omega) (by omega)
  replace hn:=aB.mk hn
  simp only [↓pre,simprocAttr,aA,sx,ad8,aE,h,w1,w2,w3,d7];repeat' ((refine aM (uO _ _ _ _) (by rfl) ?_) <;> simp only [↓pre,simprocAttr,aA,sx,ad8,aE,h,w1,w2,w3,d7, *])
theorem uP (k r c w:Int) (h:bU k r c w=true):aX Tryz.prog 98 [aA k r c w] ⟨aD (k+r),[]⟩:=by
 have hn:=g7 h
 have w1:IntKind.i64.wrap (k+r)=k+r:=eD (by omega) (by omega)
 refine bE follows Tryz.func98 (by unfold Tryz.f98;rfl) (by unfold Tryz.f98;simp) aE (by unfold Tryz.f98;simp) (by kernel_rfl) ?_;unfold Tryz.f98
 simp only [↓pre,simprocAttr,aA,sx,aq0,aE,w1]
theorem abg (k r c w:Int) (h:bU k r c w=true):aX Tryz.prog 210 [aA k r c w] ⟨aD (d7 k r c),[]⟩:=by
 have hn:=g7 h
 have w1:IntKind.i64.wrap (4*(k+r))=4*(k+r):=eD (by omega) (by omega)
 have w2:IntKind.i64.wrap (12+4*(k+r))=12+4*(k+r):=eD (by omega) (by omega)
 have w3:IntKind.i64.wrap (12+4*(k+r)+c)=12+4*(k+r)+c:=eD (by omega) (by omega)
 refine bE follows Tryz.func210 (by unfold Tryz.f210;rfl) (by unfold Tryz.f210;simp) aE (by unfold Tryz.f210;simp) (by kernel_rfl) ?_;unfold Tryz.f210
 simp only [↓pre,simprocAttr,aA,sx,alt,aE]
 (refine cE (uP _ _ _ _ h) (by rfl) (by intro k;rfl) ?_);simp only [↓pre,simprocAttr,aA,sx,alt,aE,w1,w2,w3,d7]
def g8 (n:Int):Bool:=decide (1≤n∧n≤1073741824)
theorem arj (n:Int):aX Tryz.prog 252 [aD n] ⟨bB (g8 n),[]⟩:=by
 refine bE follows Tryz.func252 (by unfold Tryz.f252;rfl) (by unfold Tryz.f252;simp) aE (by unfold Tryz.f252;simp) (by kernel_rfl) ?_;unfold Tryz.f252
 simp only [↓pre,simprocAttr,aA,sx,alB,aE,bB];repeat' ((refine yW (fun _ => ?_) (fun _ => ?_)) <;> simp only [↓pre,simprocAttr,aA,sx,alB,aE,bB, *])
 all_goals refine adG ?_
 all_goals simp [g8]
 all_goals omega
theorem ark (n:Int):aX Tryz.prog 328 [aD n] ⟨bB (!g8 n),[]⟩:=by
 refine bE follows Tryz.func328 (by unfold Tryz.f328;rfl) (by unfold Tryz.f328;simp) aE (by unfold Tryz.f328;simp) (by kernel_rfl) ?_;unfold Tryz.f328
 simp only [↓pre,simprocAttr,aA,sx,alE,aE,bB]
 refine aM (arj n) (by rfl) ?_;simp only [↓pre,simprocAttr,aA,sx,alE,aE,bB]
theorem arl (n:Int):aX Tryz.prog 113 [aD n] ⟨bB (g8 n),[]⟩:=by
 refine bE follows Tryz.func113 (by unfold Tryz.f113;rfl) (by unfold Tryz.f113;simp) aE (by unfold Tryz.f113;simp) (by kernel_rfl) ?_;unfold Tryz.f113
 simp only [↓pre,simprocAttr,aA,sx,alg,aE,bB];repeat' ((refine yW (fun _ => ?_) (fun _ => ?_)) <;> simp only [↓pre,simprocAttr,aA,sx,alg,aE,bB, *])
 all_goals refine adG ?_
 all_goals simp [g8]
 all_goals omega
def oE (k r c w n:Int):Int:=if bU k r c w=true then (if n < 0 then 2 else if mI k c < n then 3 else 0) else 2
def oS (k r c w n:Int):Int:=if oE k r c w n=0 then sI k c n else 0
def oF (k r c w n:Int):Int:=if oE k r c w n=0 then fI k c n else 0
theorem agx (k r c w n:Int):aX Tryz.prog 140 [aA k r c w,aD n] ⟨.tup [aD (oS k r c w n),aD (oF k r c w n),aD (oE k r c w n)],[]⟩:=by
 refine bE follows Tryz.func140 (by unfold Tryz.f140;rfl) (by unfold Tryz.f140;simp) aE (by unfold Tryz.f140;simp) (by kernel_rfl) ?_;unfold Tryz.f140
 simp only [↓pre,simprocAttr,aA,sx,oU,aE]
 refine aM (aeg _ _ _ _) rfl ?_
 cases h:bU k r c w with
 | false=>simp only [↓pre,simprocAttr,aA,sx,oU,aE,h,oS,oF,oE,Bool.false_eq_true]
 | true =>
  have hw:=gZ h
  have hd:=vX hw.1 hw.2
  have hl:=tN hw.1 hw.2
  have hmm:=aei k c
  simp only [↓pre,simprocAttr,aA,sx,oU,aE]
  refine aaI (fun hn => ?_) (fun hn => ?_)
  ·have hn:=of_decide_eq_true hn
   simp only [↓pre,simprocAttr,aA,sx,oU,aE,h,oS,oF,oE,hn]
  ·have hn:=of_decide_eq_false hn
   simp only [↓pre,simprocAttr,aA,sx,oU,aE,oS,oF,oE,h,hn]
   refine aM (arg _ _ _ _ h) rfl ?_
   simp only [↓pre,simprocAttr,aA,sx,oU,aE]
   refine aaI (fun hb => ?_) (fun hb => ?_)
   ·have hb:=of_decide_eq_true hb
    simp only [↓pre,simprocAttr,aA,sx,oU,aE,hb]
   ·have hb:=of_decide_eq_false hb
    simp only [↓pre,simprocAttr,aA,sx,oU,aE]
    refine aM (acE _ _ _ _ h) rfl ?_
    simp only [↓pre,simprocAttr,aA,sx,oU,aE]
    (refine aM (alJ _ _ (by omega) (by omega) (by unfold wI;omega) (by unfold wI;omega)) rfl ?_)
    simp only [↓pre,simprocAttr,aA,sx,oU,aE]
    refine aM (alG _ _ _ _ h) rfl ?_
    simp only [↓pre,simprocAttr,aA,sx,oU,aE]
    have hs:=acF (a:=n) (b:=wI k c) (by omega) (by omega) (by unfold wI;omega) (by unfold wI;omega)
    refine aaI (fun hc => ?_) (fun hc => ?_)
    ·have hc:=of_decide_eq_true hc
     simp only [↓pre,simprocAttr,aA,sx,oU,aE]
     refine aM (agu _ _ _ _ h) rfl ?_
     simp only [↓pre,simprocAttr,aA,sx,oU,aE]
     (refine aM (alJ _ _ hs.1 (by omega) (by unfold lI;omega) (by unfold lI;omega)) rfl ?_)
     simp only [↓pre,simprocAttr,aA,sx,oU,aE,hb,fI,sI,show ¬ gU n (wI k c)≤dI k c by omega]
    ·have hc:=of_decide_eq_false hc
     simp only [↓pre,simprocAttr,aA,sx,oU,aE,hb,fI,sI,show gU n (wI k c)≤dI k c by omega]
theorem alM (k r c w n:Int):aX Tryz.prog 67 [aA k r c w,aD n] ⟨.tup [aD (oS k r c w n),aD (oE k r c w n)],[]⟩:=by
 refine bE follows Tryz.func67 (by unfold Tryz.f67;rfl) (by unfold Tryz.f67;simp) aE (by unfold Tryz.f67;simp) (by kernel_rfl) ?_;unfold Tryz.f67
 simp only [↓pre,simprocAttr,aA,sx,alc,aE]
 refine aM (agx _ _ _ _ _) rfl ?_
 simp only [↓pre,simprocAttr,aA,sx,alc,aE]
theorem arm (k r c w n:Int):aX Tryz.prog 68 [aA k r c w,aD n] ⟨.tup [aD (oF k r c w n),aD (oE k r c w n)],[]⟩:=by
 refine bE follows Tryz.func68 (by unfold Tryz.f68;rfl) (by unfold Tryz.f68;simp) aE (by unfold Tryz.f68;simp) (by kernel_rfl) ?_;unfold Tryz.f68
 simp only [↓pre,simprocAttr,aA,sx,ald,aE]
 refine aM (agx _ _ _ _ _) rfl ?_
 simp only [↓pre,simprocAttr,aA,sx,ald,aE]
theorem arn (k r c w n:Int):aX Tryz.prog 250 [aA k r c w,aD n] ⟨.tup [aD (min (oF k r c w n) 1),aD (oE k r c w n)],[]⟩:=by
 have h1:=agx k r c w n
 refine bE follows Tryz.func250 (by unfold Tryz.f250;rfl) (by unfold Tryz.f250;simp) aE (by unfold Tryz.f250;simp) (by kernel_rfl) ?_;unfold Tryz.f250
 simp only [↓pre,simprocAttr,aA,sx,alA,aE]
 refine aM (h1) (by rfl) ?_;simp only [↓pre,simprocAttr,aA,sx,alA,aE]
theorem alN (k r c w:Int):aX Tryz.prog 182 [aA k r c w] ⟨.tup [aD (if bU k r c w then wI k c else 0),aD (if bU k r c w then 0 else 2)],[]⟩:=by
 have h1:=agw k r c w (wI k c) 222 (fun h=>acE k r c w h)
 refine bE follows Tryz.func182 (by unfold Tryz.f182;rfl) (by unfold Tryz.f182;simp) aE (by unfold Tryz.f182;simp) (by kernel_rfl) ?_;unfold Tryz.f182
 simp only [↓pre,simprocAttr,aA,sx,alp,aE]
 refine aM (h1) (by rfl) ?_;simp only [↓pre,simprocAttr,aA,sx,alp,aE]
theorem agy (k r c w:Int):aX Tryz.prog 133 [aA k r c w] ⟨.tup [aD (if bU k r c w then lI k c else 0),aD (if bU k r c w then 0 else 2)],[]⟩:=by
 have h1:=agw k r c w (lI k c) 216 (fun h=>agu k r c w h)
 refine bE follows Tryz.func133 (by unfold Tryz.f133;rfl) (by unfold Tryz.f133;simp) aE (by unfold Tryz.f133;simp) (by kernel_rfl) ?_;unfold Tryz.f133
 simp only [↓pre,simprocAttr,aA,sx,alj,aE]
 refine aM (h1) (by rfl) ?_;simp only [↓pre,simprocAttr,aA,sx,alj,aE]
def cC (l:List Int):List AV:=l.map aD
theorem qT {l:List Int} {x:List AV} {i:Nat} {n:Int} (h:l[i]? = some n):(cC l++x)[i]? = some (.val (.int .i64 n)):=by
 have hi:=(List.getElem?_eq_some_iff.1 h).1
 rw [List.getElem?_append_left (by simpa [cC] using hi)]
 simp [cC,h,aD]
def zN (p:Int→Bool) (l:List Int):Int:=match l.findIdx? p with
 | some i=>(i:Nat)
 | none => -1
theorem aro {p:Int→Bool} {l:List Int} {i:Nat} {n:Int} (h:l[i]? = some n) (hp:p n=true) (hb:∀ (j:Nat) (m:Int),j < i→l[j]? = some m→p m=false):zN p l=(i:Nat):=by
 obtain ⟨hi1,hi2⟩:=(List.getElem?_eq_some_iff.1 h)
 have:l.findIdx? p=some i:=by
  rw [List.findIdx?_eq_some_iff_getElem]
  refine ⟨hi1,by rw [hi2];exact hp,fun j hj => ?_⟩
  simpa using hb j _ hj (List.getElem?_eq_getElem (Nat.lt_trans hj hi1))
 rw [zN,this]
theorem arp {p:Int→Bool} {l:List Int} (hb:∀ (j:Nat) (m:Int),l[j]? = some m→p m=false):zN p l = -1:=by
 have:l.findIdx? p=none:=by
  rw [List.findIdx?_eq_none_iff]
  intro m hm
  obtain ⟨j,hj,rfl⟩:=List.getElem_of_mem hm
  exact hb j _ (List.getElem?_eq_getElem hj)
 rw [zN,this]
theorem arq (p:Int→Bool) (l:List Int):decide (0≤zN p l)=l.any p:=by
 unfold zN
 cases h:l.findIdx? p with
 | none =>
  rw [List.findIdx?_eq_none_iff] at h
  have:l.any p=false:=by rw [List.any_eq_false];intro m hm;rw [h m hm];decide
  rw [this];rfl
 | some i =>
  obtain ⟨hi,hp,_⟩:=List.findIdx?_eq_some_iff_getElem.1 h
  have:l.any p=true:=List.any_eq_true.2 ⟨_,List.getElem_mem hi,hp⟩
  rw [this]
  simp
theorem ars (v:AV) (l:List Int) (x:List AV) (g:FuncId) (caps:List AV) (p:Int→Bool) (hv:bC v l.length (cC l++x)) (hn:l.length≤1000000000000) (hc:eB caps=true) (hg:∀ n∈l,aX Tryz.prog g (aD n::caps) ⟨bB (p n),[]⟩):aX Tryz.prog 242 [v,.clo g caps] ⟨aD (zN p l),[]⟩:=by
 refine bE follows Tryz.func242 (by unfold Tryz.f242;rfl) (by unfold Tryz.f242;simp) aE (by unfold Tryz.f242;simp) (by kernel_rfl) ?_;unfold Tryz.f242
 have hpl:=hv.plain
 simp only [↓pre,simprocAttr,aA,sx,acr,aE,aC,hv.len']
 rw [b9]
 refine cA (fun n e m=>∃ i,n+i=l.length∧e 0=v∧e 1 = .clo g caps∧e 7=aD (l.length:Nat)∧e 8=aD (i:Nat)∧∀ (j:Nat) (m:Int),j < i→l[j]? = some m→p m=false) l.length ⟨0,by omega, ?_⟩ ?_
 ·simp [bN.set,nP,aD]
 ·rintro n e m ⟨i,hi,e0,e1,e7,e8,hpre⟩
  replace hpre:=aB.mk hpre
  by_cases hlt:i < l.length
  ·have hlt':(i:Int) < (l.length:Nat):=by omega
   obtain ⟨a,ha⟩:∃ a,l[i]? = some a:=⟨_,List.getElem?_eq_getElem hlt⟩
   have a1:=qT (x:=x) ha
   have w1:=cI (n:=i) (by omega)
   have hga:=hg a (List.mem_of_getElem? ha)
   replace ha:=aB.mk ha
   simp only [↓pre,simprocAttr,aA,sx,acr,aE,aC,e0,e1,e7,e8,hlt',hv.addr',hlt,Nat.mul_one,a1,w1]
   cases hp:p a with
   | true =>
    have hx:=aro ha.out hp hpre.out
    rw [hp] at hga
    refine aM hga (by simp only [eB,plain,aD,hc,Bool.and_true,Bool.and_self]) ?_
    simp only [↓pre,simprocAttr,aA,sx,acr,aE,aC,e0,e1,e7,e8,bB,hx]
   | false =>
    rw [hp] at hga
    refine aM hga (by simp only [eB,plain,aD,hc,Bool.and_true,Bool.and_self]) ?_
    simp only [↓pre,simprocAttr,aA,sx,acr,aE,aC,e0,e1,e7,e8,bB,w1]
    refine ⟨n - 1,by omega,i+1,by omega,rfl,fun j m hj hm => ?_⟩
    by_cases hji:j=i
    ·subst hji
     rw [ha.out] at hm
     cases hm
     exact hp
    ·exact hpre.out j m (by omega) hm
  ·have hlt':¬ (i:Int) < (l.length:Nat):=by omega
   have hx:=arp (p:=p) (l:=l) fun j m hj=>hpre.out j m (by have:=(List.getElem?_eq_some_iff.1 hj).1;omega) hj
   simp only [↓pre,simprocAttr,aA,sx,acr,aE,aC,e0,e1,e7,e8,hlt',decide_false,cW,hx]
theorem alO (v:AV) (l:List Int) (x:List AV) (g:FuncId) (caps:List AV) (p:Int→Bool) (hv:bC v l.length (cC l++x)) (hn:l.length≤1000000000000) (hc:eB caps=true) (hg:∀ n∈l,aX Tryz.prog g (aD n::caps) ⟨bB (p n),[]⟩):aX Tryz.prog 174 [v,.clo g caps] ⟨bB (l.any p),[]⟩:=by
 have h1:=ars v l x g caps p hv hn hc hg
 have h2:=arq p l
 have hpl:=hv.plain
 refine bE follows Tryz.func174 (by unfold Tryz.f174;rfl) (by unfold Tryz.f174;simp) aE (by unfold Tryz.f174;simp) (by kernel_rfl) ?_;unfold Tryz.f174
 simp only [↓pre,simprocAttr,aA,sx,aln,aE,bB]
 refine aM h1 (by simp only [eB,plain,hpl,hc,Bool.and_true,Bool.and_self]) ?_
 simp only [↓pre,simprocAttr,aA,sx,aln,aE,bB,h2]
def iV (k r c w:Int) (l:List Int):Int:=if bU k r c w=true then (if (l.length:Int)=k+r then (if l.any (fun n => !g8 n)=true then 70 else 0) else 70) else 2
theorem art (k r c w:Int) (v:AV) (l:List Int) (x:List AV) (hv:bC v l.length (cC l++x)) (hn:l.length≤1000000000000):aX Tryz.prog 295 [aA k r c w,v] ⟨aD (iV k r c w l),[]⟩:=by
 have hc:=alO v l x 328 [] (fun n => !g8 n) hv hn rfl (fun n _=>ark n)
 have hp:=hv.plain
 refine bE follows Tryz.func295 (by unfold Tryz.f295;rfl) (by unfold Tryz.f295;simp) aE (by unfold Tryz.f295;simp) (by kernel_rfl) ?_;unfold Tryz.f295
 cases h:bU k r c w with
 | false =>
  have he:iV k r c w l=2:=by simp [iV,h]
  simp only [↓pre,simprocAttr,aA,sx,xT,aE,h,Bool.false_eq_true,he];repeat' ((refine aM (uO _ _ _ _) (by rfl) ?_) <;> simp only [↓pre,simprocAttr,aA,sx,xT,aE,h,Bool.false_eq_true,he, *])
 | true =>
  by_cases hl:(l.length:Int)=k+r
  ·cases ha:l.any (fun n => !g8 n) with
   | true =>
    have he:iV k r c w l=70:=by rw [iV,if_pos h,if_pos hl,if_pos ha]
    rw [ha] at hc
    simp only [↓pre,simprocAttr,aA,sx,xT,aE,aC,h,hv.len',hl,he,bB];repeat' ((first | refine aM (uO _ _ _ _) (by rfl) ?_ | refine aM (hc) (by simp only [aA,aV, *]) ?_) <;> simp only [↓pre,simprocAttr,aA,sx,xT,aE,aC,h,hv.len',hl,he,bB, *])
   | false =>
    have he:iV k r c w l=0:=by rw [iV,if_pos h,if_pos hl,if_neg (by rw [ha];decide)]
    rw [ha] at hc
    simp only [↓pre,simprocAttr,aA,sx,xT,aE,aC,h,hv.len',hl,he,bB];repeat' ((first | refine aM (uO _ _ _ _) (by rfl) ?_ | refine aM (hc) (by simp only [aA,aV, *]) ?_) <;> simp only [↓pre,simprocAttr,aA,sx,xT,aE,aC,h,hv.len',hl,he,bB, *])
  ·have he:iV k r c w l=70:=by rw [iV,if_pos h,if_neg hl]
   simp only [↓pre,simprocAttr,aA,sx,xT,aE,aC,h,hv.len',hl,he,bB];repeat' ((refine aM (uO _ _ _ _) (by rfl) ?_) <;> simp only [↓pre,simprocAttr,aA,sx,xT,aE,aC,h,hv.len',hl,he,bB, *])
def jO (l:List Int):Int:=l.foldl max 0
theorem alP {l:List Int} {i:Nat} {n:Int} (h:l[i]? = some n):jO (l.take (i+1))=max (jO (l.take i)) n:=by
 rw [List.take_add_one,h]
 simp [jO]
theorem aru (k r c w:Int) (v:AV) (l:List Int) (x:List AV) (hv:bC v l.length (cC l++x)) (hn:l.length≤1000000000000):aX Tryz.prog 240 [aA k r c w,v] ⟨.tup [aD (if iV k r c w l=0 then jO l else 0),aD (iV k r c w l)],[]⟩:=by
 have hc:=art k r c w v l x hv hn
 have hp:=hv.plain
 refine bE follows Tryz.func240 (by unfold Tryz.f240;rfl) (by unfold Tryz.f240;simp) aE (by unfold Tryz.f240;simp) (by kernel_rfl) ?_;unfold Tryz.f240
 simp only [↓pre,simprocAttr,aA,sx,acq,aE,aC]
 refine aM hc (by simp only [eB,plain,aA,aD,hp,Bool.and_true,Bool.and_self]) ?_
 by_cases he:iV k r c w l=0
 ·simp only [↓pre,simprocAttr,aA,sx,acq,aE,aC,he,hv.len',eq_self]
  rw [b9]
  refine cA (fun n e m=>∃ i,n+i=l.length∧e 16=v∧e 17=aD (l.length:Nat)∧e 18=aD (i:Nat)∧e 7=aD (jO (l.take i))) l.length ⟨0,by omega, ?_⟩ ?_
  ·simp [bN.set,nP,aD,jO]
  ·rintro n e m ⟨i,hi,e16,e17,e18,e7⟩
   by_cases hlt:i < l.length
   ·have hlt':(i:Int) < (l.length:Nat):=by omega
    obtain ⟨a,ha⟩:∃ a,l[i]? = some a:=⟨_,List.getElem?_eq_getElem hlt⟩
    have a1:=qT (x:=x) ha
    have a2:=alP ha
    have w1:=cI (n:=i) (by omega)
    simp only [↓pre,simprocAttr,aA,sx,acq,aE,aC,e16,e17,e18,e7,hlt',hv.addr',hlt,Nat.mul_one,a1,w1]
    exact ⟨n - 1,by omega,i+1,by omega,rfl,by rw [a2]⟩
   ·have hlt':¬ (i:Int) < (l.length:Nat):=by omega
    have ht:l.take i=l:=List.take_of_length_le (by omega)
    rw [ht] at e7
    simp only [↓pre,simprocAttr,aA,sx,acq,aE,aC,e16,e17,e18,e7,hlt',decide_false,cW]
 ·simp only [↓pre,simprocAttr,aA,sx,acq,aE,aC,he]
def qC (k r:Int) (l:List Int):Int:=if (l.length:Int)=k+r then (if l.any (fun n => !g8 n)=true then 0 else jO l) else 0
theorem arv (k r c w:Int) (hm:bU k r c w=true) (v:AV) (l:List Int) (x:List AV) (hv:bC v l.length (cC l++x)) (hn:l.length≤1000000000000):aX Tryz.prog 341 [aA k r c w,v] ⟨aD (qC k r l),[]⟩:=by
 have hp:=hv.plain
 refine bE follows Tryz.func341 (by unfold Tryz.f341;rfl) (by unfold Tryz.f341;simp) aE (by unfold Tryz.f341;simp) (by kernel_rfl) ?_;unfold Tryz.f341
 simp only [↓pre,simprocAttr,aA,sx,zK,aE,aC,hv.len']
 by_cases hl:(l.length:Int)=k+r
 ·refine aM (uP _ _ _ _ hm) (by rfl) ?_;simp only [↓pre,simprocAttr,aA,sx,zK,aE,aC,hv.len',hl,eq_self]
  rw [b9]
  refine cA (fun n e m=>∃ i,n+i=l.length∧e 1=v∧e 6=aD (i:Nat)∧e 5=aD (jO (l.take i))∧∀ (j:Nat) (a:Int),j < i→l[j]? = some a→g8 a=true) l.length ⟨0,by omega, ?_⟩ ?_
  ·simp [bN.set,nP,aD,jO]
  ·rintro n e m ⟨i,hi,e1,e6,e5,hpre⟩
   replace hpre:=aB.mk hpre
   by_cases hlt:i < l.length
   ·have hlt':(i:Int) < (l.length:Nat):=by omega
    obtain ⟨a,ha⟩:∃ a,l[i]? = some a:=⟨_,List.getElem?_eq_getElem hlt⟩
    have a1:=qT (x:=x) ha
    have a2:=alP ha
    have w1:=cI (n:=i) (by omega)
    have hc:=arl a
    replace hl:=aB.mk hl
    simp only [↓pre,simprocAttr,aA,sx,zK,aE,aC,hv.len',e1,e6,e5,hlt',hv.addr',hlt,Nat.mul_one,a1,w1]
    cases hb:g8 a with
    | true =>
     rw [hb] at hc
     refine aM (hc) (by rfl) ?_;simp only [↓pre,simprocAttr,aA,sx,zK,aE,aC,hv.len',e1,e6,e5,hlt',hv.addr',hlt,Nat.mul_one,a1,w1,bB]
     refine ⟨n - 1,by omega,i+1,by omega,rfl,by rw [a2],fun j b hj hjb => ?_⟩
     by_cases hji:j=i
     ·subst hji
      rw [ha] at hjb
      cases hjb
      exact hb
     ·exact hpre.out j b (by omega) hjb
    | false =>
     rw [hb] at hc
     have hx:qC k r l=0:=by
      rw [qC,if_pos hl.out,if_pos]
      exact List.any_eq_true.2 ⟨a,List.mem_of_getElem? ha,by simp [hb]⟩
     refine aM (hc) (by rfl) ?_;simp only [↓pre,simprocAttr,aA,sx,zK,aE,aC,hv.len',e1,e6,e5,bB,hx]
   ·have hlt':¬ (i:Int) < (l.length:Nat):=by omega
    have ht:l.take i=l:=List.take_of_length_le (by omega)
    rw [ht] at e5
    have hx:qC k r l=jO l:=by
     rw [qC,if_pos hl,if_neg]
     intro h
     obtain ⟨a,h1,h2⟩:=List.any_eq_true.1 h
     obtain ⟨j,hj,rfl⟩:=List.getElem_of_mem h1
     rw [hpre.out j _ (by omega) (List.getElem?_eq_getElem hj)] at h2
     cases h2
    replace hl:=aB.mk hl
    simp only [↓pre,simprocAttr,aA,sx,zK,aE,aC,hv.len',e1,e6,e5,hlt',decide_false,cW,hx]
 ·have hx:qC k r l=0:=by rw [qC,if_neg hl]
  refine aM (uP _ _ _ _ hm) (by rfl) ?_;simp only [↓pre,simprocAttr,aA,sx,zK,aE,aC,hv.len',hl,hx]
theorem cM {v:AV} {n:Nat} {cs:List AV} (h:bC v n cs) (m:aF):fz m v=some (v,m):=by
 rcases h.form with ⟨rfl,_⟩ | ⟨_,_,rfl,_⟩ | ⟨_,_,rfl,_⟩ <;> rfl
theorem b6 {v:AV} {n:Nat} {cs:List AV} (h:bC v n cs):dF v=true:=by
 rcases h.form with ⟨rfl,_⟩ | ⟨_,_,rfl,_⟩ | ⟨_,_,rfl,_⟩ <;> rfl
def iW (kd ix ce st:Int) (vv dv:AV):AV := .agg [.val (.int .u8 kd),aD ix,aD ce,aD st,vv,dv]
def eC (k r c w kd ix ce st:Int) (l:List Int) (dn:Nat):Bool :=
 decide (iV k r c w l=0) && (decide (st=jO l) && (decide (0≤ix∧ix < l.length) && ((decide (kd=1) || decide (kd=2)) && (decide (l[ix.toNat]? = some ce) && decide ((dn:Int)=c)))))
theorem arw (k r c w kd ix ce st:Int) (vv dv:AV) (l:List Int) (x:List AV) (dn:Nat) (y:List AV) (hv:bC vv l.length (cC l++x)) (hd:bC dv dn y) (hn:l.length≤1000000000000):aX Tryz.prog 172 [aA k r c w,iW kd ix ce st vv dv] ⟨bB (eC k r c w kd ix ce st l dn),[]⟩:=by
 have hc:=aru k r c w vv l x hv hn
 have hp:=hv.plain
 have f1:=cM hv
 have f2:=cM hd
 have o1:=b6 hv
 have o2:=b6 hd
 refine bE follows Tryz.func172 (by unfold Tryz.f172;rfl) (by unfold Tryz.f172;simp) aE (by unfold Tryz.f172;simp) (by kernel_rfl) ?_;unfold Tryz.f172
 unfold iW
 simp only [↓pre,simprocAttr,aA,sx,zC,aE,aC,f1,f2,o1,o2,hv.len',hd.len']
 refine aM hc (by simp only [eB,plain,aA,aD,hp,Bool.and_true,Bool.and_self]) ?_
 by_cases he:iV k r c w l=0
 ·by_cases hst:st=jO l
  ·subst hst
   by_cases h0:ix < 0
   ·have hx:eC k r c w kd ix ce (jO l) l dn=false:=by
     have:¬ (0≤ix∧ix < l.length):=by omega
     rw [eC,decide_eq_false this];simp
    simp only [↓pre,simprocAttr,aA,sx,zC,aE,aC,he,hv.len',h0,hx,bB,eq_self]
   ·obtain ⟨i,rfl⟩:∃ i:Nat,ix=(i:Nat):=⟨ix.toNat,by omega⟩
    by_cases h1:i < l.length
    ·have hlt:¬ ((l.length:Nat):Int)≤(i:Int):=by omega
     obtain ⟨a,ha⟩:∃ a,l[i]? = some a:=⟨_,List.getElem?_eq_getElem h1⟩
     have a1:=qT (x:=x) ha
     have hm:eC k r c w kd (i:Nat) ce (jO l) l dn=((decide (kd=1) || decide (kd=2)) && (decide (a=ce) && decide ((dn:Int)=c))):=by
      have:(0:Int)≤(i:Nat)∧((i:Nat):Int) < (l.length:Nat):=by omega
      rw [eC,decide_eq_true he,decide_eq_true (rfl:jO l=jO l),decide_eq_true this,Int.toNat_natCast,ha]
      simp
     rw [hm]
     replace ha:=aB.mk ha
     replace hm:=aB.mk hm
     simp only [↓pre,simprocAttr,aA,sx,zC,aE,aC,he,hv.len',hd.len',hv.addr',h0,hlt,h1,Nat.mul_one,a1,bB,eq_self];repeat' ((refine yW (fun _ => ?_) (fun _ => ?_)) <;> simp only [↓pre,simprocAttr,aA,sx,zC,aE,aC,he,hv.len',hd.len',hv.addr',h0,hlt,h1,Nat.mul_one,a1,bB,eq_self, *])
     all_goals (first | rfl | (rename_i hh;have h2:¬ a=ce:=fun e=>hh e.symm;rw [decide_eq_false h2];simp;done))
    ·have hge:((l.length:Nat):Int)≤(i:Int):=by omega
     have hx:eC k r c w kd (i:Nat) ce (jO l) l dn=false:=by
      have:¬ ((0:Int)≤(i:Nat)∧((i:Nat):Int) < (l.length:Nat)):=by omega
      rw [eC,decide_eq_false this];simp
     simp only [↓pre,simprocAttr,aA,sx,zC,aE,aC,he,hv.len',h0,hge,hx,bB,eq_self]
  ·have hx:eC k r c w kd ix ce st l dn=false:=by simp [eC,hst]
   simp only [↓pre,simprocAttr,aA,sx,zC,aE,aC,he,hst,hx,bB,eq_self]
 ·have hx:eC k r c w kd ix ce st l dn=false:=by simp [eC,he]
  simp only [↓pre,simprocAttr,aA,sx,zC,aE,aC,he,hx,bB,eq_self]
def aT (l:List UInt8):List AV:=l.map aU
theorem lR {bs:List UInt8} {x:List AV} {i:Nat} {a:UInt8} (h:bs[i]? = some a):(aT bs++x)[i]? = some (.val (.int .u8 a.toNat)):=by
 have hi:=(List.getElem?_eq_some_iff.1 h).1
 rw [List.getElem?_append_left (by simpa [aT] using hi)]
 simp [aT,h,aU]
theorem rY (bs:List UInt8) (x:List AV) (k:Nat) (hk:k≤bs.length):(aT bs++x).drop k=aT (bs.drop k)++x:=by
 rw [List.drop_append_of_le_length (by simpa [aT] using hk)]
 simp [aT,List.map_drop]
theorem arx {P:Program} {t:TypeId} {v:AV} {n k:Nat} {cs:List AV} (h:bC v n cs) (h1:((cD P t).bind (cH P)).isSome=true) (hk:0 < k) (hkn:k≤n):∃ v',kI P t none (some k) (some k) v=some v'∧bC v' k cs:=by
 obtain ⟨sz,hsz⟩:=Option.isSome_iff_exists.1 h1
 obtain ⟨el,hel,hsz⟩:=awC hsz
 rcases h.form with ⟨rfl,h0⟩ | ⟨_,_,rfl,h0⟩ | ⟨c,f,rfl,hc⟩
 ·omega
 ·omega
 ·refine ⟨.tree k k cs true, ?_,⟨.inr (.inr ⟨k,true,rfl,Nat.le_refl _⟩)⟩⟩
  simp only [kI,hel,hsz,cutE,Option.isSome_some,Option.isNone_some,Bool.and_false,Bool.false_eq_true,if_false,Option.bind_some,Option.getD_some,Option.getD_none]
  rw [if_pos (by omega),if_neg (by omega)]
  simp
def dN (l:List UInt8):Nat:=l.foldl (fun n b=>n*256+b.toNat) 0
theorem aek {l:List UInt8} {i:Nat} {a:UInt8} (h:l[i]? = some a):dN (l.take (i+1))=dN (l.take i)*256+a.toNat:=by
 rw [List.take_add_one,h]
 simp [dN]
theorem zO:∀ (i:Nat) (l:List UInt8),dN (l.take i) < 256 ^ i
 | 0,l=>by simp [dN]
 | i+1,l=>by
  by_cases h:i < l.length
  ·have ih:=zO i l
   have hb:=aek (List.getElem?_eq_getElem h)
   have ha:=(l[i]).toNat_lt
   rw [hb,Nat.pow_succ]
   omega
  ·have ih:=zO i l
   have e:l.take (i+1)=l.take i:=by rw [List.take_of_length_le (by omega),List.take_of_length_le (by omega)]
   rw [e,Nat.pow_succ]
   omega
theorem ary {P:Program} {m:aF} {v:AV} {n:Nat} {cs:List AV} (h:bC v n cs) (d:Nat) (ids:List (Nat×Nat)) (rows:List (TypeId×List AV)):canon P m d ids rows v=some (v,ids,rows):=by
 rcases h.form with ⟨rfl,_⟩ | ⟨_,_,rfl,_⟩ | ⟨_,_,rfl,_⟩ <;> (try unfold aO) <;> (cases d <;> (unfold canon;rfl))
theorem agz (v:AV) (bs:List UInt8) (x:List AV) (hv:bC v bs.length (aT bs++x)) (h4:4≤bs.length):∃ v',bC v' (bs.drop 4).length (aT (bs.drop 4)++x)∧aX Tryz.prog 171 [v] ⟨.tup [aD (dN (bs.take 4):Nat),v'],[]⟩:=by
 obtain ⟨v1,s1,r1⟩:=arx (P:=Tryz.prog) (t:=52) (k:=4) hv (by kernel_rfl) (by decide) h4
 obtain ⟨v2,s2,r2⟩:=hv.slice (P:=Tryz.prog) (t:=52) (sz:=1) (lo:=some 4) (hi:=none) (by kernel_rfl) (by simpa using h4) (by simp)
 simp only [Option.getD_some,Option.getD_none,Nat.mul_one] at r2
 rw [rY bs x 4 h4,←List.length_drop] at r2
 refine ⟨v2,r2, ?_⟩
 have hp:=hv.plain
 refine bE follows Tryz.func171 (by unfold Tryz.f171;rfl) (by unfold Tryz.f171;simp) aE (by unfold Tryz.f171;simp) (by kernel_rfl) ?_;unfold Tryz.f171
 have nt4:iA (.val (.int .i64 4))=some 4:=rfl
 simp only [↓pre,simprocAttr,aA,sx,agl,aE,aC,aL,c8,hv.slOk,hv.sliceX,s1,s2,nt4,bH,Option.map_some,Option.map_none,r1.len']
 rw [b9]
 refine cA (fun n e m=>∃ i,n+i=4∧e 0=v∧e 8=v1∧e 9=aD 4∧e 10=aD (i:Nat)∧e 4=aD (dN (bs.take i):Nat)) 4 ⟨0,by omega, ?_⟩ ?_
 ·simp [bN.set,nP,aD,dN]
 ·rintro n e m ⟨i,hi,e0,e8,e9,e10,e4⟩
  by_cases hlt:i < 4
  ·have hlt':(i:Int) < 4:=by omega
   obtain ⟨a,ha⟩:∃ a,bs[i]? = some a:=⟨_,List.getElem?_eq_getElem (by omega)⟩
   have a1:=lR (x:=x) ha
   have a2:=aek ha
   have hle:=zO i bs
   have ha256:=a.toNat_lt
   have w1:=cI (n:=i) (by omega)
   simp only [↓pre,simprocAttr,aA,sx,agl,aE,aC,aL,c8,e0,e8,e9,e10,e4,hlt',r1.addr',hlt,Nat.mul_one,a1,w1]
   have hpow:256 ^ i≤256 ^ 3:=Nat.pow_le_pow_right (by decide) (by omega)
   have h3:256 ^ 3=16777216:=by decide
   have w5:IntKind.i64.wrap (a.toNat:Int)=(a.toNat:Int):=dT (by omega)
   have w7:IntKind.i64.wrap (((dN (bs.take i):Nat):Int)*2 ^ min 8 IntKind.i64.bits)=((dN (bs.take i)*256:Nat):Int):=by
    rw [show (((dN (bs.take i):Nat):Int)*2 ^ min 8 IntKind.i64.bits)=((dN (bs.take i)*256:Nat):Int) by simp [IntKind.bits]]
    exact dT (by omega)
   have w8:aaK .i64 ((dN (bs.take i)*256:Nat):Int) (a.toNat:Int)=((dN (bs.take i)*256+a.toNat:Nat):Int):=by
    rw [akB (by omega) (by omega),akC (by omega)]
   exact ⟨n - 1,by omega,i+1,by omega,rfl,by rw [w7,w5,w8,a2]⟩
  ·have hlt':¬ (i:Int) < 4:=by omega
   have hi4:i=4:=by omega
   subst hi4
   simp only [↓pre,simprocAttr,aA,sx,agl,aE,aC,aL,c8,e0,e8,e9,e10,e4,hlt',decide_false,cW,hv.slOk,hv.sliceX,s2,nt4,bH,Option.map_some,Option.map_none,ary r2]
theorem arz {l:List UInt8} {i:Nat} {a b c d:UInt8} (h0:l[i]? = some a) (h1:l[i+1]? = some b) (h2:l[i+2]? = some c) (h3:l[i+3]? = some d):dN ((l.drop i).take 4)=((a.toNat*256+b.toNat)*256+c.toNat)*256+d.toNat:=by
 have e:(l.drop i).take 4=[a,b,c,d]:=by
  apply List.ext_getElem?
  intro j
  rw [List.getElem?_take]
  match j with
  | 0=>simpa using h0
  | 1=>simpa using h1
  | 2=>simpa using h2
  | 3=>simpa using h3
  | j+4=>simp;omega
 rw [e]
 simp [dN]
theorem agA (v:AV) (bs:List UInt8) (x:List AV) (i:Nat) (hv:bC v bs.length (aT bs++x)) (hi:i+4≤bs.length) (hn:bs.length≤1000000000000):aX Tryz.prog 320 [v,aD (i:Nat)] ⟨aD (dN ((bs.drop i).take 4):Nat),[]⟩:=by
 obtain ⟨a,ha⟩:∃ a,bs[i]? = some a:=⟨_,List.getElem?_eq_getElem (by omega)⟩
 obtain ⟨b,hb⟩:∃ a,bs[i+1]? = some a:=⟨_,List.getElem?_eq_getElem (by omega)⟩
 obtain ⟨c,hc⟩:∃ a,bs[i+2]? = some a:=⟨_,List.getElem?_eq_getElem (by omega)⟩
 obtain ⟨d,hd⟩:∃ a,bs[i+3]? = some a:=⟨_,List.getElem?_eq_getElem (by omega)⟩
 rw [arz ha hb hc hd]
 have a0:=lR (x:=x) ha
 have a1:=lR (x:=x) hb
 have a2:=lR (x:=x) hc
 have a3:=lR (x:=x) hd
 have l0:i < bs.length:=by omega
 have l1:i+1 < bs.length:=by omega
 have l2:i+2 < bs.length:=by omega
 have l3:i+3 < bs.length:=by omega
 have u0:=a.toNat_lt
 have u1:=b.toNat_lt
 have u2:=c.toNat_lt
 have u3:=d.toNat_lt
 have w0:IntKind.i64.wrap ((i:Int)+1)=((i+1:Nat):Int):=dT (n:=i+1) (by omega)
 have w1:IntKind.i64.wrap ((i:Int)+2)=((i+2:Nat):Int):=dT (n:=i+2) (by omega)
 have w2:IntKind.i64.wrap ((i:Int)+3)=((i+3:Nat):Int):=dT (n:=i+3) (by omega)
 have b0:∀ q:UInt8,IntKind.i64.wrap (q.toNat:Int)=(q.toNat:Int):=fun q=>dT (by have:=q.toNat_lt;omega)
 have m0:IntKind.i64.wrap ((a.toNat:Int)*256)=((a.toNat*256:Nat):Int):=dT (n:=a.toNat*256) (by omega)
 have s0:IntKind.i64.wrap (((a.toNat*256:Nat):Int)+(b.toNat:Int))=((a.toNat*256+b.toNat:Nat):Int):=dT (n:=a.toNat*256+b.toNat) (by omega)
 have m1:IntKind.i64.wrap (((a.toNat*256+b.toNat:Nat):Int)*256)=(((a.toNat*256+b.toNat)*256:Nat):Int):=dT (n:=(a.toNat*256+b.toNat)*256) (by omega)
 have s1:IntKind.i64.wrap ((((a.toNat*256+b.toNat)*256:Nat):Int)+(c.toNat:Int))=(((a.toNat*256+b.toNat)*256+c.toNat:Nat):Int):=dT (n:=(a.toNat*256+b.toNat)*256+c.toNat) (by omega)
 have m2:IntKind.i64.wrap ((((a.toNat*256+b.toNat)*256+c.toNat:Nat):Int)*256)=((((a.toNat*256+b.toNat)*256+c.toNat)*256:Nat):Int):=dT (n:=((a.toNat*256+b.toNat)*256+c.toNat)*256) (by omega)
 have s2:IntKind.i64.wrap (((((a.toNat*256+b.toNat)*256+c.toNat)*256:Nat):Int)+(d.toNat:Int))=((((a.toNat*256+b.toNat)*256+c.toNat)*256+d.toNat:Nat):Int):=dT (n:=((a.toNat*256+b.toNat)*256+c.toNat)*256+d.toNat) (by omega)
 have hp:=hv.plain
 refine bE follows Tryz.func320 (by unfold Tryz.f320;rfl) (by unfold Tryz.f320;simp) aE (by unfold Tryz.f320;simp) (by kernel_rfl) ?_;unfold Tryz.f320
 simp only [↓pre,simprocAttr,aA,sx,arb,aE,aC,aL,hv.addr',Nat.mul_one,a0,a1,a2,a3,l0,l1,l2,l3,w0,w1,w2,b0,m0,s0,m1,s1,m2,s2]
theorem arA {l:List Int} (h:l≠[]) (hv:∀ n∈l,1≤n):1≤jO l:=by
 have key:∀ (l:List Int) (m:Int),(0≤m)→m≤l.foldl max m:=by
  intro l
  induction l with
  | nil=>intro m _;exact Int.le_refl _
  | cons a l ih=>intro m hm;simp only [List.foldl_cons];have:=ih (max m a) (by omega);omega
 cases l with
 | nil=>exact absurd rfl h
 | cons a l =>
  have h1:=hv a (by simp)
  have:=key l (max 0 a) (by omega)
  simp only [jO,List.foldl_cons]
  omega
theorem arB {k r c w:Int} (hm:bU k r c w=true) (l:List Int):(0 < qC k r l↔iV k r c w l=0)∧(iV k r c w l=0→qC k r l=jO l∧(l.length:Int)=k+r):=by
 have hn:=g7 hm
 unfold qC iV
 rw [if_pos hm]
 by_cases hl:(l.length:Int)=k+r
 ·rw [if_pos hl,if_pos hl]
  by_cases ha:l.any (fun n => !g8 n)=true
  ·rw [if_pos ha,if_pos ha]
   exact ⟨by omega,fun h=>by omega⟩
  ·rw [if_neg ha,if_neg ha]
   have hp:1≤jO l:=arA (by intro e;subst e;simp at hl;omega) fun n hn=>by
    have h2:g8 n=true:=by
     cases hq:g8 n with
     | true=>rfl
     | false=>exact absurd (List.any_eq_true.2 ⟨n,hn,by simp [hq]⟩) ha
    simp [g8] at h2
    omega
   exact ⟨by omega,fun _=>⟨rfl,hl⟩⟩
 ·rw [if_neg hl,if_neg hl]
  exact ⟨by omega,fun h=>by omega⟩
theorem arC (k r c w kd ix ce st : Int) (hm : bU k r c w = true) (vv dv : AV) (l : List Int) (x : List AV) (dn : Nat) (y : List AV) (hv : bC vv l.length (cC l ++ x)) (hd : bC dv dn y) (hn : l.length ≤ 1000000000000) : aX Tryz.prog 321 [aA k r c w, iW kd ix ce st vv dv] ⟨bB (eC k r c w kd ix ce st l dn), []⟩ := by
 have hc := arv k r c w hm vv l x hv hn
 have hN := uP k r c w hm
 have hp := hv.plain
 have f1 := cM hv
 have f2 := cM hd
 have o1 := b6 hv
 have o2 := b6 hd
 obtain ⟨q1, q2⟩ := arB hm l
 refine bE follows Tryz.func321 (by unfold Tryz.f321; rfl) (by unfold Tryz.f321; simp) aE (by unfold Tryz.f321; simp) (by kernel_rfl) ?_; unfold Tryz.f321
 unfold iW
 by_cases hk : kd = 1 ∨ kd = 2
 · rcases hk with rfl | rfl
   · skip
     by_cases h0 : ix < 0
     · have hx : eC k r c w 1 ix ce st l dn = false := by
         have : ¬ (0 ≤ ix ∧ ix < l.length) := by omega
         rw [eC, decide_eq_false this]; simp
       simp only [↓pre, simprocAttr, aA, sx, lE, aE, aC, f1, f2, o1, o2, hv.len', hd.len', hv.addr', bB, eq_self, h0, hx]
     · by_cases hg : k + r ≤ ix
       · have hx : eC k r c w 1 ix ce st l dn = false := by
           by_cases he : iV k r c w l = 0
           · have := (q2 he).2
             have : ¬ (0 ≤ ix ∧ ix < l.length) := by omega
             rw [eC, decide_eq_false this]; simp
           · rw [eC, decide_eq_false he]; simp
         simp only [↓pre, simprocAttr, aA, sx, lE, aE, aC, f1, f2, o1, o2, hv.len', hd.len', hv.addr', bB, eq_self, h0]
         (refine cE (hN) (by rfl) (by intro k; rfl) ?_); simp only [↓pre, simprocAttr, aA, sx, lE, aE, aC, f1, f2, o1, o2, hv.len', hd.len', hv.addr', bB, eq_self, h0, hg, hx]
       · by_cases hdn : (dn : Int) = c
         · simp only [↓pre, simprocAttr, aA, sx, lE, aE, aC, f1, f2, o1, o2, hv.len', hd.len', hv.addr', bB, eq_self, h0]
           (refine cE (hN) (by rfl) (by intro k; rfl) ?_); simp only [↓pre, simprocAttr, aA, sx, lE, aE, aC, f1, f2, o1, o2, hv.len', hd.len', hv.addr', bB, eq_self, h0, hg, hdn]
           refine aM hc (by simp only [eB, plain, aA, aD, hp, Bool.and_true, Bool.and_self]) ?_
           by_cases hl0 : 0 < qC k r l
           · have he := q1.1 hl0
             obtain ⟨e1, e2⟩ := q2 he
             obtain ⟨i, rfl⟩ : ∃ i : Nat, ix = (i : Nat) := ⟨ix.toNat, by omega⟩
             have h1 : i < l.length := by omega
             obtain ⟨a, ha⟩ : ∃ a, l[i]? = some a := ⟨_, List.getElem?_eq_getElem h1⟩
             have a1 := qT (x := x) ha
             by_cases hst : st = qC k r l
             · have hx : eC k r c w 1 (i : Nat) ce st l dn = decide (ce = a) := by
                 have h3 : (0 : Int) ≤ (i : Nat) ∧ ((i : Nat) : Int) < (l.length : Nat) := by omega
                 rw [eC, decide_eq_true he, decide_eq_true (hst.trans e1), decide_eq_true h3, decide_eq_true hdn, Int.toNat_natCast, ha]
                 by_cases hca : ce = a
                 · simp [hca]
                 · have : ¬ a = ce := fun e => hca e.symm
                   simp [hca, this]
               rw [hx]
               clear hx
               replace e1 := aB.mk e1
               replace e2 := aB.mk e2
               replace he := aB.mk he
               simp only [↓pre, simprocAttr, aA, sx, lE, aE, aC, f1, f2, o1, o2, hv.len', hd.len', hv.addr', bB, eq_self, hl0, hst, h1, Nat.mul_one, a1]
             · have hx : eC k r c w 1 (i : Nat) ce st l dn = false := by
                 have : ¬ st = jO l := by rw [← e1]; exact hst
                 rw [eC, decide_eq_false this]; simp
               simp only [↓pre, simprocAttr, aA, sx, lE, aE, aC, f1, f2, o1, o2, hv.len', hd.len', hv.addr', bB, eq_self, hl0, hst, h1, Nat.mul_one, a1, hx]
           · have hx : eC k r c w 1 ix ce st l dn = false := by
               have he : ¬ iV k r c w l = 0 := fun h => hl0 (q1.2 h)
               rw [eC, decide_eq_false he]; simp
             simp only [↓pre, simprocAttr, aA, sx, lE, aE, aC, f1, f2, o1, o2, hv.len', hd.len', hv.addr', bB, eq_self, hl0, hx]
         · have hx : eC k r c w 1 ix ce st l dn = false := by
             rw [eC, decide_eq_false hdn]; simp
           simp only [↓pre, simprocAttr, aA, sx, lE, aE, aC, f1, f2, o1, o2, hv.len', hd.len', hv.addr', bB, eq_self, h0]
           (refine cE (hN) (by rfl) (by intro k; rfl) ?_); simp only [↓pre, simprocAttr, aA, sx, lE, aE, aC, f1, f2, o1, o2, hv.len', hd.len', hv.addr', bB, eq_self, h0, hg, hdn, hx]
   · skip
     by_cases h0 : ix < 0
     · have hx : eC k r c w 2 ix ce st l dn = false := by
         have : ¬ (0 ≤ ix ∧ ix < l.length) := by omega
         rw [eC, decide_eq_false this]; simp
       simp only [↓pre, simprocAttr, aA, sx, lE, aE, aC, f1, f2, o1, o2, hv.len', hd.len', hv.addr', bB, eq_self, h0, hx]
     · by_cases hg : k + r ≤ ix
       · have hx : eC k r c w 2 ix ce st l dn = false := by
           by_cases he : iV k r c w l = 0
           · have := (q2 he).2
             have : ¬ (0 ≤ ix ∧ ix < l.length) := by omega
             rw [eC, decide_eq_false this]; simp
           · rw [eC, decide_eq_false he]; simp
         simp only [↓pre, simprocAttr, aA, sx, lE, aE, aC, f1, f2, o1, o2, hv.len', hd.len', hv.addr', bB, eq_self, h0]
         (refine cE (hN) (by rfl) (by intro k; rfl) ?_); simp only [↓pre, simprocAttr, aA, sx, lE, aE, aC, f1, f2, o1, o2, hv.len', hd.len', hv.addr', bB, eq_self, h0, hg, hx]
       · by_cases hdn : (dn : Int) = c
         · simp only [↓pre, simprocAttr, aA, sx, lE, aE, aC, f1, f2, o1, o2, hv.len', hd.len', hv.addr', bB, eq_self, h0]
           (refine cE (hN) (by rfl) (by intro k; rfl) ?_); simp only [↓pre, simprocAttr, aA, sx, lE, aE, aC, f1, f2, o1, o2, hv.len', hd.len', hv.addr', bB, eq_self, h0, hg, hdn]
           refine aM hc (by simp only [eB, plain, aA, aD, hp, Bool.and_true, Bool.and_self]) ?_
           by_cases hl0 : 0 < qC k r l
           · have he := q1.1 hl0
             obtain ⟨e1, e2⟩ := q2 he
             obtain ⟨i, rfl⟩ : ∃ i : Nat, ix = (i : Nat) := ⟨ix.toNat, by omega⟩
             have h1 : i < l.length := by omega
             obtain ⟨a, ha⟩ : ∃ a, l[i]? = some a := ⟨_, List.getElem?_eq_getElem h1⟩
             have a1 := qT (x := x) ha
             by_cases hst : st = qC k r l
             · have hx : eC k r c w 2 (i : Nat) ce st l dn = decide (ce = a) := by
                 have h3 : (0 : Int) ≤ (i : Nat) ∧ ((i : Nat) : Int) < (l.length : Nat) := by omega
                 rw [eC, decide_eq_true he, decide_eq_true (hst.trans e1), decide_eq_true h3, decide_eq_true hdn, Int.toNat_natCast, ha]
                 by_cases hca : ce = a
                 · simp [hca]
                 · have : ¬ a = ce := fun e => hca e.symm
                   simp [hca, this]
               rw [hx]
               clear hx
               replace e1 := aB.mk e1
               replace e2 := aB.mk e2
               replace he := aB.mk he
               simp only [↓pre, simprocAttr, aA, sx, lE, aE, aC, f1, f2, o1, o2, hv.len', hd.len', hv.addr', bB, eq_self, hl0, hst, h1, Nat.mul_one, a1]
             · have hx : eC k r c w 2 (i : Nat) ce st l dn = false := by
                 have : ¬ st = jO l := by rw [← e1]; exact hst
                 rw [eC, decide_eq_false this]; simp
               simp only [↓pre, simprocAttr, aA, sx, lE, aE, aC, f1, f2, o1, o2, hv.len', hd.len', hv.addr', bB, eq_self, hl0, hst, h1, Nat.mul_one, a1, hx]
           · have hx : eC k r c w 2 ix ce st l dn = false := by
               have he : ¬ iV k r c w l = 0 := fun h => hl0 (q1.2 h)
               rw [eC, decide_eq_false he]; simp
             simp only [↓pre, simprocAttr, aA, sx, lE, aE, aC, f1, f2, o1, o2, hv.len', hd.len', hv.addr', bB, eq_self, hl0, hx]
         · have hx : eC k r c w 2 ix ce st l dn = false := by
             rw [eC, decide_eq_false hdn]; simp
           simp only [↓pre, simprocAttr, aA, sx, lE, aE, aC, f1, f2, o1, o2, hv.len', hd.len', hv.addr', bB, eq_self, h0]
           (refine cE (hN) (by rfl) (by intro k; rfl) ?_); simp only [↓pre, simprocAttr, aA, sx, lE, aE, aC, f1, f2, o1, o2, hv.len', hd.len', hv.addr', bB, eq_self, h0, hg, hdn, hx]
 · have hx : eC k r c w kd ix ce st l dn = false := by
     have h1 : ¬ kd = 1 := fun h => hk (.inl h)
     have h2 : ¬ kd = 2 := fun h => hk (.inr h)
     simp [eC, h1, h2]
   have h1 : ¬ kd = 1 := fun h => hk (.inl h)
   have h2 : ¬ kd = 2 := fun h => hk (.inr h)
   simp only [↓pre, simprocAttr, aA, sx, lE, aE, aC, f1, f2, o1, o2, hv.len', hd.len', h1, h2, hx, bB]
def vY (l l':List Int):Bool:=decide (l=l')
theorem arD (v v':AV) (l l':List Int) (x x':List AV) (hv:bC v l.length (cC l++x)) (hv':bC v' l'.length (cC l'++x')) (hn:l.length≤1000000000000) (hn':l'.length≤1000000000000):aX Tryz.prog 54 [v,v'] ⟨bB (vY l l'),[]⟩:=by
 refine bE follows Tryz.func54 (by unfold Tryz.f54;rfl) (by unfold Tryz.f54;simp) aE (by unfold Tryz.f54;simp) (by kernel_rfl) ?_;unfold Tryz.f54
 simp only [↓pre,simprocAttr,aA,sx,xJ,aE,aC,hv.len',hv'.len']
 refine ajb (fun he => ?_) (fun he => ?_)
 ·have hlen:l.length=l'.length:=by omega
  simp only [↓pre,simprocAttr,aA,sx,xJ,aE,aC,hv.len',hv'.len']
  rw [b9]
  refine cA (fun n e m=>∃ i,n+i=l.length∧e 0=v∧e 1=v'∧e 5=aD (i:Nat)∧∀ j,j < i→l[j]? = l'[j]?) l.length ⟨0,by omega, ?_⟩ ?_
  ·simp [bN.set,nP,aD]
  ·rintro n e m ⟨i,hi,e0,e1,e5,hpre⟩
   replace hpre:=aB.mk hpre
   replace hlen:=aB.mk hlen
   simp only [↓pre,simprocAttr,aA,sx,xJ,aE,aC,e0,e1,e5,hv.len',hv'.len']
   refine afT (fun hlt => ?_) (fun hlt => ?_)
   ·obtain ⟨z,hsr⟩:∃ r,l[i]? = some r:=⟨_,List.getElem?_eq_getElem (by omega)⟩
    obtain ⟨z',hsr'⟩:∃ r,l'[i]? = some r:=⟨_,List.getElem?_eq_getElem (by have:=hlen.out;omega)⟩
    have a1:=qT (x:=x) hsr
    have c1:=qT (x:=x') hsr'
    have hil:i < l.length:=by omega
    have hil':i < l'.length:=by have:=hlen.out;omega
    have w1:=cI (n:=i) (by omega)
    simp only [↓pre,simprocAttr,aA,sx,xJ,aE,aC,e0,e1,e5,hv.addr',hv'.addr',Nat.mul_one,a1,c1,hil,hil',w1]
    refine ajb (fun hq => ?_) (fun hq => ?_)
    ·simp only [↓pre,simprocAttr,aA,sx,xJ,aE,aC,e0,e1,e5,w1]
     refine ⟨n - 1,by omega,i+1,by omega,rfl,fun j hj => ?_⟩
     by_cases hji:j=i
     ·rw [hji,hsr,hsr',hq]
     ·exact hpre.out j (by omega)
    ·have hne:vY l l'=false:=by
      unfold vY
      simp only [decide_eq_false_iff_not]
      intro hll
      subst hll
      rw [hsr] at hsr'
      simp only [Option.some.injEq] at hsr'
      exact hq hsr'
     simp only [↓pre,simprocAttr,aA,sx,xJ,aE,aC,e0,e1,e5,hne,bB]
   ·have hall:vY l l'=true:=by
     unfold vY
     simp only [decide_eq_true_eq]
     refine List.ext_getElem? fun j => ?_
     by_cases hj:j < i
     ·exact hpre.out j hj
     ·have:=hlen.out
      rw [List.getElem?_eq_none (by omega),List.getElem?_eq_none (by omega)]
    simp only [↓pre,simprocAttr,aA,sx,xJ,aE,aC,e0,e1,e5,hall,bB]
 ·have hne:vY l l'=false:=by
   unfold vY
   simp only [decide_eq_false_iff_not]
   intro hll
   subst hll
   exact he rfl
  simp only [↓pre,simprocAttr,aA,sx,xJ,aE,aC,hne,bB]

theorem arE (z kd ix ce st:Int) (vv dv:AV):aX Tryz.prog 175 [aD z,.tptr 0 [.val (.int .u8 kd),aD ix,aD ce,aD st,vv,dv]] ⟨bB (!decide (z=ce)),[]⟩:=by
 refine bE follows Tryz.func175 (by unfold Tryz.f175;rfl) (by unfold Tryz.f175;simp) aE (by unfold Tryz.f175;simp) (by kernel_rfl) ?_;unfold Tryz.f175
 simp only [↓pre,simprocAttr,aA,sx,aq2,aE,bB]
def iX:Nat→Bool:=fun d=>d != 4
def mQ:AV:=iW 0 0 0 0 aO aO
theorem arF (k r c w:Int) (v:AV) (bs:List UInt8) (x:List AV) (hv:bC v bs.length (aT bs++x)) (hm:bU k r c w=false):aX Tryz.prog 93 [aA k r c w,v] ⟨.tup [mQ,bB false,aD 2],[]⟩:=by
 have hp:=hv.plain
 refine bE follows Tryz.func93 (by unfold Tryz.f93;rfl) (by unfold Tryz.f93;simp) iX (by unfold Tryz.f93;simp) (by kernel_rfl) ?_;unfold Tryz.f93
 simp only [↓pre,simprocAttr,aA,sx,kL,iX,Option.getD_some,bne,aC,aL,aK,aJ,eq_self,aG,aH]
 refine aM (zM k r c w) (by rfl) ?_;simp only [↓pre,simprocAttr,aA,sx,kL,iX,Option.getD_some,bne,aC,aL,aK,aJ,eq_self,aG,aH,hm,Bool.false_eq_true]
 rfl
theorem arG (k r c w:Int) (v:AV) (bs:List UInt8) (x:List AV) (hv:bC v bs.length (aT bs++x)) (hm:bU k r c w=true) (hb:(bs.length:Int)=0):aX Tryz.prog 93 [aA k r c w,v] ⟨.tup [mQ,bB false,aD 0],[]⟩:=by
 have hp:=hv.plain
 refine bE follows Tryz.func93 (by unfold Tryz.f93;rfl) (by unfold Tryz.f93;simp) iX (by unfold Tryz.f93;simp) (by kernel_rfl) ?_;unfold Tryz.f93
 simp only [↓pre,simprocAttr,aA,sx,kL,iX,Option.getD_some,bne,aC,aL,aK,aJ,eq_self,aG,aH]
 refine aM (zM k r c w) (by rfl) ?_;simp only [↓pre,simprocAttr,aA,sx,kL,iX,Option.getD_some,bne,aC,aL,aK,aJ,eq_self,aG,aH,hm,hv.len',hb]
 rfl
theorem arH (k r c w:Int) (v:AV) (bs:List UInt8) (x:List AV) (hv:bC v bs.length (aT bs++x)) (hm:bU k r c w=true) (hb:¬ (bs.length:Int)=0) (hb2:¬ (bs.length:Int)=d7 k r c):aX Tryz.prog 93 [aA k r c w,v] ⟨.tup [mQ,bB false,aD 100],[]⟩:=by
 have hp:=hv.plain
 refine bE follows Tryz.func93 (by unfold Tryz.f93;rfl) (by unfold Tryz.f93;simp) iX (by unfold Tryz.f93;simp) (by kernel_rfl) ?_;unfold Tryz.f93
 simp only [↓pre,simprocAttr,aA,sx,kL,iX,Option.getD_some,bne,aC,aL,aK,aJ,eq_self,aG,aH]
 refine aM (zM k r c w) (by rfl) ?_;simp only [↓pre,simprocAttr,aA,sx,kL,iX,Option.getD_some,bne,aC,aL,aK,aJ,eq_self,aG,aH,hm,hv.len',hb,hb2]
 rfl
theorem arI (k r c w:Int) (v:AV) (bs:List UInt8) (x:List AV) (hv:bC v bs.length (aT bs++x)) (hm:bU k r c w=true) (hb2:(bs.length:Int)=d7 k r c) {a b:UInt8} (ha:bs[0]? = some a) (hb:bs[1]? = some b) (hne:¬ ((a.toNat:Int)=84∧(b.toNat:Int)=50)):aX Tryz.prog 93 [aA k r c w,v] ⟨.tup [mQ,bB false,aD 0],[]⟩:=by
 have hp:=hv.plain
 have hmn:=g7 hm
 have a0:=lR (x:=x) ha
 have a1:=lR (x:=x) hb
 have l0:0 < bs.length:=by unfold d7 at hb2;omega
 have l1:1 < bs.length:=by unfold d7 at hb2;omega
 have hb1:¬ d7 k r c=0:=by rw [←hb2];omega
 replace hmn:=aB.mk hmn
 refine bE follows Tryz.func93 (by unfold Tryz.f93;rfl) (by unfold Tryz.f93;simp) iX (by unfold Tryz.f93;simp) (by kernel_rfl) ?_;unfold Tryz.f93
 simp only [↓pre,simprocAttr,aA,sx,kL,iX,Option.getD_some,bne,aC,aL,aK,aJ,eq_self,aG,aH]
 by_cases h1:(a.toNat:Int)=84
 ·have h2:¬ (b.toNat:Int)=50:=fun h=>hne ⟨h1,h⟩
  refine aM (zM k r c w) (by rfl) ?_;simp only [↓pre,simprocAttr,aA,sx,kL,iX,Option.getD_some,bne,aC,aL,aK,aJ,eq_self,aG,aH,hm,hv.len',hb2,hb1,hv.addr',l0,l1,Nat.mul_one,a0,a1,h1,h2]
  rfl
 ·refine aM (zM k r c w) (by rfl) ?_;simp only [↓pre,simprocAttr,aA,sx,kL,iX,Option.getD_some,bne,aC,aL,aK,aJ,eq_self,aG,aH,hm,hv.len',hb2,hb1,hv.addr',l0,l1,Nat.mul_one,a0,a1,h1]
  rfl
def gP (bs:List UInt8) (o:Nat):Int:=((dN ((bs.drop o).take 4):Nat):Int)
def jP (bs:List UInt8) (n:Nat):List Int:=(List.range n).map fun j=>gP bs (12+4*j)
theorem alQ (bs:List UInt8) (n:Nat):jP bs (n+1)=jP bs n++[gP bs (12+4*n)]:=by simp [jP,List.range_succ]
theorem abh (bs:List UInt8) (n:Nat):(jP bs n).length=n:=by simp [jP]
theorem acG (a b:List Int):cC (a++b)=cC a++cC b:=by simp [cC]
def zP (kd ix:Int) (bs:List UInt8) (N C:Nat):Bool→gJ
 | true=>⟨.tup [iW kd ix (gP bs 4) (gP bs 8) (.sl 0 0 N N false) (.sl 1 0 C C false),bB true,aD 0],[(3,cC (jP bs N)),(5,aT (bs.drop (12+4*N)))]⟩
 | false=>⟨.tup [mQ,bB false,aD 0],[]⟩
theorem arJ (k r c w:Int) (v:AV) (bs:List UInt8) (x:List AV) (hv:bC v bs.length (aT bs++x)) (hm:bU k r c w=true) (hb2:(bs.length:Int)=d7 k r c) {a2 a3:UInt8} (h0:bs[0]? = some 84) (h1:bs[1]? = some 50) (h2:bs[2]? = some a2) (h3:bs[3]? = some a3):aX Tryz.prog 93 [aA k r c w,v] (zP a2.toNat a3.toNat bs (k+r).toNat c.toNat (eC k r c w a2.toNat a3.toNat (gP bs 4) (gP bs 8) (jP bs (k+r).toNat) c.toNat)):=by
 have hp:=hv.plain
 have hmn:=g7 hm
 have b0:=lR (x:=x) h0
 have b1:=lR (x:=x) h1
 have b2:=lR (x:=x) h2
 have b3:=lR (x:=x) h3
 have l12:12≤bs.length:=by unfold d7 at hb2;omega
 have l0:0 < bs.length:=by omega
 have l1:1 < bs.length:=by omega
 have l2:2 < bs.length:=by omega
 have l3:3 < bs.length:=by omega
 have hb1:¬ d7 k r c=0:=by rw [←hb2];omega
 have c84:(((84:UInt8).toNat:Nat):Int)=84:=rfl
 have c50:(((50:UInt8).toNat:Nat):Int)=50:=rfl
 have w5:IntKind.i64.wrap (a3.toNat:Int)=(a3.toNat:Int):=dT (by have:=a3.toNat_lt;omega)
 have nt4:iA (.val (.int .i64 4))=some 4:=rfl
 replace hmn:=aB.mk hmn
 replace l12:=aB.mk l12
 obtain ⟨v1,s1,r1⟩:=hv.slice (P:=Tryz.prog) (t:=52) (sz:=1) (lo:=some 4) (hi:=none) (by kernel_rfl) (by have:=l12.out;simp only [Option.getD_some,Option.getD_none];omega) (by simp)
 simp only [Option.getD_some,Option.getD_none,Nat.mul_one] at r1
 rw [rY bs x 4 (by have:=l12.out;omega),←List.length_drop] at r1
 obtain ⟨v2,r2,t1⟩:=agz v1 (bs.drop 4) x r1 (by have:=l12.out;rw [List.length_drop];omega)
 obtain ⟨v3,r3,t2⟩:=agz v2 ((bs.drop 4).drop 4) x r2 (by have:=l12.out;simp only [List.length_drop];omega)
 have p1:=r1.plain
 have p2:=r2.plain
 have sh1:=cQ r1
 have sh2:=cQ r2
 have sh3:=cQ r3
 rw [List.drop_drop,List.drop_drop] at r3
 obtain ⟨N,hN⟩:∃ N:Nat,k+r=(N:Int):=⟨(k+r).toNat,by have:=hmn.out;omega⟩
 obtain ⟨C,hC⟩:∃ C:Nat,c=(C:Int):=⟨c.toNat,by have:=hmn.out;omega⟩
 have hNN:(k+r).toNat=N:=by omega
 have hCC:c.toNat=C:=by omega
 rw [hNN,hCC]
 generalize hres:zP _ _ _ _ _ _=res
 have hlen:bs.length=12+4*N+C:=by unfold d7 at hb2;omega
 have hN16:N≤16∧1≤N∧8≤C∧C≤64:=by have:=hmn.out;omega
 replace hlen:=aB.mk hlen
 replace hN:=aB.mk hN
 replace hN16:=aB.mk hN16
 have bt0:∀ m,eY Tryz.prog m 52 0 []=some ⟨.tree 0 0 [] true,m,none⟩:=fun m=>tI (el:=5) (sz:=1) (z:=[]) (by kernel_rfl) (by kernel_rfl) (by kernel_rfl) rfl rfl (by decide)
 refine bE follows Tryz.func93 (by unfold Tryz.f93;rfl) (by unfold Tryz.f93;simp) iX (by unfold Tryz.f93;simp) (by kernel_rfl) ?_;unfold Tryz.f93
 simp only [↓pre,simprocAttr,aA,sx,kL,iX,Option.getD_some,Option.getD_none,bne,aC,aL,aK,aJ,eq_self,aG,aH,Option.map_none,Option.map_some,bH]
 refine aM (zM k r c w) (by rfl) ?_;simp only [↓pre,simprocAttr,aA,sx,kL,iX,bne,aC,aL,aK,aJ,aG,aH,Option.map_none,Option.map_some,bH,hm,hv.len',hb2,hb1,hv.addr',l0,l1,l2,l3,b0,b1,b2,b3,c84,c50,w5,sr]
 refine dJ (by kernel_rfl) ?_
 simp only [↓pre,simprocAttr,aA,sx,kL,iX,Option.getD_some,Option.getD_none,bne,aC,aL,aK,aJ,eq_self,aG,aH,Option.map_none,Option.map_some,bH]
 refine dJ (by kernel_rfl) ?_
 simp only [↓pre,simprocAttr,aA,sx,kL,iX,Option.getD_some,Option.getD_none,bne,aC,aL,aK,aJ,eq_self,aG,aH,Option.map_none,Option.map_some,bH,hv.slOk,hv.sliceX,s1,nt4]
 refine aM (t1) (by simp only [aA,aV, *]) ?_;simp only [↓pre,simprocAttr,aA,sx,kL,iX,Option.getD_some,Option.getD_none,bne,aC,aL,aK,aJ,eq_self,aG,aH,Option.map_none,Option.map_some,bH,sh1,sh2,sh3];refine aM (t2) (by simp only [aA,aV, *]) ?_;simp only [↓pre,simprocAttr,aA,sx,kL,iX,Option.getD_some,Option.getD_none,bne,aC,aL,aK,aJ,eq_self,aG,aH,Option.map_none,Option.map_some,bH,sh1,sh2,sh3]
 rw [b9]
 refine cA (fun n e m=>∃ i,n+i=N∧e 2 = .tptr 0 [aD k,aD r,aD c,aD w]∧e 4 = .ptr 0 0∧bC (e 8) (bs.drop (12+4*i)).length (aT (bs.drop (12+4*i))++x)∧0 < m.next∧∃ vv,m.at_ 0=some ⟨[.val (.int .u8 a2.toNat),aD a3.toNat,aD (gP bs 4),aD (gP bs 8),vv,aO],127,.var,true⟩∧cY m 3 1 vv i (cC (jP bs i))) N ⟨0,by omega, ?_⟩ ?_
 ·refine ⟨rfl,rfl,by simpa [bN.set] using r3,by simp [aZ,aW],aO, ?_,fB⟩
  have e9:gP bs 8=((dN (List.take 4 (List.drop 4 (List.drop 4 bs))):Nat):Int):=by rw [List.drop_drop];rfl
  rw [e9];rfl
 ·rintro n e m ⟨i,hi,e2,e4,r8,hnx,vv,hm0,ho⟩
  by_cases hlt:i < N
  ·have l4:12+4*i+4+C≤bs.length:=by have:=hlen.out;omega
   have g1:((C:Nat):Int) < ((bs.drop (12+4*i)).length:Nat):=by rw [List.length_drop];omega
   obtain ⟨v9,r9,t9⟩:=agz (e 8) (bs.drop (12+4*i)) x r8 (by rw [List.length_drop];omega)
   have p8:=r8.plain
   have sh9:=cQ r9
   rw [←hC] at g1
   simp only [↓pre,simprocAttr,aA,sx,kL,iX,Option.getD_some,Option.getD_none,bne,aC,aL,aK,aJ,eq_self,aG,aH,Option.map_none,Option.map_some,bH,r8.len',e2,e4,g1]
   refine aM (t9) (by simp only [aA,aV, *]) ?_;simp only [↓pre,simprocAttr,aA,sx,kL,iX,Option.getD_some,Option.getD_none,bne,aC,aL,aK,aJ,eq_self,aG,aH,Option.map_none,Option.map_some,bH,sh9,e4,hm0]
   refine vN (sz:=1) (y:=8) (zl:=[.int .i64 0]) (by kernel_rfl) ho (by kernel_rfl) (by kernel_rfl) (by kernel_rfl) rfl l8 (by rfl) (by have:=hN16.out;omega) (by have:=hN16.out;omega) ?_
   intro vv' m' ho' hnx' hkeep hbl
   have hm0':=hkeep 0 _ hm0 hnx (ho.ne_kind hm0 (fun h=>by cases h))
   obtain ⟨b',rfl,hb',hlt'⟩:=ho'.sl (by omega)
   simp only [↓pre,simprocAttr,aA,sx,kL,iX,Option.getD_some,Option.getD_none,bne,aC,aL,aK,aJ,eq_self,aG,aH,Option.map_none,Option.map_some,bH,e2,e4,hm0']
   refine ⟨n - 1,by omega,i+1,by omega, ?_,by omega,.sl b' 0 (i+1) (i+1) false,rfl, ?_⟩
   ·rw [List.drop_drop] at r9
    exact r9
   ·rw [alQ,acG]
    exact ho'.put_kind hm0' (fun h=>by cases h)
  ·have hiN:i=N:=by omega
   subst hiN
   have hdl:(bs.drop (12+4*i)).length=C:=by have:=hlen.out;rw [List.length_drop];omega
   rw [hdl] at r8
   have g1:¬ ((C:Nat):Int) < ((C:Nat):Int):=by omega
   rw [←hC] at g1
   simp only [↓pre,simprocAttr,aA,sx,kL,iX,bne,aC,aL,aK,aJ,aG,aH,Option.map_none,Option.map_some,bH,r8.len',e2,e4,hC.symm,g1,bt0,sr]
   have hsrc:eZ Tryz.prog 5 1 m (e 8)=some (aT (bs.drop (12+4*i)),C):=by
    have hq:=r8.src (P:=Tryz.prog) (m:=m) (el:=5) (sz:=1) (by rw [Nat.mul_one,List.length_append];simp [aT];have:=hlen.out;omega)
    rw [hq,Nat.mul_one,List.take_left' (by simp [aT];have:=hlen.out;omega)]
   rw [af9 (sz:=1) (y:=1) (zl:=[.int .u8 0]) rfl (by kernel_rfl) (by kernel_rfl) (by kernel_rfl) rfl hsrc (by have:=hN16.out;omega) (by have:=hN16.out;omega) (by have:=hN16.out;omega)]
   have h0n:¬ 0=m.next:=by omega
   have h1n:¬ m.next=0:=by omega
   have hbk:=ho.ne_kind hm0 (fun h=>by cases h)
   obtain ⟨b,rfl,hb,hlt⟩:=ho.sl (by have:=hN16.out;omega)
   have hb0:b≠0:=fun h=>hbk (by rw [h];rfl)
   simp only [↓pre,simprocAttr,aA,sx,kL,iX,Option.getD_some,Option.getD_none,bne,aC,aL,aK,aJ,eq_self,aG,aH,Option.map_none,Option.map_some,bH,e2,e4,hm0,h0n,h1n]
   generalize hm2:aF.put _ _ _=m2
   have q0:m2.at_ 0=some ⟨[.val (.int .u8 a2.toNat),aD a3.toNat,aD (gP bs 4),aD (gP bs 8),.sl b 0 i i false,.sl m.next 0 C C false],127,.var,true⟩:=by rw [←hm2,aG,if_pos rfl];rfl
   have q1:m2.at_ b=some ⟨cC (jP bs i),3,.flat,true⟩:=by rw [←hm2,aG,if_neg hb0,aH,if_neg (by omega)];exact hb
   have q2:m2.at_ m.next=some ⟨aT (bs.drop (12+4*i)),5,.flat,true⟩:=by rw [←hm2,aG,if_neg h1n,aH,if_pos rfl]
   have hbn:¬ m.next=b:=by omega
   generalize m.next=b2 at *
   have hil:(jP bs i).length=i:=abh bs i
   refine aaJ (arw k r c w a2.toNat a3.toNat (gP bs 4) (gP bs 8) (.tree i i (cC (jP bs i)) false) (.tree C C (aT (bs.drop (12+4*i))) false) (jP bs i) [] C (aT (bs.drop (12+4*i))) ⟨.inr (.inr ⟨i,false,by rw [hil,List.append_nil],by rw [hil];exact Nat.le_refl _⟩)⟩ ⟨.inr (.inr ⟨C,false,rfl,Nat.le_refl _⟩)⟩ (by rw [hil];have:=hN16.out;omega)) (by simp [eM,lend,q1,q2,aA,iW,aD]) rfl rfl ?_
   rw [←hres]
   cases hms:eC k r c w a2.toNat a3.toNat (gP bs 4) (gP bs 8) (jP bs i) C
   ·simp only [↓pre,simprocAttr,aA,sx,kL,iX,bne,aC,aL,aK,aJ,aG,aH,Option.map_none,Option.map_some,bH,e2,e4,q0,iW,aO,sr]
    rfl
   ·have k3:bW Tryz.prog 3 = .flat:=by kernel_rfl
    have k5:bW Tryz.prog 5 = .flat:=by kernel_rfl
    have hbn':¬ b=b2:=fun h=>hbn h.symm
    simp only [↓pre,simprocAttr,aA,sx,kL,iX,bne,aC,aL,aK,aJ,aG,aH,Option.map_none,Option.map_some,bH,e2,e4,q0,iW,sr]
    simp only [hb0,h1n,q1,q2,k3,k5,if_false,if_true,Option.bind_some,Option.map_some,List.any_nil,Bool.false_eq_true,ne_eq,not_true_eq_false,or_self,List.any_cons,beq_iff_eq,hbn',hbn,Bool.or_false,List.nil_append,List.drop_zero,beq_eq_false_iff_ne.2 hbn']
    rfl
structure qU where
 kd:Int
 ix:Int
 ce:Int
 st:Int
 vec:List Int
 data:List UInt8
def cV (k r:Int) (bs:List UInt8):qU:=⟨(bs.getD 2 0).toNat,(bs.getD 3 0).toNat,gP bs 4,gP bs 8,jP bs (k+r).toNat,bs.drop (12+4*(k+r).toNat)⟩
def qU.v (s:qU):AV:=iW s.kd s.ix s.ce s.st (.tree s.vec.length s.vec.length (cC s.vec) false) (.tree s.data.length s.data.length (aT s.data) false)
def tO (k r c w:Int) (s:qU):Bool:=eC k r c w s.kd s.ix s.ce s.st s.vec s.data.length
def eR (k r c w:Int) (bs:List UInt8):Bool:=decide ((bs.length:Int)=d7 k r c) && (decide (bs[0]? = some 84) && (decide (bs[1]? = some 50) && tO k r c w (cV k r bs)))
def oX (k r c w:Int) (bs:List UInt8):AV:=if bU k r c w=true∧eR k r c w bs=true then .tup [(cV k r bs).v,bB true,aD 0] else .tup [mQ,bB false,aD (if bU k r c w=false then 2 else if (bs.length:Int)=0 then 0 else if (bs.length:Int)=d7 k r c then 0 else 100)]
theorem alR (k r c w:Int) (v:AV) (bs:List UInt8) (x:List AV) (hv:bC v bs.length (aT bs++x)):aX Tryz.prog 93 [aA k r c w,v] ⟨oX k r c w bs,[]⟩:=by
 cases hm:bU k r c w with
 | false =>
  have:=arF k r c w v bs x hv hm
  simpa [oX,hm] using this
 | true =>
  have hmn:=g7 hm
  by_cases hl:(bs.length:Int)=0
  ·have h1:eR k r c w bs=false:=by
    have:¬ (bs.length:Int)=d7 k r c:=by rw [hl];unfold d7;omega
    unfold eR;rw [decide_eq_false this];rfl
   have:=arG k r c w v bs x hv hm hl
   simpa [oX,hm,h1,hl] using this
  ·by_cases hs:(bs.length:Int)=d7 k r c
   ·have l12:12≤bs.length:=by unfold d7 at hs;omega
    obtain ⟨a0,h0⟩:∃ a,bs[0]? = some a:=⟨_,List.getElem?_eq_getElem (by omega)⟩
    obtain ⟨a1,h1⟩:∃ a,bs[1]? = some a:=⟨_,List.getElem?_eq_getElem (by omega)⟩
    obtain ⟨a2,h2⟩:∃ a,bs[2]? = some a:=⟨_,List.getElem?_eq_getElem (by omega)⟩
    obtain ⟨a3,h3⟩:∃ a,bs[3]? = some a:=⟨_,List.getElem?_eq_getElem (by omega)⟩
    by_cases hmg:a0=84∧a1=50
    ·obtain ⟨rfl,rfl⟩:=hmg
     have hq:=arJ k r c w v bs x hv hm hs h0 h1 h2 h3
     have hvl:(cV k r bs).vec.length=(k+r).toNat:=abh _ _
     have hdl:(cV k r bs).data.length=c.toNat:=by simp only [cV,List.length_drop];unfold d7 at hs;omega
     have e2:(bs.getD 2 0)=a2:=by rw [List.getD_eq_getElem?_getD,h2];rfl
     have e3:(bs.getD 3 0)=a3:=by rw [List.getD_eq_getElem?_getD,h3];rfl
     have hmay:tO k r c w (cV k r bs)=eC k r c w a2.toNat a3.toNat (gP bs 4) (gP bs 8) (jP bs (k+r).toNat) c.toNat:=by
      unfold tO;rw [hdl];simp only [cV,e2,e3]
     have hsl:eR k r c w bs=tO k r c w (cV k r bs):=by unfold eR;rw [decide_eq_true hs,decide_eq_true h0,decide_eq_true h1];rfl
     rw [←hmay] at hq
     cases hb:tO k r c w (cV k r bs) with
     | false =>
      rw [hb] at hq
      simpa [oX,hm,hsl,hb,hl,hs,zP] using hq
     | true =>
      rw [hb] at hq
      have k3:bW Tryz.prog 3 = .flat:=by kernel_rfl
      have k5:bW Tryz.prog 5 = .flat:=by kernel_rfl
      have:=yY 1 hq (by simp [zP,iU,j5,iW,aD,bB,k3,k5])
      have hv2:oX k r c w bs=fM Tryz.prog (zP a2.toNat a3.toNat bs (k+r).toNat c.toNat true).rows 1 (zP a2.toNat a3.toNat bs (k+r).toNat c.toNat true).v:=by
       unfold oX
       rw [if_pos ⟨hm,by rw [hsl,hb]⟩]
       simp [zP,fM,iF,iW,aD,bB,k3,k5,qU.v,hvl,hdl]
       simp [cV,h2,h3]
      rw [hv2]
      exact this
    ·have hne:¬ ((a0.toNat:Int)=84∧(a1.toNat:Int)=50):=by
      rintro ⟨h3,h4⟩
      exact hmg ⟨UInt8.toNat_inj.1 (by simp;omega),UInt8.toNat_inj.1 (by simp;omega)⟩
     have hsl:eR k r c w bs=false:=by
      unfold eR
      rw [h0,h1]
      by_cases h5:a0=84
      ·have h6:¬ a1=50:=fun h=>hmg ⟨h5,h⟩
       simp [h6]
      ·simp [h5]
     have:=arI k r c w v bs x hv hm hs h0 h1 hne
     simpa [oX,hm,hsl,hl,hs] using this
   ·have h1:eR k r c w bs=false:=by unfold eR;rw [decide_eq_false hs];rfl
    have:=arH k r c w v bs x hv hm hl hs
    have hne:bs≠[]:=by rintro rfl;exact hl rfl
    simpa [oX,hm,h1,hne,hs] using this
def jQ:Nat→Bool:=fun d=>d != 4 && (d != 6 && (d != 47 && d != 57))
def zQ (k r c w:Int) (bs:List UInt8):AV := .tup [if eR k r c w bs=true then (cV k r bs).v else mQ,bB (eR k r c w bs)]
theorem arK (k r c w:Int) (v:AV) (bs:List UInt8) (x:List AV) (hv:bC v bs.length (aT bs++x)) (hm:bU k r c w=true) (hb2:¬ (bs.length:Int)=d7 k r c):aX Tryz.prog 288 [aA k r c w,v] ⟨.tup [mQ,bB false],[]⟩:=by
 have hp:=hv.plain
 have hmn:=g7 hm
 replace hmn:=aB.mk hmn
 refine bE follows Tryz.func288 (by unfold Tryz.f288;rfl) (by unfold Tryz.f288;simp) jQ (by unfold Tryz.f288;simp) (by kernel_rfl) ?_;unfold Tryz.f288
 simp only [↓pre,simprocAttr,aA,sx,lD,jQ,bne,aC,aL,aK,aJ,aG,aH,Option.map_none,Option.map_some,bH,hv.len',sr]
 refine aM (abg k r c w hm) (by rfl) ?_;simp only [↓pre,simprocAttr,aA,sx,lD,jQ,bne,aC,aL,aK,aJ,aG,aH,Option.map_none,Option.map_some,bH,hv.len',hb2,sr]
 rfl
theorem arL (k r c w:Int) (v:AV) (bs:List UInt8) (x:List AV) (hv:bC v bs.length (aT bs++x)) (hm:bU k r c w=true) (hb2:(bs.length:Int)=d7 k r c) {a b:UInt8} (ha:bs[0]? = some a) (hb:bs[1]? = some b) (hne:¬ ((a.toNat:Int)=84∧(b.toNat:Int)=50)):aX Tryz.prog 288 [aA k r c w,v] ⟨.tup [mQ,bB false],[]⟩:=by
 have hp:=hv.plain
 have hmn:=g7 hm
 have a0:=lR (x:=x) ha
 have a1:=lR (x:=x) hb
 have l0:0 < bs.length:=by unfold d7 at hb2;omega
 have l1:1 < bs.length:=by unfold d7 at hb2;omega
 replace hmn:=aB.mk hmn
 refine bE follows Tryz.func288 (by unfold Tryz.f288;rfl) (by unfold Tryz.f288;simp) jQ (by unfold Tryz.f288;simp) (by kernel_rfl) ?_;unfold Tryz.f288
 simp only [↓pre,simprocAttr,aA,sx,lD,jQ,bne,aC,aL,aK,aJ,aG,aH,Option.map_none,Option.map_some,bH,hv.len',sr]
 by_cases h1:(a.toNat:Int)=84
 ·have h2:¬ (b.toNat:Int)=50:=fun h=>hne ⟨h1,h⟩
  refine aM (abg k r c w hm) (by rfl) ?_;simp only [↓pre,simprocAttr,aA,sx,lD,jQ,bne,aC,aL,aK,aJ,aG,aH,Option.map_none,Option.map_some,bH,hv.len',hb2,hv.addr',l0,l1,a0,a1,h1,h2,sr]
  rfl
 ·refine aM (abg k r c w hm) (by rfl) ?_;simp only [↓pre,simprocAttr,aA,sx,lD,jQ,bne,aC,aL,aK,aJ,aG,aH,Option.map_none,Option.map_some,bH,hv.len',hb2,hv.addr',l0,l1,a0,a1,h1,sr]
  rfl
def zR (kd ix:Int) (bs:List UInt8) (N C:Nat):Bool→gJ
 | true=>⟨.tup [iW kd ix (gP bs 4) (gP bs 8) (.sl 0 0 N N false) (.sl 1 0 C C false),bB true],[(3,cC (jP bs N)),(5,aT (bs.drop (12+4*N)))]⟩
 | false=>⟨.tup [mQ,bB false],[]⟩
theorem arM (k r c w:Int) (v:AV) (bs:List UInt8) (x:List AV) (hv:bC v bs.length (aT bs++x)) (hm:bU k r c w=true) (hb2:(bs.length:Int)=d7 k r c) {a2 a3:UInt8} (h0:bs[0]? = some 84) (h1:bs[1]? = some 50) (h2:bs[2]? = some a2) (h3:bs[3]? = some a3):aX Tryz.prog 288 [aA k r c w,v] (zR a2.toNat a3.toNat bs (k+r).toNat c.toNat (eC k r c w a2.toNat a3.toNat (gP bs 4) (gP bs 8) (jP bs (k+r).toNat) c.toNat)):=by
 have hp:=hv.plain
 have hmn:=g7 hm
 have b0:=lR (x:=x) h0
 have b1:=lR (x:=x) h1
 have b2:=lR (x:=x) h2
 have b3:=lR (x:=x) h3
 have l12:12≤bs.length:=by unfold d7 at hb2;omega
 have l0:0 < bs.length:=by omega
 have l1:1 < bs.length:=by omega
 have l2:2 < bs.length:=by omega
 have l3:3 < bs.length:=by omega
 have c84:(((84:UInt8).toNat:Nat):Int)=84:=rfl
 have c50:(((50:UInt8).toNat:Nat):Int)=50:=rfl
 have w5:IntKind.i64.wrap (a3.toNat:Int)=(a3.toNat:Int):=dT (by have:=a3.toNat_lt;omega)
 obtain ⟨N,hN⟩:∃ N:Nat,k+r=(N:Int):=⟨(k+r).toNat,by omega⟩
 obtain ⟨C,hC⟩:∃ C:Nat,c=(C:Int):=⟨c.toNat,by omega⟩
 have hNN:(k+r).toNat=N:=by omega
 have hCC:c.toNat=C:=by omega
 rw [hNN,hCC]
 generalize hres:zR _ _ _ _ _ _=res
 have hlen:bs.length=12+4*N+C:=by unfold d7 at hb2;omega
 have hN16:N≤16∧1≤N∧8≤C∧C≤64:=by omega
 have n4:=agA v bs x 4 hv (by omega) (by omega)
 have n8:=agA v bs x 8 hv (by omega) (by omega)
 replace hlen:=aB.mk hlen
 replace hN16:=aB.mk hN16
 replace hmn:=aB.mk hmn
 replace l12:=aB.mk l12
 refine bE follows Tryz.func288 (by unfold Tryz.f288;rfl) (by unfold Tryz.f288;simp) jQ (by unfold Tryz.f288;simp) (by kernel_rfl) ?_;unfold Tryz.f288
 simp only [↓pre,simprocAttr,aA,sx,lD,jQ,bne,aC,aL,aK,aJ,aG,aH,Option.map_none,Option.map_some,bH,hv.len',sr]
 refine aM (abg k r c w hm) (by rfl) ?_;simp only [↓pre,simprocAttr,aA,sx,lD,jQ,bne,aC,aL,aK,aJ,aG,aH,Option.map_none,Option.map_some,bH,hv.len',hb2,hv.addr',l0,l1,l2,l3,b0,b1,b2,b3,c84,c50,w5,sr];(refine cE (n4) (by simp only [aA,aV, *]) (by intro k;rfl) ?_);simp only [↓pre,simprocAttr,aA,sx,lD,jQ,bne,aC,aL,aK,aJ,aG,aH,Option.map_none,Option.map_some,bH,hv.len',hb2,hv.addr',l0,l1,l2,l3,b0,b1,b2,b3,c84,c50,w5,sr];(refine cE (n8) (by simp only [aA,aV, *]) (by intro k;rfl) ?_);simp only [↓pre,simprocAttr,aA,sx,lD,jQ,bne,aC,aL,aK,aJ,aG,aH,Option.map_none,Option.map_some,bH,hv.len',hb2,hv.addr',l0,l1,l2,l3,b0,b1,b2,b3,c84,c50,w5,sr]
 refine dJ (by kernel_rfl) ?_
 simp only [↓pre,simprocAttr,aA,sx,lD,jQ,bne,aC,aL,aK,aJ,aG,aH,Option.map_none,Option.map_some,bH,sr]
 refine dJ (by kernel_rfl) ?_
 simp only [↓pre,simprocAttr,aA,sx,lD,jQ,bne,aC,aL,aK,aJ,aG,aH,Option.map_none,Option.map_some,bH,hv.len',sr]
 refine aM (uP k r c w hm) (by rfl) ?_;simp only [↓pre,simprocAttr,aA,sx,lD,jQ,bne,aC,aL,aK,aJ,aG,aH,Option.map_none,Option.map_some,bH,hN,sr]
 rw [b9]
 refine cA (fun n e m=>∃ i,n+i=N∧e 1=v∧e 2 = .tptr 0 [aD k,aD r,aD c,aD w]∧e 4 = .ptr 0 0∧e 6 = .ptr 1 0∧e 7=aD (N:Nat)∧e 8=aD (i:Nat)∧1 < m.next∧m.at_ 0=some ⟨[.val (.int .u8 0),aD 0,aD 0,aD 0,aO,aO],127,.var,true⟩∧∃ vv,m.at_ 1=some ⟨[.val (.int .u8 a2.toNat),aD a3.toNat,aD (gP bs 4),aD (gP bs 8),vv,aO],127,.var,true⟩∧cY m 3 1 vv i (cC (jP bs i))) N ⟨0,by omega, ?_⟩ ?_
 ·refine ⟨rfl,rfl,rfl,rfl, ?_,rfl,by simp [aZ,aW,aF.empty],rfl,aO, ?_,fB⟩
  ·simp [bN.set,hN,aD]
  ·rfl
 ·rintro n e m ⟨i,hi,e1,e2,e4,e6,e7,e8,hnx,hm0,vv,hm1,ho⟩
  by_cases hlt:i < N
  ·have l4:12+4*i+4+C≤bs.length:=by have:=hlen.out;omega
   have g1:((i:Nat):Int) < ((N:Nat):Int):=by omega
   have hn16:=hN16.out
   have wa:IntKind.i64.wrap (4*(i:Int))=((4*i:Nat):Int):=by rw [show (4*(i:Int))=((4*i:Nat):Int) by simp];exact dT (by omega)
   have wb:IntKind.i64.wrap (12+((4*i:Nat):Int))=((12+4*i:Nat):Int):=by rw [show (12+((4*i:Nat):Int))=((12+4*i:Nat):Int) by simp];exact dT (by omega)
   have w1:=cI (n:=i) (by omega)
   have ni:=agA v bs x (12+4*i) hv (by omega) (by have:=hlen.out;omega)
   replace hn16:=aB.mk hn16
   simp only [↓pre,simprocAttr,aA,sx,lD,jQ,bne,aC,aL,aK,aJ,aG,aH,Option.map_none,Option.map_some,bH,e1,e2,e4,e6,e7,e8,g1,hm1,wa,wb,sr]
   (refine cE (ni) (by simp only [aA,aV, *]) (by intro k;rfl) ?_);simp only [↓pre,simprocAttr,aA,sx,lD,jQ,bne,aC,aL,aK,aJ,aG,aH,Option.map_none,Option.map_some,bH,e1,e2,e4,e6,e7,e8,g1,hm1,sr]
   refine vN (sz:=1) (y:=8) (zl:=[.int .i64 0]) (by kernel_rfl) ho (by kernel_rfl) (by kernel_rfl) (by kernel_rfl) rfl l8 (by rfl) (by have:=hN16.out;omega) (by have:=hN16.out;omega) ?_
   intro vv' m' ho' hnx' hkeep hbl
   have hm1':=hkeep 1 _ hm1 hnx (ho.ne_kind hm1 (fun h=>by cases h))
   have hm0':=hkeep 0 _ hm0 (by omega) (ho.ne_kind hm0 (fun h=>by cases h))
   obtain ⟨b',rfl,hb',hlt'⟩:=ho'.sl (by omega)
   refine dJ (by kernel_rfl) ?_
   simp only [↓pre,simprocAttr,aA,sx,lD,jQ,bne,aC,aL,aK,aJ,aG,aH,Option.map_none,Option.map_some,bH,e1,e2,e4,e6,e7,e8,hm1',sr]
   refine dJ (by kernel_rfl) ?_
   simp only [↓pre,simprocAttr,aA,sx,lD,jQ,bne,aC,aL,aK,aJ,aG,aH,Option.map_none,Option.map_some,bH,e1,e2,e4,e6,e7,e8,hm1',hm0',w1,sr]
   refine ⟨n - 1,by omega,i+1,by omega,rfl,by omega,.sl b' 0 (i+1) (i+1) false,rfl, ?_⟩
   rw [alQ,acG]
   exact ho'.put_kind hm1' (fun h=>by cases h)
  ·have hiN:i=N:=by omega
   subst hiN
   have hdl:(bs.drop (12+4*i)).length=C:=by have:=hlen.out;rw [List.length_drop];omega
   have g1:¬ ((i:Nat):Int) < ((i:Nat):Int):=by omega
   have hn16:=hN16.out
   have wa:IntKind.i64.wrap (4*(i:Int))=((4*i:Nat):Int):=by rw [show (4*(i:Int))=((4*i:Nat):Int) by simp];exact dT (by omega)
   have wb:IntKind.i64.wrap (12+((4*i:Nat):Int))=((12+4*i:Nat):Int):=by rw [show (12+((4*i:Nat):Int))=((12+4*i:Nat):Int) by simp];exact dT (by omega)
   obtain ⟨v5,s5,r5⟩:=hv.slice (P:=Tryz.prog) (t:=52) (sz:=1) (lo:=some (12+4*i)) (hi:=none) (by kernel_rfl) (by have:=hlen.out;simp only [Option.getD_some,Option.getD_none];omega) (by simp)
   simp only [Option.getD_some,Option.getD_none,Nat.mul_one] at r5
   rw [rY bs x _ (by have:=hlen.out;omega),←List.length_drop,hdl] at r5
   replace hn16:=aB.mk hn16
   simp only [↓pre,simprocAttr,aA,sx,lD,jQ,bne,aC,aL,aK,aJ,aG,aH,Option.map_none,Option.map_some,bH,e1,e2,e4,e6,e7,e8,g1,decide_false,hm1,wa,wb,hv.slOk,hv.sliceX,s5,sr]
   have hsrc:eZ Tryz.prog 5 1 m v5=some (aT (bs.drop (12+4*i)),C):=by
    have hq:=r5.src (P:=Tryz.prog) (m:=m) (el:=5) (sz:=1) (by rw [Nat.mul_one,List.length_append];simp [aT];have:=hlen.out;omega)
    rw [hq,Nat.mul_one,List.take_left' (by simp [aT];have:=hlen.out;omega)]
   have hm0b:=ho.ne_kind hm0 (fun h=>by cases h)
   have hm1b:=ho.ne_kind hm1 (fun h=>by cases h)
   refine vN (kd := .flat) (sz:=1) (y:=1) (zl:=[.int .u8 0]) (by kernel_rfl) fB (by kernel_rfl) (by kernel_rfl) (by kernel_rfl) rfl hsrc (by simp [aT];have:=hlen.out;omega) (by have:=hN16.out;omega) (by have:=hN16.out;omega) ?_
   intro dv m' hd hnx' hkeep hbl
   obtain ⟨b2,rfl,hb2',hlt2⟩:=hd.sl (by have:=hN16.out;omega)
   obtain ⟨b,rfl,hb,hlt1⟩:=ho.sl (by have:=hN16.out;omega)
   have hm1':=hkeep 1 _ hm1 hnx (fun h=>by cases h)
   have hm0':=hkeep 0 _ hm0 (by omega) (fun h=>by cases h)
   have hb':=hkeep b _ hb hlt1 (fun h=>by cases h)
   have hb0:¬ b=0:=fun h=>hm0b (by rw [h];rfl)
   have hb1:¬ b=1:=fun h=>hm1b (by rw [h];rfl)
   have hb2n:b2=m.next:=by
    rcases hbl b2 rfl with h | h
    ·exact h
    ·cases h
   have h20:¬ b2=0:=by omega
   have h21:¬ b2=1:=by omega
   have hbb:¬ b=b2:=by omega
   refine dJ (by kernel_rfl) ?_
   rw [List.nil_append] at hb2'
   rw [Nat.zero_add]
   simp only [↓pre,simprocAttr,aA,sx,lD,jQ,bne,aC,aL,aK,aJ,aG,aH,Option.map_none,Option.map_some,bH,e1,e2,e4,e6,e7,e8,hm1',sr]
   refine dJ (by kernel_rfl) ?_
   generalize hm2:aF.put _ _ _=m2
   have q0:m2.at_ 0=some ⟨[.val (.int .u8 0),aD 0,aD 0,aD 0,aO,aO],127,.var,true⟩:=by rw [←hm2,aG,if_neg (by omega)];exact hm0'
   have q1:m2.at_ 1=some ⟨[.val (.int .u8 a2.toNat),aD a3.toNat,aD (gP bs 4),aD (gP bs 8),.sl b 0 i i false,.sl b2 0 C C false],127,.var,true⟩:=by rw [←hm2,aG,if_pos rfl];rfl
   have q2:m2.at_ b=some ⟨cC (jP bs i),3,.flat,true⟩:=by rw [←hm2,aG,if_neg hb1];exact hb'
   have q3:m2.at_ b2=some ⟨aT (bs.drop (12+4*i)),5,.flat,true⟩:=by rw [←hm2,aG,if_neg h21];exact hb2'
   simp only [↓pre,simprocAttr,aA,sx,lD,jQ,bne,aC,aL,aK,aJ,aG,aH,Option.map_none,Option.map_some,bH,e1,e2,e4,e6,e7,e8,q1,sr]
   have hil:(jP bs i).length=i:=abh bs i
   refine aaJ (arC k r c w a2.toNat a3.toNat (gP bs 4) (gP bs 8) hm (.tree i i (cC (jP bs i)) false) (.tree C C (aT (bs.drop (12+4*i))) false) (jP bs i) [] C (aT (bs.drop (12+4*i))) ⟨.inr (.inr ⟨i,false,by rw [hil,List.append_nil],by rw [hil];exact Nat.le_refl _⟩)⟩ ⟨.inr (.inr ⟨C,false,rfl,Nat.le_refl _⟩)⟩ (by rw [hil];have:=hN16.out;omega)) (by simp [eM,lend,q2,q3,aA,iW,aD]) rfl rfl ?_
   rw [←hres]
   cases hms:eC k r c w a2.toNat a3.toNat (gP bs 4) (gP bs 8) (jP bs i) C
   ·simp only [↓pre,simprocAttr,aA,sx,lD,jQ,bne,aC,aL,aK,aJ,aG,aH,Option.map_none,Option.map_some,bH,e2,e4,e6,q0,q1,iW,aO,sr]
    rfl
   ·have k3:bW Tryz.prog 3 = .flat:=by kernel_rfl
    have k5:bW Tryz.prog 5 = .flat:=by kernel_rfl
    have hbn':¬ b2=b:=fun h=>hbb h.symm
    simp only [↓pre,simprocAttr,aA,sx,lD,jQ,bne,aC,aL,aK,aJ,aG,aH,Option.map_none,Option.map_some,bH,e2,e4,e6,q0,q1,iW,sr]
    simp only [hb0,hb1,h20,h21,q2,q3,k3,k5,if_false,if_true,Option.bind_some,Option.map_some,List.any_nil,Bool.false_eq_true,ne_eq,not_true_eq_false,or_self,List.any_cons,beq_iff_eq,hbn',hbb,Bool.or_false,List.nil_append,List.drop_zero,beq_eq_false_iff_ne.2 hbb]
    rfl
theorem arN (k r c w:Int) (v:AV) (bs:List UInt8) (x:List AV) (hv:bC v bs.length (aT bs++x)) (hm:bU k r c w=true):aX Tryz.prog 288 [aA k r c w,v] ⟨zQ k r c w bs,[]⟩:=by
 have hmn:=g7 hm
 by_cases hs:(bs.length:Int)=d7 k r c
 ·have l12:12≤bs.length:=by unfold d7 at hs;omega
  obtain ⟨a0,h0⟩:∃ a,bs[0]? = some a:=⟨_,List.getElem?_eq_getElem (by omega)⟩
  obtain ⟨a1,h1⟩:∃ a,bs[1]? = some a:=⟨_,List.getElem?_eq_getElem (by omega)⟩
  obtain ⟨a2,h2⟩:∃ a,bs[2]? = some a:=⟨_,List.getElem?_eq_getElem (by omega)⟩
  obtain ⟨a3,h3⟩:∃ a,bs[3]? = some a:=⟨_,List.getElem?_eq_getElem (by omega)⟩
  by_cases hmg:a0=84∧a1=50
  ·obtain ⟨rfl,rfl⟩:=hmg
   have hq:=arM k r c w v bs x hv hm hs h0 h1 h2 h3
   have hvl:(cV k r bs).vec.length=(k+r).toNat:=abh _ _
   have hdl:(cV k r bs).data.length=c.toNat:=by simp only [cV,List.length_drop];unfold d7 at hs;omega
   have e2:(bs.getD 2 0)=a2:=by rw [List.getD_eq_getElem?_getD,h2];rfl
   have e3:(bs.getD 3 0)=a3:=by rw [List.getD_eq_getElem?_getD,h3];rfl
   have hmay:tO k r c w (cV k r bs)=eC k r c w a2.toNat a3.toNat (gP bs 4) (gP bs 8) (jP bs (k+r).toNat) c.toNat:=by
    unfold tO;rw [hdl];simp only [cV,e2,e3]
   have hsl:eR k r c w bs=tO k r c w (cV k r bs):=by unfold eR;rw [decide_eq_true hs,decide_eq_true h0,decide_eq_true h1];rfl
   rw [←hmay] at hq
   cases hb:tO k r c w (cV k r bs) with
   | false =>
    rw [hb] at hq
    simpa [zQ,hsl,hb,zR] using hq
   | true =>
    rw [hb] at hq
    have k3:bW Tryz.prog 3 = .flat:=by kernel_rfl
    have k5:bW Tryz.prog 5 = .flat:=by kernel_rfl
    have:=yY 1 hq (by simp [zR,iU,j5,iW,aD,bB,k3,k5])
    have hv2:zQ k r c w bs=fM Tryz.prog (zR a2.toNat a3.toNat bs (k+r).toNat c.toNat true).rows 1 (zR a2.toNat a3.toNat bs (k+r).toNat c.toNat true).v:=by
     unfold zQ
     rw [if_pos (by rw [hsl,hb]),hsl,hb]
     simp [zR,fM,iF,iW,aD,bB,k3,k5,qU.v,hvl,hdl]
     simp [cV,h2,h3]
    rw [hv2]
    exact this
  ·have hne:¬ ((a0.toNat:Int)=84∧(a1.toNat:Int)=50):=by
    rintro ⟨h3,h4⟩
    exact hmg ⟨UInt8.toNat_inj.1 (by simp;omega),UInt8.toNat_inj.1 (by simp;omega)⟩
   have hsl:eR k r c w bs=false:=by
    unfold eR
    rw [h0,h1]
    by_cases h5:a0=84
    ·have h6:¬ a1=50:=fun h=>hmg ⟨h5,h⟩
     simp [h6]
    ·simp [h5]
   have:=arL k r c w v bs x hv hm hs h0 h1 hne
   simpa [zQ,hsl] using this
 ·have h1:eR k r c w bs=false:=by unfold eR;rw [decide_eq_false hs];rfl
  have:=arK k r c w v bs x hv hm hs
  simpa [zQ,h1] using this
theorem aQ:aF.empty.next=0:=rfl
def vZ:Nat→Bool:=fun d=>d != 6 && d != 8
def gQ (k r c w:Int) (bs:List UInt8) (ix:Int):Bool:=eR k r c w bs && decide ((cV k r bs).ix=ix)
theorem alS (k r c w ix:Int) (v:AV) (bs:List UInt8) (x:List AV) (hv:bC v bs.length (aT bs++x)) (hm:bU k r c w=true):aX Tryz.prog 227 [aA k r c w,v,aD ix] ⟨.tup [if gQ k r c w bs ix=true then (cV k r bs).v else mQ,bB (gQ k r c w bs ix)],[]⟩:=by
 have hp:=hv.plain
 have hr:=arN k r c w v bs x hv hm
 unfold zQ at hr
 cases hs:eR k r c w bs with
 | false =>
  rw [hs] at hr
  have h1:gQ k r c w bs ix=false:=by unfold gQ;rw [hs];rfl
  rw [h1]
  rw [if_neg (by decide)] at hr
  rw [if_neg (by decide)]
  unfold mQ iW at hr ⊢
  refine bE follows Tryz.func227 (by unfold Tryz.f227;rfl) (by unfold Tryz.f227;simp) vZ (by unfold Tryz.f227;simp) (by kernel_rfl) ?_;unfold Tryz.f227
  simp only [↓pre,simprocAttr,aA,sx,aa8,vZ,bne,aC,aL,aK,aJ,aG,aH,Option.map_none,Option.map_some,bH,aQ,Nat.one_ne_zero,Nat.zero_ne_one,sr]
  refine aM (hr) (by simp only [aA,aV, *]) ?_;simp only [↓pre,simprocAttr,aA,sx,aa8,vZ,bne,aC,aL,aK,aJ,aG,aH,Option.map_none,Option.map_some,bH,aQ,Nat.one_ne_zero,Nat.zero_ne_one,aO,sr]
 | true =>
  rw [hs] at hr
  rw [if_pos rfl] at hr
  have h1:gQ k r c w bs ix=decide ((cV k r bs).ix=ix):=by unfold gQ;rw [hs];rfl
  rw [h1]
  generalize hsc:cV k r bs=s at *
  by_cases he:s.ix=ix
  ·rw [if_pos (by simpa using he),decide_eq_true he]
   unfold qU.v iW at hr ⊢
   refine bE follows Tryz.func227 (by unfold Tryz.f227;rfl) (by unfold Tryz.f227;simp) vZ (by unfold Tryz.f227;simp) (by kernel_rfl) ?_;unfold Tryz.f227
   simp only [↓pre,simprocAttr,aA,sx,aa8,vZ,bne,aC,aL,aK,aJ,aG,aH,Option.map_none,Option.map_some,bH,aQ,Nat.one_ne_zero,Nat.zero_ne_one,sr]
   refine aM (hr) (by simp only [aA,aV, *]) ?_;simp only [↓pre,simprocAttr,aA,sx,aa8,vZ,bne,aC,aL,aK,aJ,aG,aH,Option.map_none,Option.map_some,bH,aQ,Nat.one_ne_zero,Nat.zero_ne_one,aO,he,sr]
  ·rw [if_neg (by simpa using he),decide_eq_false he]
   unfold qU.v iW at hr
   unfold mQ iW
   refine bE follows Tryz.func227 (by unfold Tryz.f227;rfl) (by unfold Tryz.f227;simp) vZ (by unfold Tryz.f227;simp) (by kernel_rfl) ?_;unfold Tryz.f227
   simp only [↓pre,simprocAttr,aA,sx,aa8,vZ,bne,aC,aL,aK,aJ,aG,aH,Option.map_none,Option.map_some,bH,aQ,Nat.one_ne_zero,Nat.zero_ne_one,sr]
   refine aM (hr) (by simp only [aA,aV, *]) ?_;simp only [↓pre,simprocAttr,aA,sx,aa8,vZ,bne,aC,aL,aK,aJ,aG,aH,Option.map_none,Option.map_some,bH,aQ,Nat.one_ne_zero,Nat.zero_ne_one,aO,he,sr]
def eS (k r c:Int) (n:Nat):Bool:=decide ((n:Int)=0) || decide ((n:Int)=d7 k r c)
def jR (k r c:Int) (n n':Nat):Bool:=eS k r c n && eS k r c n'
theorem arO (k r c w:Int) (v v':AV) (n n':Nat) (x x':List AV) (hv:bC v n x) (hv':bC v' n' x') (hm:bU k r c w=true):aX Tryz.prog 254 [aA k r c w,.agg [v,v']] ⟨bB (jR k r c n n'),[]⟩:=by
 have hp:=hv.plain
 have hp':=hv'.plain
 have f1:=cM hv
 have f2:=cM hv'
 have o1:=b6 hv
 have o2:=b6 hv'
 have hsz:=abg k r c w hm
 refine bE follows Tryz.func254 (by unfold Tryz.f254;rfl) (by unfold Tryz.f254;simp) aE (by unfold Tryz.f254;simp) (by kernel_rfl) ?_;unfold Tryz.f254
 simp only [↓pre,simprocAttr,aA,sx,zH,aE,aC,f1,f2,o1,o2]
 rw [b9]
 refine cA (fun q e m=>∃ i,q+i=2∧e 2 = .tptr 0 [aD k,aD r,aD c,aD w]∧e 3 = .tptr 0 [v,v']∧e 5=aD (i:Nat)∧(1≤i→eS k r c n=true)∧(2≤i→eS k r c n'=true)) 2 ⟨0,by omega,rfl,rfl,rfl,by omega,by omega⟩ ?_
 rintro q e m ⟨i,hi,e2,e3,e5,g1,g2⟩
 by_cases hlt:i < 2
 ·obtain ⟨u,ul,ux,hu,hru,hul⟩:∃ u ul ux,[v,v'][i]? = some u∧bC u ul ux∧ul=(if i=0 then n else n'):=by
   match i,hlt with
   | 0,_=>exact ⟨v,n,x,rfl,hv,rfl⟩
   | 1,_=>exact ⟨v',n',x',rfl,hv',rfl⟩
  have ou:=b6 hru
  have hlt':(i:Int) < 2:=by omega
  have w1:=cI (n:=i) (by omega)
  by_cases h0:(ul:Int)=0
  ·simp only [↓pre,simprocAttr,aA,sx,zH,aE,aC,aI,e2,e3,e5,hlt,hlt',hu,ou,hru.len',h0,w1,Nat.mul_one]
   have hlb:eS k r c ul=true:=by unfold eS;rw [decide_eq_true h0];rfl
   refine ⟨q - 1,by omega,i+1,by omega,rfl,fun hi1 => ?_,fun hi2 => ?_⟩
   ·by_cases h9:i=0
    ·rw [if_pos h9] at hul;subst hul;exact hlb
    ·exact g1 (by omega)
   ·rw [if_neg (by omega)] at hul;subst hul;exact hlb
  ·by_cases h1:(ul:Int)=d7 k r c
   ·simp only [↓pre,simprocAttr,aA,sx,zH,aE,aC,aI,e2,e3,e5,hlt,hlt',hu,ou,hru.len',h0,w1,Nat.mul_one]
    (refine cE (hsz) (by rfl) (by intro k;rfl) ?_);simp only [↓pre,simprocAttr,aA,sx,zH,aE,aC,e2,e3,e5,h1,w1]
    have hlb:eS k r c ul=true:=by unfold eS;rw [decide_eq_true h1,Bool.or_true]
    refine ⟨q - 1,by omega,i+1,by omega,rfl,fun hi1 => ?_,fun hi2 => ?_⟩
    ·by_cases h9:i=0
     ·rw [if_pos h9] at hul;subst hul;exact hlb
     ·exact g1 (by omega)
    ·rw [if_neg (by omega)] at hul;subst hul;exact hlb
   ·simp only [↓pre,simprocAttr,aA,sx,zH,aE,aC,aI,e2,e3,e5,hlt,hlt',hu,ou,hru.len',h0,w1,Nat.mul_one]
    (refine cE (hsz) (by rfl) (by intro k;rfl) ?_);simp only [↓pre,simprocAttr,aA,sx,zH,aE,aC,e2,e3,e5,h1,w1]
    have hlb:eS k r c ul=false:=by unfold eS;rw [decide_eq_false h0,decide_eq_false h1];rfl
    have hpf:jR k r c n n'=false:=by
     unfold jR
     split at hul
     ·subst hul;rw [hlb];rfl
     ·subst hul;rw [hlb,Bool.and_false]
    rw [hpf];rfl
 ·have hlt':¬ (i:Int) < 2:=by omega
  have hp:jR k r c n n'=true:=by
   unfold jR
   rw [g1 (by omega),g2 (by omega)]
   rfl
  simp only [↓pre,simprocAttr,aA,sx,zH,aE,aC,aI,e2,e3,e5,hlt',decide_false,cW,hp,bB]
abbrev bX:=List UInt8×List UInt8
structure fR (v:AV) (ps:List bX) (cells:List AV):Prop where
 rd:bC v ps.length cells
 at_:∀ i p,ps[i]? = some p→∃ a b xa xb,cells[i*2]? = some a∧cells[i*2+1]? = some b∧bC a p.1.length (aT p.1++xa)∧bC b p.2.length (aT p.2++xb)
theorem nZ {cells:List AV} {i:Nat} {a b:AV} (h:cells[i]? = some a) (h':cells[i+1]? = some b):(cells.drop i).take 2=[a,b]∧i+2≤cells.length:=by
 have h1:=(List.getElem?_eq_some_iff.1 h')
 obtain ⟨h1,h2⟩:=h1
 obtain ⟨h3,h4⟩:=List.getElem?_eq_some_iff.1 h
 refine ⟨?_,by omega⟩
 rw [List.drop_eq_getElem_cons h3,List.drop_eq_getElem_cons h1,h4,h2]
 rfl
def dS (k r c:Int) (ps:List bX):Bool:=decide ((ps.length:Int)=k+r) && ps.all (fun p=>jR k r c p.1.length p.2.length)
theorem arP (k r c w:Int) (v:AV) (ps:List bX) (cells:List AV) (hv:fR v ps cells) (hm:bU k r c w=true):aX Tryz.prog 197 [aA k r c w,v] ⟨bB (dS k r c ps),[]⟩:=by
 have hp:=hv.rd.plain
 have hmn:=g7 hm
 have hN:=uP k r c w hm
 by_cases hl:(ps.length:Int)=k+r
 ·have hl32:ps.length≤16:=by omega
  have hrb:dS k r c ps=ps.all (fun p=>jR k r c p.1.length p.2.length):=by unfold dS;rw [decide_eq_true hl];rfl
  rw [hrb]
  replace hmn:=aB.mk hmn
  replace hl32:=aB.mk hl32
  replace hrb:=aB.mk hrb
  refine bE follows Tryz.func197 (by unfold Tryz.f197;rfl) (by unfold Tryz.f197;simp) aE (by unfold Tryz.f197;simp) (by kernel_rfl) ?_;unfold Tryz.f197
  simp only [↓pre,simprocAttr,aA,sx,xP,aE,aC,hv.rd.len']
  refine aM (hN) (by rfl) ?_;simp only [↓pre,simprocAttr,aA,sx,xP,aE,aC,hl]
  rw [b9]
  refine cA (fun q e m=>∃ i,q+i=ps.length∧e 1=v∧e 2 = .tptr 0 [aD k,aD r,aD c,aD w]∧e 5=aD (i:Nat)∧∀ j p,j < i→ps[j]? = some p→jR k r c p.1.length p.2.length=true) ps.length ⟨0,by omega,rfl,rfl,rfl,fun j p h=>by omega⟩ ?_
  rintro q e m ⟨i,hi,e1,e2,e5,hpre⟩
  replace hpre:=aB.mk hpre
  by_cases hlt:i < ps.length
  ·have hlt':((i:Nat):Int) < ((ps.length:Nat):Int):=by omega
   obtain ⟨p,hpi⟩:∃ p,ps[i]? = some p:=⟨_,List.getElem?_eq_getElem hlt⟩
   obtain ⟨a,b,xa,xb,ha,hb,hra,hrb'⟩:=hv.at_ i p hpi
   obtain ⟨ht,htl⟩:=nZ ha hb
   have pa:=hra.plain
   have pb:=hrb'.plain
   have hpr:=arO k r c w a b p.1.length p.2.length _ _ hra hrb' hm
   have w1:=cI (n:=i) (by have:=hl32.out;omega)
   replace hpi:=aB.mk hpi
   simp only [↓pre,simprocAttr,aA,sx,xP,aE,aC,aI,e1,e2,e5,hv.rd.len',hlt',hv.rd.addr',hlt,ht,htl]
   cases hpb:jR k r c p.1.length p.2.length with
   | true =>
    (refine cE (hpr) (by simp only [aA,aV, *]) (by intro k;rfl) ?_);simp only [↓pre,simprocAttr,aA,sx,xP,aE,aC,e1,e2,e5,hpb,bB,cW,dH,w1]
    refine ⟨q - 1,by omega,i+1,by omega,rfl,fun j p' hj hp' => ?_⟩
    by_cases hji:j=i
    ·subst hji
     rw [hpi.out] at hp'
     cases hp'
     exact hpb
    ·exact hpre.out j p' (by omega) hp'
   | false =>
    have hall:ps.all (fun p=>jR k r c p.1.length p.2.length)=false:=by
     rw [List.all_eq_false]
     exact ⟨p,List.mem_of_getElem? hpi.out,by rw [hpb];decide⟩
    (refine cE (hpr) (by simp only [aA,aV, *]) (by intro k;rfl) ?_);simp only [↓pre,simprocAttr,aA,sx,xP,aE,aC,e1,e2,e5,hpb,bB,cW,dH,w1,hall]
  ·have hlt':¬ ((i:Nat):Int) < ((ps.length:Nat):Int):=by omega
   have hall:ps.all (fun p=>jR k r c p.1.length p.2.length)=true:=by
    rw [List.all_eq_true]
    intro p hp
    obtain ⟨j,hj⟩:=List.getElem?_of_mem hp
    have:=(List.getElem?_eq_some_iff.1 hj).1
    exact hpre.out j p (by omega) hj
   simp only [↓pre,simprocAttr,aA,sx,xP,aE,aC,e1,e2,e5,hv.rd.len',hlt',decide_false,cW,hall,bB]
 ·have hrb:dS k r c ps=false:=by unfold dS;rw [decide_eq_false hl];rfl
  rw [hrb]
  refine bE follows Tryz.func197 (by unfold Tryz.f197;rfl) (by unfold Tryz.f197;simp) aE (by unfold Tryz.f197;simp) (by kernel_rfl) ?_;unfold Tryz.f197
  simp only [↓pre,simprocAttr,aA,sx,xP,aE,aC,hv.rd.len']
  refine aM (hN) (by rfl) ?_;simp only [↓pre,simprocAttr,aA,sx,xP,aE,aC,hl,bB]
def eK (k r c w:Int) (ps:List bX):Int:=if bU k r c w=true then (if dS k r c ps=true then 0 else 120) else 2
theorem arQ (k r c w:Int) (v:AV) (ps:List bX) (cells:List AV) (hv:fR v ps cells):aX Tryz.prog 111 [aA k r c w,v] ⟨aD (eK k r c w ps),[]⟩:=by
 have hp:=hv.rd.plain
 have h1:=abe k r c w
 unfold eK
 cases hm:bU k r c w with
 | false =>
  rw [hm] at h1
  rw [if_neg (by decide)]
  refine bE follows Tryz.func111 (by unfold Tryz.f111;rfl) (by unfold Tryz.f111;simp) aE (by unfold Tryz.f111;simp) (by kernel_rfl) ?_;unfold Tryz.f111
  simp only [↓pre,simprocAttr,aA,sx,xN,aE,aC]
  refine aM (h1) (by rfl) ?_;simp only [↓pre,simprocAttr,aA,sx,xN,aE,aC,bB,dH,cW]
 | true =>
  rw [hm] at h1
  have h2:=arP k r c w v ps cells hv hm
  rw [if_pos rfl]
  cases hr:dS k r c ps with
  | false =>
   rw [hr] at h2
   rw [if_neg (by decide)]
   refine bE follows Tryz.func111 (by unfold Tryz.f111;rfl) (by unfold Tryz.f111;simp) aE (by unfold Tryz.f111;simp) (by kernel_rfl) ?_;unfold Tryz.f111
   simp only [↓pre,simprocAttr,aA,sx,xN,aE,aC]
   refine aM (h1) (by rfl) ?_;simp only [↓pre,simprocAttr,aA,sx,xN,aE,aC,bB,dH,cW];refine aM (h2) (by simp only [aA,aV, *]) ?_;simp only [↓pre,simprocAttr,aA,sx,xN,aE,aC,bB,dH,cW]
  | true =>
   rw [hr] at h2
   rw [if_pos rfl]
   refine bE follows Tryz.func111 (by unfold Tryz.f111;rfl) (by unfold Tryz.f111;simp) aE (by unfold Tryz.f111;simp) (by kernel_rfl) ?_;unfold Tryz.f111
   simp only [↓pre,simprocAttr,aA,sx,xN,aE,aC]
   refine aM (h1) (by rfl) ?_;simp only [↓pre,simprocAttr,aA,sx,xN,aE,aC,bB,dH,cW];refine aM (h2) (by simp only [aA,aV, *]) ?_;simp only [↓pre,simprocAttr,aA,sx,xN,aE,aC,bB,dH,cW]
def acH (k r c w:Int) (bs:List UInt8) (ix:Int):Bool:=gQ k r c w bs ix && (decide ((cV k r bs).kd=2) && (cV k r bs).vec.all (fun n=>decide (n=(cV k r bs).ce)))
def lG (k r c w:Int) (bs:List UInt8) (ix:Int):Int:=if acH k r c w bs ix=true then (cV k r bs).ce else 0
theorem agB (k r c w ix:Int) (v:AV) (bs:List UInt8) (x:List AV) (hv:bC v bs.length (aT bs++x)) (hm:bU k r c w=true):aX Tryz.prog 255 [aA k r c w,v,aD ix] ⟨aD (lG k r c w bs ix),[]⟩:=by
 have hp:=hv.plain
 have hmn:=g7 hm
 have hr:=alS k r c w ix v bs x hv hm
 have hvl:(cV k r bs).vec.length≤16:=by have:=abh bs (k+r).toNat;simp only [cV];omega
 replace hmn:=aB.mk hmn
 unfold lG acH
 cases hs:gQ k r c w bs ix with
 | false =>
  rw [hs] at hr
  rw [if_neg (by decide)] at hr
  rw [Bool.false_and,if_neg (by decide)]
  unfold mQ iW at hr
  refine bE follows Tryz.func255 (by unfold Tryz.f255;rfl) (by unfold Tryz.f255;simp) aE (by unfold Tryz.f255;simp) (by kernel_rfl) ?_;unfold Tryz.f255
  simp only [↓pre,simprocAttr,aA,sx,vV,aE,aC,aK,aJ,eq_self,aG,aH]
  refine aM (hr) (by simp only [aA,aV, *]) ?_;simp only [↓pre,simprocAttr,aA,sx,vV,aE,aC,bB,aO,aK,aJ,eq_self,aG,aH]
 | true =>
  rw [hs] at hr
  rw [if_pos rfl] at hr
  rw [Bool.true_and]
  generalize cV k r bs=s at *
  unfold qU.v iW at hr
  by_cases hk:s.kd=2
  ·rw [decide_eq_true hk,Bool.true_and]
   have hvv:bC (.tree s.vec.length s.vec.length (cC s.vec) false) s.vec.length (cC s.vec++[]):=⟨.inr (.inr ⟨_,false,by rw [List.append_nil],Nat.le_refl _⟩)⟩
   replace hvl:=aB.mk hvl
   refine bE follows Tryz.func255 (by unfold Tryz.f255;rfl) (by unfold Tryz.f255;simp) aE (by unfold Tryz.f255;simp) (by kernel_rfl) ?_;unfold Tryz.f255
   simp only [↓pre,simprocAttr,aA,sx,vV,aE,aC,aK,aJ,eq_self,aG,aH]
   refine aM (hr) (by simp only [aA,aV, *]) ?_;simp only [↓pre,simprocAttr,aA,sx,vV,aE,aC,bB,aO,aK,aJ,eq_self,aG,aH,hk]
   rw [b9]
   refine cA (fun q e m=>∃ i,q+i=s.vec.length∧e 7 = .tptr 0 [.val (.int .u8 2),aD s.ix,aD s.ce,aD s.st,.tree s.vec.length s.vec.length (cC s.vec) false,.tree s.data.length s.data.length (aT s.data) false]∧e 9=aD (i:Nat)∧∀ j n,j < i→s.vec[j]? = some n→n=s.ce) s.vec.length ⟨0,by omega,by rw [←hk];rfl,rfl,fun j n h=>by omega⟩ ?_
   rintro q e m ⟨i,hi,e7,e9,hpre⟩
   replace hpre:=aB.mk hpre
   by_cases hlt:i < s.vec.length
   ·have hlt':((i:Nat):Int) < ((s.vec.length:Nat):Int):=by omega
    obtain ⟨n,hn⟩:∃ n,s.vec[i]? = some n:=⟨_,List.getElem?_eq_getElem hlt⟩
    have a1:=qT (x:=[]) hn
    rw [List.append_nil] at a1 hvv
    have w1:=cI (n:=i) (by have:=hvl.out;omega)
    by_cases he:n=s.ce
    ·replace hn:=aB.mk hn
     subst he
     simp only [↓pre,simprocAttr,aA,sx,vV,aE,aC,aI,e7,e9,hvv.len',hvv.addr',hlt,hlt',Nat.mul_one,a1,cW,decide_false,w1,eq_self]
     refine ⟨q - 1,by omega,i+1,by omega,rfl,fun j n' hj hn' => ?_⟩
     by_cases hji:j=i
     ·subst hji
      rw [hn.out] at hn'
      cases hn'
      rfl
     ·exact hpre.out j n' (by omega) hn'
    ·have hall:(s.vec.all (fun n=>decide (n=s.ce)))=false:=by
      rw [List.all_eq_false]
      exact ⟨n,List.mem_of_getElem? hn,by simpa using he⟩
     rw [hall,if_neg (by decide)]
     replace hn:=aB.mk hn
     simp only [↓pre,simprocAttr,aA,sx,vV,aE,aC,aI,e7,e9,hvv.len',hvv.addr',hlt,hlt',Nat.mul_one,a1,dH,decide_false,w1,he]
   ·have hlt':¬ ((i:Nat):Int) < ((s.vec.length:Nat):Int):=by omega
    have hall:(s.vec.all (fun n=>decide (n=s.ce)))=true:=by
     rw [List.all_eq_true]
     intro n hn
     obtain ⟨j,hj⟩:=List.getElem?_of_mem hn
     have:=(List.getElem?_eq_some_iff.1 hj).1
     rw [decide_eq_true_eq]
     exact hpre.out j n (by omega) hj
    rw [hall,if_pos rfl]
    simp only [↓pre,simprocAttr,aA,sx,vV,aE,aC,e7,e9,hvv.len',hlt',decide_false,cW]
  ·rw [decide_eq_false hk,Bool.false_and,if_neg (by decide)]
   refine bE follows Tryz.func255 (by unfold Tryz.f255;rfl) (by unfold Tryz.f255;simp) aE (by unfold Tryz.f255;simp) (by kernel_rfl) ?_;unfold Tryz.f255
   simp only [↓pre,simprocAttr,aA,sx,vV,aE,aC,aK,aJ,eq_self,aG,aH]
   refine aM (hr) (by simp only [aA,aV, *]) ?_;simp only [↓pre,simprocAttr,aA,sx,vV,aE,aC,bB,aO,aK,aJ,eq_self,aG,aH,hk]
end Go.Proofs.YtaekhhlgnbhnpaaGreat