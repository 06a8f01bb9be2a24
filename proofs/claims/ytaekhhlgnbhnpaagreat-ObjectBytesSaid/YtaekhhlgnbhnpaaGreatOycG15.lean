import Derived.Test.YtaekhhlgnbhnpaaGreatOycG08
import Derived.Test.YtaekhhlgnbhnpaaGreatProg
import Derived.KernelRfl
import Derived.Test.YtaekhhlgnbhnpaaGreatOycG10
import Derived.Test.YtaekhhlgnbhnpaaGreatOycG11
set_option maxRecDepth 4000
open Go Go.Tw
namespace Go.Proofs.YtaekhhlgnbhnpaaGreat
open Go.Proofs
theorem follows:Tryz.prog.follows .mixedOrders=true:=by kernel_rfl
abbrev TF (t:TypeId) (a b:Option Nat) (c:Option Bool) (d:Option TypeId) (e f:Option (Nat×TypeId)) (g h i j:Bool) (k:Option IntKind):Prop:=cG Tryz.prog t=a∧j8 Tryz.prog t=b∧vF Tryz.prog t=c∧bZ Tryz.prog t=d∧nT Tryz.prog t=e∧acB Tryz.prog t=f∧mQ Tryz.prog t=g∧p7 Tryz.prog t=h∧vG Tryz.prog t=i∧acC Tryz.prog t=j∧z6 Tryz.prog t=k
abbrev TZ (t:TypeId) (z:List Value) (k:fO):Prop:=gB Tryz.prog t=some z∧bR Tryz.prog t=k
theorem ty1:TF 1 (some 1) (some 8) (some false) none none none false false true false none∧TZ 1 [.nilFunc] .var:=by and_intros <;> kernel_rfl
theorem aN:TF 3 (some 1) (some 8) (some false) none none none false false false false (some .i64)∧TZ 3 [.int .i64 0] .flat:=by and_intros <;> kernel_rfl
theorem aR:TF 4 (some 1) (some 1) (some false) none none none false false true false none∧TZ 4 [.bool false] .flat:=by and_intros <;> kernel_rfl
theorem aT:TF 5 (some 1) (some 1) (some false) none none none false true false false (some .u8)∧TZ 5 [.int .u8 0] .flat:=by and_intros <;> kernel_rfl
theorem rB:TF 9 (some 1) (some 16) (some false) none none none true false true false none∧TZ 9 [.string .empty] .flat:=by and_intros <;> kernel_rfl
theorem aX:TF 23 (some 4) (some 32) (some true) none none none false false true true none∧gC Tryz.prog 23 0=some (0,3)∧gC Tryz.prog 23 1=some (1,3)∧gC Tryz.prog 23 2=some (2,3)∧gC Tryz.prog 23 3=some (3,3)∧TZ 23 [.int .i64 0,.int .i64 0,.int .i64 0,.int .i64 0] .flat:=by and_intros <;> kernel_rfl
theorem cX:TF 24 (some 1) (some 24) (some false) (some 131) none none false false true false none∧TZ 24 [.slice none 0 0] .var:=by and_intros <;> kernel_rfl
theorem bA:TF 28 (some 1) (some 8) (some false) none none none false false false false (some .i64)∧TZ 28 [.int .i64 0] .flat:=by and_intros <;> kernel_rfl
theorem dF:TF 31 (some 1) (some 24) (some false) (some 67) none none false false true false none∧TZ 31 [.slice none 0 0] .var:=by and_intros <;> kernel_rfl
theorem fY:TF 33 (some 3) (some 40) (some true) none none none false false true true none∧gC Tryz.prog 33 0=some (0,3)∧gC Tryz.prog 33 1=some (1,3)∧gC Tryz.prog 33 2=some (2,31)∧TZ 33 [.int .i64 0,.int .i64 0,.slice none 0 0] .var:=by and_intros <;> kernel_rfl
theorem vX:TF 34 (some 1) (some 0) (some false) none none none false false true false none:=by and_intros <;> kernel_rfl
theorem dJ:TF 41 (some 1) (some 24) (some false) (some 3) none none false false true false none∧TZ 41 [.slice none 0 0] .var:=by and_intros <;> kernel_rfl
theorem akb:TF 42 (some 1) (some 0) (some false) none none none false false true false none:=by and_intros <;> kernel_rfl
theorem bQ:TF 45 (some 1) (some 24) (some false) (some 52) none none false false true false none∧TZ 45 [.slice none 0 0] .var:=by and_intros <;> kernel_rfl
theorem d7:TF 47 (some 5) (some 56) (some true) none none none false false true true none∧gC Tryz.prog 47 0=some (0,23)∧gC Tryz.prog 47 1=some (4,45)∧TZ 47 [.int .i64 0,.int .i64 0,.int .i64 0,.int .i64 0,.slice none 0 0] .var:=by and_intros <;> kernel_rfl
theorem dZ:TF 50 (some 1) (some 0) (some false) none none none false false true false none:=by and_intros <;> kernel_rfl
theorem aV:TF 52 (some 1) (some 24) (some false) (some 5) none none false false true false none∧TZ 52 [.slice none 0 0] .var:=by and_intros <;> kernel_rfl
theorem eS:TF 53 (some 1) (some 0) (some false) none none none false false true false none:=by and_intros <;> kernel_rfl
theorem c9:TF 67 (some 2) (some 16) (some true) none none none false false true true none∧gC Tryz.prog 67 0=some (0,3)∧gC Tryz.prog 67 1=some (1,3)∧TZ 67 [.int .i64 0,.int .i64 0] .flat:=by and_intros <;> kernel_rfl
theorem adm:TF 89 (some 1) (some 0) (some false) none none none false false true false none:=by and_intros <;> kernel_rfl
theorem vY:TF 92 (some 6) (some 96) (some true) none none none false false true true none∧gC Tryz.prog 92 0=some (0,33)∧gC Tryz.prog 92 1=some (3,3)∧gC Tryz.prog 92 2=some (4,31)∧gC Tryz.prog 92 3=some (5,31)∧TZ 92 [.int .i64 0,.int .i64 0,.slice none 0 0,.int .i64 0,.slice none 0 0,.slice none 0 0] .var:=by and_intros <;> kernel_rfl
theorem adn:TF 93 (some 1) (some 0) (some false) none none none false false true false none:=by and_intros <;> kernel_rfl
theorem vZ:TF 110 (some 1) (some 0) (some false) none none none false false true false none:=by and_intros <;> kernel_rfl
theorem aae:TF 118 (some 5) (some 56) (some true) none none none false false true true none∧gC Tryz.prog 118 0=some (0,23)∧gC Tryz.prog 118 1=some (4,24)∧TZ 118 [.int .i64 0,.int .i64 0,.int .i64 0,.int .i64 0,.slice none 0 0] .var:=by and_intros <;> kernel_rfl
theorem akc:TF 120 (some 1) (some 8) (some false) none none none false false true false none∧TZ 120 [.nilFunc] .var:=by and_intros <;> kernel_rfl
theorem ado:TF 124 (some 1) (some 0) (some false) none none none false false true false none:=by and_intros <;> kernel_rfl
theorem gJ:TF 127 (some 6) (some 80) (some true) none none none false false true true none∧gC Tryz.prog 127 0=some (0,5)∧gC Tryz.prog 127 1=some (1,3)∧gC Tryz.prog 127 2=some (2,3)∧gC Tryz.prog 127 3=some (3,3)∧gC Tryz.prog 127 4=some (4,41)∧gC Tryz.prog 127 5=some (5,52)∧TZ 127 [.int .u8 0,.int .i64 0,.int .i64 0,.int .i64 0,.slice none 0 0,.slice none 0 0] .var:=by and_intros <;> kernel_rfl
theorem aaf:TF 128 (some 1) (some 0) (some false) none none none false false true false none:=by and_intros <;> kernel_rfl
theorem cQ:TF 131 (some 2) (some 48) (some true) none (some (2,52)) none false false true false none∧TZ 131 [.slice none 0 0,.slice none 0 0] .var:=by and_intros <;> kernel_rfl
theorem adp:TF 132 (some 1) (some 24) (some false) (some 136) none none false false true false none∧TZ 132 [.slice none 0 0] .var:=by and_intros <;> kernel_rfl
theorem akd:TF 133 (some 1) (some 0) (some false) none none none false false true false none:=by and_intros <;> kernel_rfl
theorem adq:TF 136 (some 2) (some 16) (some true) none (some (2,3)) none false false true false none∧TZ 136 [.int .i64 0,.int .i64 0] .flat:=by and_intros <;> kernel_rfl
theorem ake:TF 140 (some 1) (some 8) (some false) none none none false false true false none∧TZ 140 [.nilFunc] .var:=by and_intros <;> kernel_rfl
theorem tG:TF 149 (some 1) (some 0) (some false) none none none false false true false none:=by and_intros <;> kernel_rfl
theorem aag:TF 151 (some 1) (some 8) (some false) none none none false false true false none∧TZ 151 [.nilFunc] .var:=by and_intros <;> kernel_rfl
theorem adr:TF 157 (some 1) (some 0) (some false) none none none false false true false none:=by and_intros <;> kernel_rfl
theorem aah:TF 161 (some 1) (some 0) (some false) none none none false false true false none:=by and_intros <;> kernel_rfl
theorem aai:TF 168 (some 1) (some 0) (some false) none none none false false true false none:=by and_intros <;> kernel_rfl
theorem akf:TF 176 (some 1) (some 0) (some false) none none none false false true false none:=by and_intros <;> kernel_rfl
theorem lK:TF 188 (some 1) (some 0) (some false) none none none false false true false none:=by and_intros <;> kernel_rfl
theorem ads:TF 191 (some 1) (some 8) (some false) none none none false false true false none∧TZ 191 [.nilFunc] .var:=by and_intros <;> kernel_rfl
theorem akg:TF 200 (some 1) (some 0) (some false) none none none false false true false none:=by and_intros <;> kernel_rfl
theorem aaj:TF 206 (some 1) (some 8) (some false) none none none false false true false none∧TZ 206 [.map none] .var:=by and_intros <;> kernel_rfl
theorem akh:TF 208 (some 1) (some 0) (some false) none none none false false true false none:=by and_intros <;> kernel_rfl
theorem v6:TF 223 (some 1) (some 24) (some false) (some 226) none none false false true false none∧TZ 223 [.slice none 0 0] .var:=by and_intros <;> kernel_rfl
theorem v7:TF 226 (some 2) (some 32) (some true) none none none false false true true none∧gC Tryz.prog 226 0=some (0,3)∧gC Tryz.prog 226 1=some (1,41)∧TZ 226 [.int .i64 0,.slice none 0 0] .var:=by and_intros <;> kernel_rfl
theorem tH:TF 235 (some 1) (some 8) (some false) none none none false false false false (some .u64)∧TZ 235 [.int .u64 0] .flat:=by and_intros <;> kernel_rfl
theorem aki:TF 238 (some 1) (some 0) (some false) none none none false false true false none:=by and_intros <;> kernel_rfl
theorem tI:TF 249 (some 1) (some 0) (some false) none none none false false true false none:=by and_intros <;> kernel_rfl
theorem akj:TF 257 (some 1) (some 0) (some false) none none none false false true false none:=by and_intros <;> kernel_rfl
theorem aak:TF 265 (some 3) (some 24) (some true) none none none false false true true none∧gC Tryz.prog 265 0=some (0,3)∧gC Tryz.prog 265 1=some (1,3)∧gC Tryz.prog 265 2=some (2,3)∧TZ 265 [.int .i64 0,.int .i64 0,.int .i64 0] .flat:=by and_intros <;> kernel_rfl
theorem akk:TF 294 (some 1) (some 4) (some false) none none none false false false false (some .u32)∧TZ 294 [.int .u32 0] .flat:=by and_intros <;> kernel_rfl
theorem akl:TF 299 (some 1) (some 0) (some false) none none none false false true false none:=by and_intros <;> kernel_rfl
theorem aal:TF 302 (some 7) (some 88) (some true) none none none false false true true none∧gC Tryz.prog 302 0=some (0,127)∧gC Tryz.prog 302 1=some (6,4)∧TZ 302 [.int .u8 0,.int .i64 0,.int .i64 0,.int .i64 0,.slice none 0 0,.slice none 0 0,.bool false] .var:=by and_intros <;> kernel_rfl
theorem aam:TF 304 (some 14) (some 176) (some true) none (some (2,302)) none false false true false none∧TZ 304 [.int .u8 0,.int .i64 0,.int .i64 0,.int .i64 0,.slice none 0 0,.slice none 0 0,.bool false,.int .u8 0,.int .i64 0,.int .i64 0,.int .i64 0,.slice none 0 0,.slice none 0 0,.bool false] .var:=by and_intros <;> kernel_rfl
theorem akm:TF 305 (some 1) (some 0) (some false) none none none false false true false none:=by and_intros <;> kernel_rfl
theorem adt:TF 311 (some 1) (some 8) (some false) none none none false false true false none∧TZ 311 [.nilFunc] .var:=by and_intros <;> kernel_rfl
theorem pA:TF 312 (some 1) (some 0) (some false) none none none false false true false none:=by and_intros <;> kernel_rfl
theorem akn:TF 331 (some 1) (some 8) (some false) none none none false false true false none∧TZ 331 [.map none] .var:=by and_intros <;> kernel_rfl
theorem aan:TF 338 (some 256) (some 256) (some true) none (some (256,5)) none false false true false none:=by and_intros <;> kernel_rfl
theorem ako:TF 352 (some 1) (some 0) (some false) none none none false false true false none:=by and_intros <;> kernel_rfl
theorem lZ:(type_of% aN)∧(type_of% aR)∧(type_of% aT)∧(type_of% rB)∧(type_of% aX)∧(type_of% bA)∧(type_of% bQ)∧(type_of% d7)∧(type_of% dZ)∧(type_of% aV)∧(type_of% eS):=⟨aN,aR,aT,rB,aX,bA,bQ,d7,dZ,aV,eS⟩
theorem oA:(type_of% aN)∧(type_of% aR)∧(type_of% aT)∧(type_of% aX)∧(type_of% cX)∧(type_of% bA)∧(type_of% dF)∧(type_of% fY)∧(type_of% dZ)∧(type_of% aV)∧(type_of% eS)∧(type_of% c9)∧(type_of% aae)∧(type_of% ado)∧(type_of% cQ):=⟨aN,aR,aT,aX,cX,bA,dF,fY,dZ,aV,eS,c9,aae,ado,cQ⟩
theorem akp:(type_of% aN)∧(type_of% aR)∧(type_of% aT)∧(type_of% aX)∧(type_of% bA)∧(type_of% bQ)∧(type_of% d7)∧(type_of% dZ)∧(type_of% aV):=⟨aN,aR,aT,aX,bA,bQ,d7,dZ,aV⟩
theorem abD:(type_of% aN)∧(type_of% aR)∧(type_of% aT)∧(type_of% aX)∧(type_of% bQ)∧(type_of% d7)∧(type_of% aV):=⟨aN,aR,aT,aX,bQ,d7,aV⟩
theorem aao:(type_of% aN)∧(type_of% aR)∧(type_of% aT)∧(type_of% aX)∧(type_of% bQ)∧(type_of% d7)∧(type_of% aV):=⟨aN,aR,aT,aX,bQ,d7,aV⟩
theorem tJ:(type_of% aN)∧(type_of% aR)∧(type_of% aT)∧(type_of% aX)∧(type_of% cX)∧(type_of% bA)∧(type_of% dF)∧(type_of% fY)∧(type_of% vX)∧(type_of% bQ)∧(type_of% d7)∧(type_of% aV)∧(type_of% c9)∧(type_of% vZ)∧(type_of% cQ):=⟨aN,aR,aT,aX,cX,bA,dF,fY,vX,bQ,d7,aV,c9,vZ,cQ⟩
theorem pB:(type_of% aN)∧(type_of% aR)∧(type_of% aT)∧(type_of% aX)∧(type_of% cX)∧(type_of% bA)∧(type_of% dF)∧(type_of% fY)∧(type_of% vX)∧(type_of% bQ)∧(type_of% d7)∧(type_of% aV)∧(type_of% c9)∧(type_of% cQ):=⟨aN,aR,aT,aX,cX,bA,dF,fY,vX,bQ,d7,aV,c9,cQ⟩
theorem abE:(type_of% aN)∧(type_of% aR)∧(type_of% aT)∧(type_of% aX)∧(type_of% bA)∧(type_of% dF)∧(type_of% fY)∧(type_of% bQ)∧(type_of% d7)∧(type_of% aV)∧(type_of% eS)∧(type_of% c9)∧(type_of% adm):=⟨aN,aR,aT,aX,bA,dF,fY,bQ,d7,aV,eS,c9,adm⟩
theorem abF:(type_of% aN)∧(type_of% aR)∧(type_of% aT)∧(type_of% aX)∧(type_of% bA)∧(type_of% bQ)∧(type_of% d7)∧(type_of% aV)∧(type_of% eS):=⟨aN,aR,aT,aX,bA,bQ,d7,aV,eS⟩
theorem kU:(type_of% aN)∧(type_of% aR)∧(type_of% aT)∧(type_of% aX)∧(type_of% bA)∧(type_of% dF)∧(type_of% fY)∧(type_of% bQ)∧(type_of% d7)∧(type_of% dZ)∧(type_of% aV)∧(type_of% eS)∧(type_of% c9)∧(type_of% adm):=⟨aN,aR,aT,aX,bA,dF,fY,bQ,d7,dZ,aV,eS,c9,adm⟩
theorem jI:(type_of% aN)∧(type_of% aR)∧(type_of% aT)∧(type_of% aX)∧(type_of% bA)∧(type_of% dF)∧(type_of% fY)∧(type_of% bQ)∧(type_of% d7)∧(type_of% aV)∧(type_of% eS)∧(type_of% c9)∧(type_of% vY)∧(type_of% adn):=⟨aN,aR,aT,aX,bA,dF,fY,bQ,d7,aV,eS,c9,vY,adn⟩
theorem afF:(type_of% aN)∧(type_of% aR)∧(type_of% aT)∧(type_of% rB)∧(type_of% aX)∧(type_of% bQ)∧(type_of% d7)∧(type_of% aV):=⟨aN,aR,aT,rB,aX,bQ,d7,aV⟩
theorem l5:(type_of% aN)∧(type_of% aR)∧(type_of% aT)∧(type_of% aX)∧(type_of% cX)∧(type_of% bA)∧(type_of% dF)∧(type_of% fY)∧(type_of% aV)∧(type_of% eS)∧(type_of% c9)∧(type_of% ado)∧(type_of% cQ)∧(type_of% tG):=⟨aN,aR,aT,aX,cX,bA,dF,fY,aV,eS,c9,ado,cQ,tG⟩
theorem iK:(type_of% ty1)∧(type_of% aN)∧(type_of% aR)∧(type_of% aT)∧(type_of% aX)∧(type_of% cX)∧(type_of% bA)∧(type_of% dF)∧(type_of% fY)∧(type_of% vX)∧(type_of% bQ)∧(type_of% d7)∧(type_of% dZ)∧(type_of% aV)∧(type_of% c9)∧(type_of% vZ)∧(type_of% cQ)∧(type_of% aah):=⟨ty1,aN,aR,aT,aX,cX,bA,dF,fY,vX,bQ,d7,dZ,aV,c9,vZ,cQ,aah⟩
theorem akq:(type_of% aN)∧(type_of% aX)∧(type_of% bA)∧(type_of% aai):=⟨aN,aX,bA,aai⟩
theorem akr:(type_of% aN)∧(type_of% aX)∧(type_of% bA)∧(type_of% aai):=⟨aN,aX,bA,aai⟩
theorem qG:(type_of% aN)∧(type_of% aR)∧(type_of% aT)∧(type_of% aX)∧(type_of% cX)∧(type_of% bA)∧(type_of% bQ)∧(type_of% d7)∧(type_of% aV)∧(type_of% cQ):=⟨aN,aR,aT,aX,cX,bA,bQ,d7,aV,cQ⟩
theorem aap:(type_of% aN)∧(type_of% aR)∧(type_of% aT)∧(type_of% aX)∧(type_of% cX)∧(type_of% bA)∧(type_of% aV)∧(type_of% aae)∧(type_of% akc)∧(type_of% cQ)∧(type_of% adr):=⟨aN,aR,aT,aX,cX,bA,aV,aae,akc,cQ,adr⟩
theorem aks:(type_of% aN)∧(type_of% aR)∧(type_of% aT)∧(type_of% aX)∧(type_of% cX)∧(type_of% bA)∧(type_of% aV)∧(type_of% aae)∧(type_of% cQ)∧(type_of% adr):=⟨aN,aR,aT,aX,cX,bA,aV,aae,cQ,adr⟩
theorem x7:(type_of% aN)∧(type_of% aR)∧(type_of% aT)∧(type_of% aX)∧(type_of% cX)∧(type_of% bA)∧(type_of% bQ)∧(type_of% aV)∧(type_of% cQ)∧(type_of% lK):=⟨aN,aR,aT,aX,cX,bA,bQ,aV,cQ,lK⟩
theorem fF:(type_of% aN)∧(type_of% aR)∧(type_of% aT)∧(type_of% aX)∧(type_of% bA)∧(type_of% dF)∧(type_of% fY)∧(type_of% aV)∧(type_of% eS)∧(type_of% c9):=⟨aN,aR,aT,aX,bA,dF,fY,aV,eS,c9⟩
theorem kD:(type_of% aN)∧(type_of% aR)∧(type_of% aT)∧(type_of% aX)∧(type_of% bA)∧(type_of% dJ)∧(type_of% dZ)∧(type_of% aV)∧(type_of% gJ)∧(type_of% akg):=⟨aN,aR,aT,aX,bA,dJ,dZ,aV,gJ,akg⟩
theorem jD:(type_of% aN)∧(type_of% aR)∧(type_of% aT)∧(type_of% aX)∧(type_of% cX)∧(type_of% bA)∧(type_of% dJ)∧(type_of% dZ)∧(type_of% aV)∧(type_of% gJ)∧(type_of% aaf)∧(type_of% cQ)∧(type_of% adp)∧(type_of% adq)∧(type_of% aag):=⟨aN,aR,aT,aX,cX,bA,dJ,dZ,aV,gJ,aaf,cQ,adp,adq,aag⟩
theorem adu:(type_of% aN)∧(type_of% aR)∧(type_of% aX):=⟨aN,aR,aX⟩
theorem apS:(type_of% aN)∧(type_of% aX):=⟨aN,aX⟩
theorem akt:(type_of% aN)∧(type_of% aR)∧(type_of% aT)∧(type_of% rB)∧(type_of% aV):=⟨aN,aR,aT,rB,aV⟩
theorem v8:(type_of% aN)∧(type_of% aR)∧(type_of% aT)∧(type_of% aX)∧(type_of% bA)∧(type_of% bQ)∧(type_of% d7)∧(type_of% aV):=⟨aN,aR,aT,aX,bA,bQ,d7,aV⟩
theorem wB:(type_of% aN)∧(type_of% aR)∧(type_of% aT)∧(type_of% aX)∧(type_of% bA)∧(type_of% bQ)∧(type_of% d7)∧(type_of% aV):=⟨aN,aR,aT,aX,bA,bQ,d7,aV⟩
theorem x8:(type_of% aN)∧(type_of% aR)∧(type_of% aT)∧(type_of% aX)∧(type_of% cX)∧(type_of% bQ)∧(type_of% d7)∧(type_of% aV)∧(type_of% cQ):=⟨aN,aR,aT,aX,cX,bQ,d7,aV,cQ⟩
theorem rC:(type_of% aN)∧(type_of% aR)∧(type_of% aT)∧(type_of% aX)∧(type_of% cX)∧(type_of% bA)∧(type_of% dF)∧(type_of% bQ)∧(type_of% d7)∧(type_of% dZ)∧(type_of% aV)∧(type_of% eS)∧(type_of% c9)∧(type_of% vZ)∧(type_of% cQ):=⟨aN,aR,aT,aX,cX,bA,dF,bQ,d7,dZ,aV,eS,c9,vZ,cQ⟩
theorem abG:(type_of% aN)∧(type_of% aR)∧(type_of% aT)∧(type_of% aX)∧(type_of% bA)∧(type_of% dF)∧(type_of% fY)∧(type_of% bQ)∧(type_of% d7)∧(type_of% aV)∧(type_of% eS)∧(type_of% c9)∧(type_of% vY)∧(type_of% adn):=⟨aN,aR,aT,aX,bA,dF,fY,bQ,d7,aV,eS,c9,vY,adn⟩
theorem aku:(type_of% aN)∧(type_of% aX)∧(type_of% bA)∧(type_of% dZ):=⟨aN,aX,bA,dZ⟩
theorem adv:(type_of% aN)∧(type_of% aX):=⟨aN,aX⟩
theorem gZ:(type_of% aN)∧(type_of% aR)∧(type_of% aT)∧(type_of% aX)∧(type_of% cX)∧(type_of% bA)∧(type_of% dF)∧(type_of% fY)∧(type_of% vX)∧(type_of% bQ)∧(type_of% d7)∧(type_of% aV)∧(type_of% eS)∧(type_of% c9)∧(type_of% vY)∧(type_of% cQ)∧(type_of% tG)∧(type_of% aah):=⟨aN,aR,aT,aX,cX,bA,dF,fY,vX,bQ,d7,aV,eS,c9,vY,cQ,tG,aah⟩
theorem uO:(type_of% aN)∧(type_of% aR)∧(type_of% aT)∧(type_of% aX)∧(type_of% bA)∧(type_of% dF)∧(type_of% fY)∧(type_of% bQ)∧(type_of% d7)∧(type_of% aV)∧(type_of% eS)∧(type_of% c9)∧(type_of% vY):=⟨aN,aR,aT,aX,bA,dF,fY,bQ,d7,aV,eS,c9,vY⟩
theorem uP:(type_of% aN)∧(type_of% aR)∧(type_of% aT)∧(type_of% aX)∧(type_of% bA)∧(type_of% dF)∧(type_of% fY)∧(type_of% aV)∧(type_of% eS)∧(type_of% c9):=⟨aN,aR,aT,aX,bA,dF,fY,aV,eS,c9⟩
theorem wC:(type_of% aN)∧(type_of% aR)∧(type_of% aT)∧(type_of% aX)∧(type_of% cX)∧(type_of% bA)∧(type_of% aV)∧(type_of% cQ):=⟨aN,aR,aT,aX,cX,bA,aV,cQ⟩
theorem aaq:(type_of% aN)∧(type_of% aR)∧(type_of% aT)∧(type_of% aX)∧(type_of% cX)∧(type_of% dJ)∧(type_of% aV)∧(type_of% cQ)∧(type_of% v6)∧(type_of% v7):=⟨aN,aR,aT,aX,cX,dJ,aV,cQ,v6,v7⟩
theorem akv:(type_of% aN)∧(type_of% aR):=⟨aN,aR⟩
theorem x9:(type_of% aN)∧(type_of% aR)∧(type_of% aT)∧(type_of% aX)∧(type_of% cX)∧(type_of% bA)∧(type_of% bQ)∧(type_of% aV)∧(type_of% cQ)∧(type_of% lK):=⟨aN,aR,aT,aX,cX,bA,bQ,aV,cQ,lK⟩
theorem eW:(type_of% aN)∧(type_of% aR)∧(type_of% aT)∧(type_of% rB)∧(type_of% aX)∧(type_of% bA)∧(type_of% dF)∧(type_of% fY)∧(type_of% aV)∧(type_of% c9):=⟨aN,aR,aT,rB,aX,bA,dF,fY,aV,c9⟩
theorem adw:(type_of% aN)∧(type_of% aR)∧(type_of% aX)∧(type_of% bA):=⟨aN,aR,aX,bA⟩
theorem pC:(type_of% aN)∧(type_of% aR)∧(type_of% aT)∧(type_of% aX)∧(type_of% bA)∧(type_of% bQ)∧(type_of% d7)∧(type_of% aV):=⟨aN,aR,aT,aX,bA,bQ,d7,aV⟩
theorem rD:(type_of% aN)∧(type_of% aR)∧(type_of% aT)∧(type_of% aX)∧(type_of% bA)∧(type_of% bQ)∧(type_of% d7)∧(type_of% dZ)∧(type_of% aV):=⟨aN,aR,aT,aX,bA,bQ,d7,dZ,aV⟩
theorem akw:(type_of% aN)∧(type_of% aR)∧(type_of% bA)∧(type_of% dF)∧(type_of% fY)∧(type_of% c9):=⟨aN,aR,bA,dF,fY,c9⟩
theorem akx:(type_of% aN)∧(type_of% aR)∧(type_of% dF)∧(type_of% c9):=⟨aN,aR,dF,c9⟩
theorem aky:(type_of% aN)∧(type_of% aX)∧(type_of% bA)∧(type_of% dZ):=⟨aN,aX,bA,dZ⟩
theorem sK:(type_of% aN)∧(type_of% aR)∧(type_of% aT)∧(type_of% aX)∧(type_of% cX)∧(type_of% bA)∧(type_of% dF)∧(type_of% bQ)∧(type_of% d7)∧(type_of% aV)∧(type_of% eS)∧(type_of% c9)∧(type_of% vZ)∧(type_of% cQ)∧(type_of% aah):=⟨aN,aR,aT,aX,cX,bA,dF,bQ,d7,aV,eS,c9,vZ,cQ,aah⟩
theorem oB:(type_of% aN)∧(type_of% aR)∧(type_of% aX)∧(type_of% bA):=⟨aN,aR,aX,bA⟩
theorem tK:(type_of% aN)∧(type_of% aR)∧(type_of% aT)∧(type_of% aX)∧(type_of% cX)∧(type_of% dJ)∧(type_of% bQ)∧(type_of% aV)∧(type_of% gJ)∧(type_of% cQ)∧(type_of% tI):=⟨aN,aR,aT,aX,cX,dJ,bQ,aV,gJ,cQ,tI⟩
theorem akz:(type_of% aN)∧(type_of% aR)∧(type_of% aT)∧(type_of% aV):=⟨aN,aR,aT,aV⟩
theorem aar:(type_of% aN)∧(type_of% aR)∧(type_of% aT)∧(type_of% aX)∧(type_of% cX)∧(type_of% bA)∧(type_of% dJ)∧(type_of% akb)∧(type_of% aV)∧(type_of% cQ):=⟨aN,aR,aT,aX,cX,bA,dJ,akb,aV,cQ⟩
theorem abH:(type_of% aN)∧(type_of% aR)∧(type_of% aT)∧(type_of% aX)∧(type_of% cX)∧(type_of% bA)∧(type_of% bQ)∧(type_of% aV)∧(type_of% cQ)∧(type_of% lK)∧(type_of% ads):=⟨aN,aR,aT,aX,cX,bA,bQ,aV,cQ,lK,ads⟩
theorem oC:(type_of% aN)∧(type_of% aR)∧(type_of% aT)∧(type_of% aX)∧(type_of% cX)∧(type_of% bA)∧(type_of% dJ)∧(type_of% aV)∧(type_of% gJ)∧(type_of% cQ)∧(type_of% ads)∧(type_of% akj):=⟨aN,aR,aT,aX,cX,bA,dJ,aV,gJ,cQ,ads,akj⟩
theorem jJ:(type_of% aN)∧(type_of% aR)∧(type_of% aT)∧(type_of% aX)∧(type_of% cX)∧(type_of% bA)∧(type_of% dJ)∧(type_of% aV)∧(type_of% gJ)∧(type_of% aaf)∧(type_of% cQ):=⟨aN,aR,aT,aX,cX,bA,dJ,aV,gJ,aaf,cQ⟩
theorem afG:(type_of% aN)∧(type_of% aR)∧(type_of% aT)∧(type_of% aX)∧(type_of% cX)∧(type_of% bA)∧(type_of% bQ)∧(type_of% aV)∧(type_of% cQ)∧(type_of% lK):=⟨aN,aR,aT,aX,cX,bA,bQ,aV,cQ,lK⟩
theorem aas:(type_of% aN)∧(type_of% aR)∧(type_of% aT)∧(type_of% aX)∧(type_of% bA)∧(type_of% dZ)∧(type_of% aV):=⟨aN,aR,aT,aX,bA,dZ,aV⟩
theorem afH:(type_of% aN)∧(type_of% aT)∧(type_of% aV)∧(type_of% tH):=⟨aN,aT,aV,tH⟩
theorem aat:(type_of% aN)∧(type_of% aR)∧(type_of% aT)∧(type_of% dF)∧(type_of% aV)∧(type_of% c9):=⟨aN,aR,aT,dF,aV,c9⟩
theorem apT:(type_of% aR)∧(type_of% aT)∧(type_of% rB)∧(type_of% aV):=⟨aR,aT,rB,aV⟩
theorem adx:(type_of% aN)∧(type_of% aR)∧(type_of% aX)∧(type_of% bA)∧(type_of% dZ):=⟨aN,aR,aX,bA,dZ⟩
theorem afI:(type_of% aN)∧(type_of% aT)∧(type_of% aV)∧(type_of% tH):=⟨aN,aT,aV,tH⟩
theorem yA:(type_of% aN)∧(type_of% aR)∧(type_of% aT)∧(type_of% aX)∧(type_of% bA)∧(type_of% dJ)∧(type_of% dZ)∧(type_of% aV)∧(type_of% gJ):=⟨aN,aR,aT,aX,bA,dJ,dZ,aV,gJ⟩
theorem akA:(type_of% aN)∧(type_of% aX)∧(type_of% bA)∧(type_of% dZ):=⟨aN,aX,bA,dZ⟩
theorem akB:(type_of% aN)∧(type_of% aR)∧(type_of% dJ)∧(type_of% aag):=⟨aN,aR,dJ,aag⟩
theorem apU:(type_of% aN)∧(type_of% aR)∧(type_of% aT)∧(type_of% dJ)∧(type_of% aV)∧(type_of% gJ):=⟨aN,aR,aT,dJ,aV,gJ⟩
theorem uQ:(type_of% aN)∧(type_of% aR)∧(type_of% aT)∧(type_of% bA)∧(type_of% bQ)∧(type_of% aV)∧(type_of% lK)∧(type_of% aaj)∧(type_of% aak):=⟨aN,aR,aT,bA,bQ,aV,lK,aaj,aak⟩
theorem abI:(type_of% aN)∧(type_of% aR)∧(type_of% aT)∧(type_of% dJ)∧(type_of% bQ)∧(type_of% aV):=⟨aN,aR,aT,dJ,bQ,aV⟩
theorem abJ:(type_of% aN)∧(type_of% aR)∧(type_of% aT)∧(type_of% bA)∧(type_of% bQ)∧(type_of% aV)∧(type_of% eS)∧(type_of% aaj)∧(type_of% aak):=⟨aN,aR,aT,bA,bQ,aV,eS,aaj,aak⟩
theorem akC:(type_of% aN)∧(type_of% aR)∧(type_of% aX):=⟨aN,aR,aX⟩
theorem akD:(type_of% aN)∧(type_of% aX)∧(type_of% bA)∧(type_of% dZ):=⟨aN,aX,bA,dZ⟩
theorem ady:(type_of% aN)∧(type_of% aR)∧(type_of% aX)∧(type_of% bA)∧(type_of% ake):=⟨aN,aR,aX,bA,ake⟩
theorem adz:(type_of% aN)∧(type_of% aX):=⟨aN,aX⟩
theorem akE:(type_of% aN)∧(type_of% aX):=⟨aN,aX⟩
theorem akF:(type_of% aN)∧(type_of% aX):=⟨aN,aX⟩
theorem apV:(type_of% aN)∧(type_of% aX):=⟨aN,aX⟩
theorem wE:(type_of% aN)∧(type_of% aR)∧(type_of% aX):=⟨aN,aR,aX⟩
theorem iI:(type_of% aN)∧(type_of% aR)∧(type_of% aT)∧(type_of% rB)∧(type_of% aX)∧(type_of% bA)∧(type_of% dF)∧(type_of% aV)∧(type_of% c9):=⟨aN,aR,aT,rB,aX,bA,dF,aV,c9⟩
theorem afJ:(type_of% aN)∧(type_of% aT)∧(type_of% aX)∧(type_of% cX)∧(type_of% bA)∧(type_of% bQ)∧(type_of% d7)∧(type_of% aV)∧(type_of% eS)∧(type_of% c9)∧(type_of% cQ):=⟨aN,aT,aX,cX,bA,bQ,d7,aV,eS,c9,cQ⟩
theorem fZ:(type_of% aN)∧(type_of% aR)∧(type_of% aX)∧(type_of% bA)∧(type_of% dF)∧(type_of% fY)∧(type_of% dZ)∧(type_of% c9):=⟨aN,aR,aX,bA,dF,fY,dZ,c9⟩
theorem afK:(type_of% aN)∧(type_of% aR)∧(type_of% aT)∧(type_of% aV):=⟨aN,aR,aT,aV⟩
theorem akG:(type_of% aN)∧(type_of% aR)∧(type_of% aT)∧(type_of% aX)∧(type_of% bA)∧(type_of% dZ)∧(type_of% aV):=⟨aN,aR,aT,aX,bA,dZ,aV⟩
theorem abK:(type_of% aN)∧(type_of% aT)∧(type_of% dF)∧(type_of% aV)∧(type_of% c9):=⟨aN,aT,dF,aV,c9⟩
theorem wF:(type_of% aN)∧(type_of% aR)∧(type_of% aT)∧(type_of% aX)∧(type_of% cX)∧(type_of% aV)∧(type_of% cQ):=⟨aN,aR,aT,aX,cX,aV,cQ⟩
theorem mL:(type_of% aN)∧(type_of% aR)∧(type_of% aT)∧(type_of% aX)∧(type_of% cX)∧(type_of% dJ)∧(type_of% aV)∧(type_of% cQ)∧(type_of% v6)∧(type_of% v7):=⟨aN,aR,aT,aX,cX,dJ,aV,cQ,v6,v7⟩
theorem yB:(type_of% aN)∧(type_of% aT)∧(type_of% aX)∧(type_of% dF)∧(type_of% fY)∧(type_of% aV)∧(type_of% c9):=⟨aN,aT,aX,dF,fY,aV,c9⟩
theorem abL:(type_of% aN)∧(type_of% aR)∧(type_of% aT)∧(type_of% aX)∧(type_of% cX)∧(type_of% bA)∧(type_of% bQ)∧(type_of% aV)∧(type_of% cQ)∧(type_of% akf)∧(type_of% lK):=⟨aN,aR,aT,aX,cX,bA,bQ,aV,cQ,akf,lK⟩
theorem afL:(type_of% aN)∧(type_of% aR)∧(type_of% aT)∧(type_of% aV):=⟨aN,aR,aT,aV⟩
theorem aau:(type_of% aN)∧(type_of% aR)∧(type_of% aT)∧(type_of% dF)∧(type_of% aV)∧(type_of% c9):=⟨aN,aR,aT,dF,aV,c9⟩
theorem d9:(type_of% aN)∧(type_of% aR)∧(type_of% aX)∧(type_of% bA)∧(type_of% dF)∧(type_of% fY)∧(type_of% dZ)∧(type_of% c9):=⟨aN,aR,aX,bA,dF,fY,dZ,c9⟩
theorem mY:(type_of% aN)∧(type_of% aR)∧(type_of% aT)∧(type_of% aX)∧(type_of% cX)∧(type_of% dJ)∧(type_of% aV)∧(type_of% gJ)∧(type_of% cQ)∧(type_of% tI):=⟨aN,aR,aT,aX,cX,dJ,aV,gJ,cQ,tI⟩
theorem akH:(type_of% aN)∧(type_of% aX):=⟨aN,aX⟩
theorem apW:(type_of% aN)∧(type_of% aX):=⟨aN,aX⟩
theorem akI:(type_of% aN)∧(type_of% aX):=⟨aN,aX⟩
theorem jY:(type_of% aN)∧(type_of% aR)∧(type_of% aT)∧(type_of% aX)∧(type_of% bA)∧(type_of% dF)∧(type_of% dZ)∧(type_of% aV)∧(type_of% eS)∧(type_of% c9):=⟨aN,aR,aT,aX,bA,dF,dZ,aV,eS,c9⟩
theorem apX:(type_of% aN):=aN
theorem apY:(type_of% aN)∧(type_of% aX):=⟨aN,aX⟩
theorem akJ:(type_of% aN)∧(type_of% aX):=⟨aN,aX⟩
theorem oG:(type_of% aN)∧(type_of% aR)∧(type_of% aT)∧(type_of% aX)∧(type_of% dJ)∧(type_of% aV)∧(type_of% gJ)∧(type_of% cQ)∧(type_of% tI):=⟨aN,aR,aT,aX,dJ,aV,gJ,cQ,tI⟩
theorem aav:(type_of% aN)∧(type_of% aR)∧(type_of% aT)∧(type_of% aX)∧(type_of% dJ)∧(type_of% aV)∧(type_of% gJ)∧(type_of% tI):=⟨aN,aR,aT,aX,dJ,aV,gJ,tI⟩
theorem abM:(type_of% aN)∧(type_of% aR)∧(type_of% aT)∧(type_of% aX)∧(type_of% cX)∧(type_of% bA)∧(type_of% dZ)∧(type_of% aV)∧(type_of% cQ):=⟨aN,aR,aT,aX,cX,bA,dZ,aV,cQ⟩
theorem wG:(type_of% aN)∧(type_of% aR)∧(type_of% aT)∧(type_of% aX)∧(type_of% cX)∧(type_of% bA)∧(type_of% dJ)∧(type_of% aV)∧(type_of% cQ)∧(type_of% v6)∧(type_of% v7)∧(type_of% akl):=⟨aN,aR,aT,aX,cX,bA,dJ,aV,cQ,v6,v7,akl⟩
theorem mZ:(type_of% aN)∧(type_of% aR)∧(type_of% aT)∧(type_of% aX)∧(type_of% cX)∧(type_of% bA)∧(type_of% dZ)∧(type_of% aV)∧(type_of% cQ):=⟨aN,aR,aT,aX,cX,bA,dZ,aV,cQ⟩
theorem yC:(type_of% aN)∧(type_of% aR)∧(type_of% aT)∧(type_of% bA):=⟨aN,aR,aT,bA⟩
theorem afM:(type_of% aN)∧(type_of% aT)∧(type_of% dJ)∧(type_of% bQ)∧(type_of% aV)∧(type_of% gJ):=⟨aN,aT,dJ,bQ,aV,gJ⟩
theorem pE:(type_of% aN)∧(type_of% aR)∧(type_of% aT)∧(type_of% bA)∧(type_of% dJ)∧(type_of% bQ)∧(type_of% aV)∧(type_of% eS)∧(type_of% lK)∧(type_of% aaj)∧(type_of% akh)∧(type_of% aak):=⟨aN,aR,aT,bA,dJ,bQ,aV,eS,lK,aaj,akh,aak⟩
theorem wH:(type_of% aN)∧(type_of% aR)∧(type_of% aT)∧(type_of% aX)∧(type_of% bA)∧(type_of% dJ)∧(type_of% aV)∧(type_of% gJ)∧(type_of% cQ)∧(type_of% aal)∧(type_of% aam)∧(type_of% akm):=⟨aN,aR,aT,aX,bA,dJ,aV,gJ,cQ,aal,aam,akm⟩
theorem abN:(type_of% aN)∧(type_of% aR)∧(type_of% aX)∧(type_of% bA)∧(type_of% dJ):=⟨aN,aR,aX,bA,dJ⟩
theorem apZ:(type_of% aN)∧(type_of% aX):=⟨aN,aX⟩
theorem abO:(type_of% aN)∧(type_of% aR)∧(type_of% dJ)∧(type_of% aag):=⟨aN,aR,dJ,aag⟩
theorem akK:(type_of% aN)∧(type_of% aR)∧(type_of% aT)∧(type_of% bA)∧(type_of% bQ)∧(type_of% aV):=⟨aN,aR,aT,bA,bQ,aV⟩
theorem akL:(type_of% aN)∧(type_of% aR)∧(type_of% aT)∧(type_of% bA)∧(type_of% bQ)∧(type_of% aV)∧(type_of% adt):=⟨aN,aR,aT,bA,bQ,aV,adt⟩
theorem abP:(type_of% aN)∧(type_of% aR)∧(type_of% aT)∧(type_of% bA)∧(type_of% bQ)∧(type_of% aV):=⟨aN,aR,aT,bA,bQ,aV⟩
theorem ap0:(type_of% aN):=aN
theorem aaw:(type_of% aN)∧(type_of% aR)∧(type_of% aX)∧(type_of% dF)∧(type_of% c9):=⟨aN,aR,aX,dF,c9⟩
theorem akM:(type_of% aN)∧(type_of% aT)∧(type_of% aX)∧(type_of% aV):=⟨aN,aT,aX,aV⟩
theorem yD:(type_of% aN)∧(type_of% aR)∧(type_of% aT)∧(type_of% dF)∧(type_of% aV)∧(type_of% c9):=⟨aN,aR,aT,dF,aV,c9⟩
theorem akN:(type_of% aN)∧(type_of% aX)∧(type_of% bA)∧(type_of% aai):=⟨aN,aX,bA,aai⟩
theorem yE:(type_of% aN)∧(type_of% aR)∧(type_of% aX)∧(type_of% dF)∧(type_of% c9):=⟨aN,aR,aX,dF,c9⟩
theorem akO:(type_of% aN)∧(type_of% aR):=⟨aN,aR⟩
theorem yF:(type_of% aN)∧(type_of% aR)∧(type_of% aT)∧(type_of% aX)∧(type_of% aV)∧(type_of% cQ):=⟨aN,aR,aT,aX,aV,cQ⟩
theorem uR:(type_of% aN)∧(type_of% aR)∧(type_of% aT)∧(type_of% aX)∧(type_of% dJ)∧(type_of% aV)∧(type_of% gJ)∧(type_of% tI):=⟨aN,aR,aT,aX,dJ,aV,gJ,tI⟩
theorem abQ:(type_of% aN)∧(type_of% aR)∧(type_of% aT)∧(type_of% aX)∧(type_of% cX)∧(type_of% aV)∧(type_of% cQ):=⟨aN,aR,aT,aX,cX,aV,cQ⟩
theorem afN:(type_of% aN)∧(type_of% aR)∧(type_of% aT)∧(type_of% aV):=⟨aN,aR,aT,aV⟩
theorem m6:(type_of% aN)∧(type_of% aR)∧(type_of% aT)∧(type_of% bA)∧(type_of% bQ)∧(type_of% aV)∧(type_of% eS)∧(type_of% lK)∧(type_of% aki):=⟨aN,aR,aT,bA,bQ,aV,eS,lK,aki⟩
theorem abR:(type_of% aN)∧(type_of% aR)∧(type_of% aX)∧(type_of% bA)∧(type_of% tG):=⟨aN,aR,aX,bA,tG⟩
theorem abS:(type_of% aN)∧(type_of% aR)∧(type_of% aX)∧(type_of% bA)∧(type_of% tG):=⟨aN,aR,aX,bA,tG⟩
theorem abT:(type_of% aN)∧(type_of% aR)∧(type_of% aX)∧(type_of% bA)∧(type_of% tG):=⟨aN,aR,aX,bA,tG⟩
theorem wJ:(type_of% aN)∧(type_of% aR)∧(type_of% aT)∧(type_of% aX)∧(type_of% bA)∧(type_of% dF)∧(type_of% dZ)∧(type_of% aV)∧(type_of% eS)∧(type_of% c9):=⟨aN,aR,aT,aX,bA,dF,dZ,aV,eS,c9⟩
theorem kV:(type_of% aN)∧(type_of% aR)∧(type_of% aT)∧(type_of% aX)∧(type_of% dJ)∧(type_of% aV)∧(type_of% gJ):=⟨aN,aR,aT,aX,dJ,aV,gJ⟩
theorem jZ:(type_of% aN)∧(type_of% aR)∧(type_of% aT)∧(type_of% aX)∧(type_of% cX)∧(type_of% bA)∧(type_of% dJ)∧(type_of% aV)∧(type_of% cQ)∧(type_of% adp)∧(type_of% akd)∧(type_of% adq)∧(type_of% v6)∧(type_of% v7)∧(type_of% akn):=⟨aN,aR,aT,aX,cX,bA,dJ,aV,cQ,adp,akd,adq,v6,v7,akn⟩
theorem abU:(type_of% aN)∧(type_of% aR)∧(type_of% aT)∧(type_of% bA)∧(type_of% bQ)∧(type_of% aV)∧(type_of% lK):=⟨aN,aR,aT,bA,bQ,aV,lK⟩
theorem rE:(type_of% aN)∧(type_of% aR)∧(type_of% aT)∧(type_of% aX)∧(type_of% bA)∧(type_of% dJ)∧(type_of% dZ)∧(type_of% aV)∧(type_of% gJ)∧(type_of% aaf)∧(type_of% cQ)∧(type_of% aal)∧(type_of% aam):=⟨aN,aR,aT,aX,bA,dJ,dZ,aV,gJ,aaf,cQ,aal,aam⟩
theorem tL:(type_of% aN)∧(type_of% aR)∧(type_of% aT)∧(type_of% dJ)∧(type_of% aV)∧(type_of% gJ)∧(type_of% aal)∧(type_of% aam):=⟨aN,aR,aT,dJ,aV,gJ,aal,aam⟩
theorem wK:(type_of% aN)∧(type_of% aR)∧(type_of% aX)∧(type_of% bA)∧(type_of% dJ)∧(type_of% dZ):=⟨aN,aR,aX,bA,dJ,dZ⟩
theorem yG:(type_of% aN)∧(type_of% aT)∧(type_of% bQ)∧(type_of% aV)∧(type_of% adt):=⟨aN,aT,bQ,aV,adt⟩
theorem akP:(type_of% aN)∧(type_of% aR)∧(type_of% aT):=⟨aN,aR,aT⟩
theorem afO:(type_of% aN)∧(type_of% aT)∧(type_of% bA)∧(type_of% pA):=⟨aN,aT,bA,pA⟩
theorem akQ:(type_of% aT)∧(type_of% bA)∧(type_of% pA):=⟨aT,bA,pA⟩
theorem ap1:(type_of% aT):=aT
theorem afP:(type_of% aN)∧(type_of% aR)∧(type_of% aT)∧(type_of% bQ)∧(type_of% aV):=⟨aN,aR,aT,bQ,aV⟩
theorem wL:(type_of% aN)∧(type_of% aR)∧(type_of% aT)∧(type_of% aV)∧(type_of% aan):=⟨aN,aR,aT,aV,aan⟩
theorem abV:(type_of% aN)∧(type_of% aR)∧(type_of% aX)∧(type_of% c9):=⟨aN,aR,aX,c9⟩
theorem ap2:(type_of% aN)∧(type_of% aR):=⟨aN,aR⟩
theorem abW:(type_of% aN)∧(type_of% aR)∧(type_of% aT)∧(type_of% bQ)∧(type_of% aV):=⟨aN,aR,aT,bQ,aV⟩
theorem aax:(type_of% aN)∧(type_of% aR)∧(type_of% aT)∧(type_of% bA)∧(type_of% bQ)∧(type_of% aV)∧(type_of% eS):=⟨aN,aR,aT,bA,bQ,aV,eS⟩
theorem abX:(type_of% aN)∧(type_of% aR)∧(type_of% aT)∧(type_of% bA)∧(type_of% bQ)∧(type_of% aV)∧(type_of% lK):=⟨aN,aR,aT,bA,bQ,aV,lK⟩
theorem nM:(type_of% aN)∧(type_of% aR)∧(type_of% aT)∧(type_of% bA)∧(type_of% bQ)∧(type_of% aV)∧(type_of% pA):=⟨aN,aR,aT,bA,bQ,aV,pA⟩
theorem yH:(type_of% aN)∧(type_of% aR)∧(type_of% aT)∧(type_of% bA)∧(type_of% bQ)∧(type_of% aV):=⟨aN,aR,aT,bA,bQ,aV⟩
theorem tN:(type_of% aN)∧(type_of% aR)∧(type_of% aX)∧(type_of% bA):=⟨aN,aR,aX,bA⟩
theorem ap3:(type_of% aN)∧(type_of% aT)∧(type_of% aV):=⟨aN,aT,aV⟩
theorem kW:(type_of% aN)∧(type_of% aR)∧(type_of% aT)∧(type_of% aX)∧(type_of% dJ)∧(type_of% aV)∧(type_of% gJ):=⟨aN,aR,aT,aX,dJ,aV,gJ⟩
theorem afQ:(type_of% aN)∧(type_of% aR)∧(type_of% aT)∧(type_of% bA)∧(type_of% bQ)∧(type_of% aV):=⟨aN,aR,aT,bA,bQ,aV⟩
theorem kX:(type_of% aN)∧(type_of% aR)∧(type_of% aT)∧(type_of% bA)∧(type_of% bQ)∧(type_of% aV)∧(type_of% pA):=⟨aN,aR,aT,bA,bQ,aV,pA⟩
theorem abY:(type_of% aN)∧(type_of% aT)∧(type_of% bQ)∧(type_of% aV):=⟨aN,aT,bQ,aV⟩
theorem akR:(type_of% aN)∧(type_of% aR):=⟨aN,aR⟩
theorem abZ:(type_of% aN)∧(type_of% aR)∧(type_of% aT)∧(type_of% bA)∧(type_of% aan)∧(type_of% ako):=⟨aN,aR,aT,bA,aan,ako⟩
theorem adA:(type_of% aR)∧(type_of% aT)∧(type_of% tH):=⟨aR,aT,tH⟩
theorem uS:(type_of% aN)∧(type_of% aR)∧(type_of% aT)∧(type_of% bA)∧(type_of% bQ)∧(type_of% aV)∧(type_of% pA):=⟨aN,aR,aT,bA,bQ,aV,pA⟩
theorem afR:(type_of% aN)∧(type_of% aR)∧(type_of% aT)∧(type_of% bA)∧(type_of% bQ)∧(type_of% aV):=⟨aN,aR,aT,bA,bQ,aV⟩
theorem adB:(type_of% aN)∧(type_of% aR)∧(type_of% aT)∧(type_of% bQ)∧(type_of% aV):=⟨aN,aR,aT,bQ,aV⟩
theorem pF:(type_of% aN)∧(type_of% aR)∧(type_of% aT)∧(type_of% bQ)∧(type_of% aV):=⟨aN,aR,aT,bQ,aV⟩
theorem adC:(type_of% aR)∧(type_of% aT)∧(type_of% bA)∧(type_of% pA):=⟨aR,aT,bA,pA⟩
theorem wM:(type_of% aN)∧(type_of% aR)∧(type_of% aT)∧(type_of% aV):=⟨aN,aR,aT,aV⟩
theorem yI:(type_of% aN)∧(type_of% aR)∧(type_of% aX)∧(type_of% dJ):=⟨aN,aR,aX,dJ⟩
theorem adD:(type_of% aN)∧(type_of% aT)∧(type_of% aV):=⟨aN,aT,aV⟩
theorem aay:(type_of% aN)∧(type_of% aT)∧(type_of% aV):=⟨aN,aT,aV⟩
theorem ap4:(type_of% aR)∧(type_of% aT)∧(type_of% bQ)∧(type_of% aV):=⟨aR,aT,bQ,aV⟩
theorem ap5:(type_of% aR)∧(type_of% aT)∧(type_of% aV):=⟨aR,aT,aV⟩
theorem adE:(type_of% aN)∧(type_of% aR)∧(type_of% aT)∧(type_of% aan):=⟨aN,aR,aT,aan⟩
theorem ap6:(type_of% aT)∧(type_of% tH):=⟨aT,tH⟩
theorem aaz:(type_of% aN)∧(type_of% aR)∧(type_of% aT)∧(type_of% bA):=⟨aN,aR,aT,bA⟩
theorem aaA:(type_of% aN)∧(type_of% aR)∧(type_of% aT)∧(type_of% bA)∧(type_of% aV)∧(type_of% pA):=⟨aN,aR,aT,bA,aV,pA⟩
theorem wO:(type_of% aN)∧(type_of% aR)∧(type_of% aT)∧(type_of% tH)∧(type_of% akk):=⟨aN,aR,aT,tH,akk⟩
end Go.Proofs.YtaekhhlgnbhnpaaGreat
set_option linter.unusedVariables false
set_option linter.unusedSimpArgs false
set_option maxRecDepth 10000
namespace Go.Proofs.YtaekhhlgnbhnpaaGreat
open Go Go.Tw Go.Proofs
def aD:Nat→Bool:=fun _=>true
abbrev aA (k r c w:Int):AV := .agg [aE k,aE r,aE c,aE w]
def bL (k r c w:Int):Bool:=decide (1≤k∧k≤12∧0≤r∧r≤4∧8≤c∧c≤64∧8≤w∧w≤256∧32≤k*c)
theorem dU {n:Int} (h : -9223372036854775808≤n) (h2:n≤9223372036854775807):IntKind.i64.wrap n=n:=by
 simp only [IntKind.wrap,IntKind.bits,IntKind.signed]
 simp
 split <;> omega
theorem ab0 {k c:Int} (h1:1≤k) (h2:k≤12) (h3:8≤c) (h4:c≤64):8≤k*c∧k*c≤768:=by
 have a:1*8≤k*c:=Int.mul_le_mul h1 h3 (by omega) (by omega)
 have b:k*c≤12*64:=Int.mul_le_mul h2 h4 (by omega) (by omega)
 omega
theorem jE {k r c w:Int}:bL k r c w=true↔(1≤k∧k≤12∧0≤r∧r≤4∧8≤c∧c≤64∧8≤w∧w≤256∧32≤k*c):=by simp [bL]
theorem gU {k r c w:Int} (h:bL k r c w=true):32≤k*c∧k*c≤768:=by
 rw [jE] at h
 have:=ab0 h.1 h.2.1 h.2.2.2.2.1 h.2.2.2.2.2.1
 omega
def wI (k c:Int):Int:=k*c
def dI (k c:Int):Int:=(k*c - 7) / 6
def lI (k c:Int):Int:=k*c / 6
def mI (k c:Int):Int:=min 32768 (dI k c*lI k c*(k*c))
theorem adF (k r c w:Int):aY Tryz.prog 119 [aA k r c w] ⟨aE (if bL k r c w then 0 else 2),[]⟩:=by
 refine bB follows Tryz.func119 (by unfold Tryz.f119;rfl) (by unfold Tryz.f119;simp) aD (by unfold Tryz.f119;simp) (by kernel_rfl) ?_;unfold Tryz.f119
 by_cases hb:1≤k∧k≤12∧8≤c∧c≤64
 ·have hw:IntKind.i64.wrap (k*c)=k*c:=dU (by have:=ab0 hb.1 hb.2.1 hb.2.2.1 hb.2.2.2;omega) (by have:=ab0 hb.1 hb.2.1 hb.2.2.1 hb.2.2.2;omega)
  replace hb:=aB.mk hb
  simp only [↓pre,simprocAttr,aA,sx,adw,hw,aD];repeat' ((first | refine xX (fun _ => ?_) (fun _ => ?_) | refine aip (fun _ => ?_) (fun _ => ?_)) <;> simp only [↓pre,simprocAttr,aA,sx,adw,hw,aD, *])
  all_goals skip
  all_goals have hb:=hb.out
  all_goals (first | (exfalso;omega) | (rw [if_neg (by rw [jE];omega)];done) | (rw [if_pos (by rw [jE];omega)];done))
 ·replace hb:=aB.mk hb
  simp only [↓pre,simprocAttr,aA,sx,adw,aD];repeat' ((first | refine xX (fun _ => ?_) (fun _ => ?_) | refine aip (fun _ => ?_) (fun _ => ?_)) <;> simp only [↓pre,simprocAttr,aA,sx,adw,aD, *])
  all_goals skip
  all_goals have hb:=hb.out
  all_goals (first | (exfalso;omega) | (rw [if_neg (by rw [jE];omega)];done))
theorem aaB (k r c w:Int):aY Tryz.prog 97 [aA k r c w] ⟨bC (bL k r c w),[]⟩:=by
 refine bB follows Tryz.func97 (by unfold Tryz.f97;rfl) (by unfold Tryz.f97;simp) aD (by unfold Tryz.f97;simp) (by kernel_rfl) ?_;unfold Tryz.f97
 by_cases hb:1≤k∧k≤12∧8≤c∧c≤64
 ·have hw:IntKind.i64.wrap (k*c)=k*c:=dU (by have:=ab0 hb.1 hb.2.1 hb.2.2.1 hb.2.2.2;omega) (by have:=ab0 hb.1 hb.2.1 hb.2.2.1 hb.2.2.2;omega)
  replace hb:=aB.mk hb
  simp only [↓pre,simprocAttr,aA,sx,adu,hw,aD];repeat' ((refine xX (fun _ => ?_) (fun _ => ?_)) <;> simp only [↓pre,simprocAttr,aA,sx,adu,hw,aD, *])
  all_goals refine ac7 ?_
  all_goals simp only [decide_eq_true_eq,decide_eq_false_iff_not,jE,reduceCtorEq,false_iff,true_iff]
  all_goals have hb:=hb.out
  all_goals omega
 ·replace hb:=aB.mk hb
  simp only [↓pre,simprocAttr,aA,sx,adu,aD];repeat' ((refine xX (fun _ => ?_) (fun _ => ?_)) <;> simp only [↓pre,simprocAttr,aA,sx,adu,aD, *])
  all_goals refine ac7 ?_
  all_goals simp only [decide_eq_true_eq,decide_eq_false_iff_not,jE,reduceCtorEq,false_iff,true_iff]
  all_goals have hb:=hb.out
  all_goals omega
theorem ab1 (k r c w:Int) (h:bL k r c w=true):aY Tryz.prog 222 [aA k r c w] ⟨aE (wI k c),[]⟩:=by
 refine bB follows Tryz.func222 (by unfold Tryz.f222;rfl) (by unfold Tryz.f222;simp) aD (by unfold Tryz.f222;simp) (by kernel_rfl) ?_;unfold Tryz.f222
 have hw:IntKind.i64.wrap (k*c)=k*c:=dU (by have:=gU h;omega) (by have:=gU h;omega)
 simp only [↓pre,simprocAttr,aA,sx,apY,hw,aD,wI]
theorem aaC {a b:Int} (h:0≤a):a.tdiv b=a / b:=Int.tdiv_eq_ediv_of_nonneg h
theorem wP {x:Int} (h:32≤x) (h2:x≤768):4≤(x - 7) / 6∧(x - 7) / 6≤126:=by omega
theorem rF {x:Int} (h:32≤x) (h2:x≤768):5≤x / 6∧x / 6≤128:=by omega
theorem akS {x:Int} (h:32≤x) (h2:x≤768):20≤(x - 7) / 6*(x / 6)∧(x - 7) / 6*(x / 6)≤16128∧640≤(x - 7) / 6*(x / 6)*x∧(x - 7) / 6*(x / 6)*x≤12386304:=by
 have hd:=wP h h2
 have hl:=rF h h2
 have a:4*5≤(x - 7) / 6*(x / 6):=Int.mul_le_mul hd.1 hl.1 (by omega) (by omega)
 have b:(x - 7) / 6*(x / 6)≤126*128:=Int.mul_le_mul hd.2 hl.2 (by omega) (by omega)
 have c:20*32≤(x - 7) / 6*(x / 6)*x:=Int.mul_le_mul (by omega) h (by omega) (by omega)
 have d:(x - 7) / 6*(x / 6)*x≤16128*768:=Int.mul_le_mul (by omega) h2 (by omega) (by omega)
 omega
theorem akT (k r c w:Int) (h:bL k r c w=true):aY Tryz.prog 223 [aA k r c w] ⟨aE (dI k c),[]⟩:=by
 refine bB follows Tryz.func223 (by unfold Tryz.f223;rfl) (by unfold Tryz.f223;simp) aD (by unfold Tryz.f223;simp) (by kernel_rfl) ?_;unfold Tryz.f223
 have hw:=gU h
 simp only [↓pre,simprocAttr,aA,sx,akJ,aD]
 refine aL (ab1 _ _ _ _ h) rfl ?_
 simp only [↓pre,simprocAttr,aA,sx,akJ,aD,wI,dU (show -9223372036854775808≤k*c - 7 by omega) (by omega),aaC (show 0≤k*c - 7 by omega),dU (show -9223372036854775808≤(k*c - 7) / 6 by omega) (by omega),dI]
theorem afS (k r c w:Int) (h:bL k r c w=true):aY Tryz.prog 216 [aA k r c w] ⟨aE (lI k c),[]⟩:=by
 refine bB follows Tryz.func216 (by unfold Tryz.f216;rfl) (by unfold Tryz.f216;simp) aD (by unfold Tryz.f216;simp) (by kernel_rfl) ?_;unfold Tryz.f216
 have hw:=gU h
 simp only [↓pre,simprocAttr,aA,sx,akI,aD]
 refine aL (ab1 _ _ _ _ h) rfl ?_
 simp only [↓pre,simprocAttr,aA,sx,akI,aD,wI,aaC (show 0≤k*c by omega),dU (show -9223372036854775808≤(k*c) / 6 by omega) (by omega),lI]
theorem ap7 (k c:Int):min (dI k c*lI k c*wI k c) 32768=mI k c:=by unfold mI wI;omega
theorem akU {k r c w:Int} (h:bL k r c w=true):IntKind.i64.wrap (dI k c*lI k c)=dI k c*lI k c:=by
 have hw:=gU h
 have:=akS hw.1 hw.2
 unfold dI lI
 exact dU (by omega) (by omega)
theorem akV {k r c w:Int} (h:bL k r c w=true):IntKind.i64.wrap (dI k c*lI k c*wI k c)=dI k c*lI k c*wI k c:=by
 have hw:=gU h
 have:=akS hw.1 hw.2
 unfold dI lI wI
 exact dU (by omega) (by omega)
theorem akW (k r c w:Int) (h:bL k r c w=true):aY Tryz.prog 184 [aA k r c w] ⟨aE (mI k c),[]⟩:=by
 refine bB follows Tryz.func184 (by unfold Tryz.f184;rfl) (by unfold Tryz.f184;simp) aD (by unfold Tryz.f184;simp) (by kernel_rfl) ?_;unfold Tryz.f184
 simp only [↓pre,simprocAttr,aA,sx,adz,aD]
 (refine bM (akT _ _ _ _ h) rfl (by intro k;rfl) ?_)
 simp only [↓pre,simprocAttr,aA,sx,adz,aD]
 (refine bM (afS _ _ _ _ h) rfl (by intro k;rfl) ?_)
 simp only [↓pre,simprocAttr,aA,sx,adz,aD]
 (refine bM (ab1 _ _ _ _ h) rfl (by intro k;rfl) ?_)
 simp only [↓pre,simprocAttr,aA,sx,adz,aD,akU h,akV h,ap7]
def gD (a b:Int):Int:=(a+b - 1) / b
theorem akX (a b:Int) (ha:0≤a) (ha2:a≤1000000) (hb:1≤b) (hb2:b≤1000000):aY Tryz.prog 221 [aE a,aE b] ⟨aE (gD a b),[]⟩:=by
 refine bB follows Tryz.func221 (by unfold Tryz.f221;rfl) (by unfold Tryz.f221;simp) aD (by unfold Tryz.f221;simp) (by kernel_rfl) ?_;unfold Tryz.f221
 have h1:IntKind.i64.wrap (b - 1)=b - 1:=dU (by omega) (by omega)
 have h2:IntKind.i64.wrap (a+(b - 1))=a+(b - 1):=dU (by omega) (by omega)
 have h3:(a+(b - 1)).tdiv b=gD a b:=by rw [aaC (by omega)];unfold gD;congr 1;omega
 have h4:0≤gD a b:=by unfold gD;exact Int.ediv_nonneg (by omega) (by omega)
 have h5:gD a b≤2000000:=by unfold gD;exact Int.le_trans (Int.ediv_le_self _ (by omega)) (by omega)
 have h6:IntKind.i64.wrap (gD a b)=gD a b:=dU (by omega) (by omega)
 have hb0:b≠0:=by omega
 simp only [↓pre,simprocAttr,aA,sx,apX,aD,h1,h2,h3,h6,hb0]
theorem akY (a b:Int) (ha:0≤a) (ha2:a≤1000000) (hb:1≤b) (hb2:b≤1000000):aY Tryz.prog 246 [aE a,aE b] ⟨aE (gD a b),[]⟩:=by
 refine bB follows Tryz.func246 (by unfold Tryz.f246;rfl) (by unfold Tryz.f246;simp) aD (by unfold Tryz.f246;simp) (by kernel_rfl) ?_;unfold Tryz.f246
 have h2:IntKind.i64.wrap (a+b)=a+b:=dU (by omega) (by omega)
 have h1:IntKind.i64.wrap (a+b - 1)=a+b - 1:=dU (by omega) (by omega)
 have h3:(a+b - 1).tdiv b=gD a b:=by rw [aaC (by omega)];unfold gD;rfl
 have h4:0≤gD a b:=by unfold gD;exact Int.ediv_nonneg (by omega) (by omega)
 have h5:gD a b≤2000000:=by unfold gD;exact Int.le_trans (Int.ediv_le_self _ (by omega)) (by omega)
 have h6:IntKind.i64.wrap (gD a b)=gD a b:=dU (by omega) (by omega)
 have hb0:b≠0:=by omega
 simp only [↓pre,simprocAttr,aA,sx,ap0,aD,h1,h2,h3,h6,hb0]
theorem wQ (k r c w:Int) (h:bL k r c w=true):aY Tryz.prog 187 [aA k r c w] ⟨aE (wI k c),[]⟩:=by
 refine bB follows Tryz.func187 (by unfold Tryz.f187;rfl) (by unfold Tryz.f187;simp) aD (by unfold Tryz.f187;simp) (by kernel_rfl) ?_;unfold Tryz.f187
 have hw:IntKind.i64.wrap (k*c)=k*c:=dU (by have:=gU h;omega) (by have:=gU h;omega)
 simp only [↓pre,simprocAttr,aA,sx,apV,hw,aD,wI]
theorem afT (k r c w:Int) (h:bL k r c w=true):aY Tryz.prog 185 [aA k r c w] ⟨aE (dI k c),[]⟩:=by
 refine bB follows Tryz.func185 (by unfold Tryz.f185;rfl) (by unfold Tryz.f185;simp) aD (by unfold Tryz.f185;simp) (by kernel_rfl) ?_;unfold Tryz.f185
 have hw:=gU h
 simp only [↓pre,simprocAttr,aA,sx,akE,aD]
 refine aL (wQ _ _ _ _ h) rfl ?_
 simp only [↓pre,simprocAttr,aA,sx,akE,aD,wI,dU (show -9223372036854775808≤k*c - 7 by omega) (by omega),aaC (show 0≤k*c - 7 by omega),dU (show -9223372036854775808≤(k*c - 7) / 6 by omega) (by omega),dI]
theorem adG (k r c w:Int) (h:bL k r c w=true):aY Tryz.prog 186 [aA k r c w] ⟨aE (lI k c),[]⟩:=by
 refine bB follows Tryz.func186 (by unfold Tryz.f186;rfl) (by unfold Tryz.f186;simp) aD (by unfold Tryz.f186;simp) (by kernel_rfl) ?_;unfold Tryz.f186
 have hw:=gU h
 simp only [↓pre,simprocAttr,aA,sx,akF,aD]
 refine aL (wQ _ _ _ _ h) rfl ?_
 simp only [↓pre,simprocAttr,aA,sx,akF,aD,wI,aaC (show 0≤k*c by omega),dU (show -9223372036854775808≤(k*c) / 6 by omega) (by omega),lI]
theorem ap8 (k c:Int):min 32768 (dI k c*lI k c*wI k c)=mI k c:=by unfold mI wI;omega
theorem afU (k r c w:Int) (h:bL k r c w=true):aY Tryz.prog 106 [aA k r c w] ⟨aE (mI k c),[]⟩:=by
 refine bB follows Tryz.func106 (by unfold Tryz.f106;rfl) (by unfold Tryz.f106;simp) aD (by unfold Tryz.f106;simp) (by kernel_rfl) ?_;unfold Tryz.f106
 simp only [↓pre,simprocAttr,aA,sx,adv,aD]
 (refine bM (afT _ _ _ _ h) rfl (by intro k;rfl) ?_)
 simp only [↓pre,simprocAttr,aA,sx,adv,aD]
 (refine bM (adG _ _ _ _ h) rfl (by intro k;rfl) ?_)
 simp only [↓pre,simprocAttr,aA,sx,adv,aD]
 (refine bM (wQ _ _ _ _ h) rfl (by intro k;rfl) ?_)
 simp only [↓pre,simprocAttr,aA,sx,adv,aD,akU h,akV h,ap8]
def sI (k c n:Int):Int:=gD n (wI k c)
def fI (k c n:Int):Int:=if sI k c n≤dI k c then 0 else gD (sI k c n) (lI k c)
theorem aaD {a b:Int} (ha:0≤a) (ha2:a≤32768) (hb:1≤b) (hb2:b≤1000):0≤gD a b∧gD a b≤33768:=by
 unfold gD
 exact ⟨Int.ediv_nonneg (by omega) (by omega),Int.le_trans (Int.ediv_le_self _ (by omega)) (by omega)⟩
theorem aaE (k c:Int):mI k c≤32768:=by unfold mI;omega
theorem adH (k r c w n:Int) (h:bL k r c w=true) (hn:0≤n) (hm:n≤mI k c):aY Tryz.prog 188 [aA k r c w,aE n] ⟨.tup [aE (sI k c n),aE (fI k c n)],[]⟩:=by
 refine bB follows Tryz.func188 (by unfold Tryz.f188;rfl) (by unfold Tryz.f188;simp) aD (by unfold Tryz.f188;simp) (by kernel_rfl) ?_;unfold Tryz.f188
 have hw:=gU h
 have:=aaE k c
 have hl:=rF hw.1 hw.2
 have hs:=aaD (a:=n) (b:=wI k c) hn (by omega) (by unfold wI;omega) (by unfold wI;omega)
 simp only [↓pre,simprocAttr,aA,sx,wE,aD]
 refine aL (wQ _ _ _ _ h) rfl ?_
 simp only [↓pre,simprocAttr,aA,sx,wE,aD]
 (refine aL (akY _ _ hn (by omega) (by unfold wI;omega) (by unfold wI;omega)) rfl ?_)
 simp only [↓pre,simprocAttr,aA,sx,wE,aD]
 refine aL (afT _ _ _ _ h) rfl ?_
 simp only [↓pre,simprocAttr,aA,sx,wE,aD]
 refine abv (fun hc => ?_) (fun hc => ?_)
 ·simp only [↓pre,simprocAttr,aA,sx,wE,aD,fI,sI,of_decide_eq_true hc]
 ·have hc:=of_decide_eq_false hc
  simp only [↓pre,simprocAttr,aA,sx,wE,aD]
  refine aL (adG _ _ _ _ h) rfl ?_
  simp only [↓pre,simprocAttr,aA,sx,wE,aD]
  (refine aL (akY _ _ hs.1 (by omega) (by unfold lI;omega) (by unfold lI;omega)) rfl ?_)
  simp only [↓pre,simprocAttr,aA,sx,wE,aD,fI,sI,hc]
theorem adI (k r c w n:Int) (g:FuncId) (hg:bL k r c w=true→aY Tryz.prog g [aA k r c w] ⟨aE n,[]⟩):aY Tryz.prog 183 [aA k r c w,.clo g []] ⟨.tup [aE (if bL k r c w then n else 0),aE (if bL k r c w then 0 else 2)],[]⟩:=by
 refine bB follows Tryz.func183 (by unfold Tryz.f183;rfl) (by unfold Tryz.f183;simp) aD (by unfold Tryz.f183;simp) (by kernel_rfl) ?_;unfold Tryz.f183
 cases h:bL k r c w with
 | false=>simp only [↓pre,simprocAttr,aA,sx,ady,aD,h];repeat' ((refine aL (adF _ _ _ _) (by rfl) ?_) <;> simp only [↓pre,simprocAttr,aA,sx,ady,aD,h, *])
 | true=>simp only [↓pre,simprocAttr,aA,sx,ady,aD,h];repeat' ((first | refine aL (adF _ _ _ _) (by rfl) ?_ | refine aL (hg h) (by rfl) ?_) <;> simp only [↓pre,simprocAttr,aA,sx,ady,aD,h, *])
theorem gF {k r c w:Int} (h:bL k r c w=true):1≤k+r∧k+r≤16∧8≤c∧c≤64∧1≤k∧0≤r:=by
 rw [jE] at h
 omega
theorem ap9 (k r c w:Int) (h:bL k r c w=true):aY Tryz.prog 241 [aA k r c w] ⟨aE (k+r),[]⟩:=by
 have hn:=gF h
 have w1:IntKind.i64.wrap (k+r)=k+r:=dU (by omega) (by omega)
 refine bB follows Tryz.func241 (by unfold Tryz.f241;rfl) (by unfold Tryz.f241;simp) aD (by unfold Tryz.f241;simp) (by kernel_rfl) ?_;unfold Tryz.f241
 simp only [↓pre,simprocAttr,aA,sx,apZ,aD,w1]
theorem tO (k r c w:Int):aY Tryz.prog 173 [aA k r c w] ⟨.tup [aE (if bL k r c w then k+r else 0),aE (if bL k r c w then 0 else 2)],[]⟩:=by
 refine bB follows Tryz.func173 (by unfold Tryz.f173;rfl) (by unfold Tryz.f173;simp) aD (by unfold Tryz.f173;simp) (by kernel_rfl) ?_;unfold Tryz.f173
 simp only [↓pre,simprocAttr,aA,sx,akA,aD];repeat' ((refine aL (adI _ _ _ _ _ _ (ap9 k r c w)) (by rfl) ?_) <;> simp only [↓pre,simprocAttr,aA,sx,akA,aD, *])
def dV (k r c:Int):Int:=12+4*(k+r)+c
theorem yJ (k r c w:Int):aY Tryz.prog 170 [aA k r c w] ⟨.tup [aE (if bL k r c w then dV k r c else 0),aE (if bL k r c w then 0 else 2)],[]⟩:=by
 refine bB follows Tryz.func170 (by unfold Tryz.f170;rfl) (by unfold Tryz.f170;simp) aD (by unfold Tryz.f170;simp) (by kernel_rfl) ?_;unfold Tryz.f170
 cases h:bL k r c w with
 | false=>simp only [↓pre,simprocAttr,aA,sx,adx,aD,h,Bool.false_eq_true];repeat' ((refine aL (tO _ _ _ _) (by rfl) ?_) <;> simp only [↓pre,simprocAttr,aA,sx,adx,aD,h,Bool.false_eq_true, *])
 | true =>
  have hn:=gF h
  have w1:IntKind.i64.wrap (4*(k+r))=4*(k+r):=dU (by omega) (by omega)
  have w2:IntKind.i64.wrap (12+4*(k+r))=12+4*(k+r):=dU (by omega) (by omega)
  have w3:IntKind.i64.wrap (12+4*(k+r)+c)=12+4*(k+r)+c:=dU (by omega) (by omega)
  replace hn:=aB.mk hn
  simp only [↓pre,simprocAttr,aA,sx,adx,aD,h,w1,w2,w3,dV];repeat' ((refine aL (tO _ _ _ _) (by rfl) ?_) <;> simp only [↓pre,simprocAttr,aA,sx,adx,aD,h,w1,w2,w3,dV, *])
theorem tP (k r c w:Int) (h:bL k r c w=true):aY Tryz.prog 98 [aA k r c w] ⟨aE (k+r),[]⟩:=by
 have hn:=gF h
 have w1:IntKind.i64.wrap (k+r)=k+r:=dU (by omega) (by omega)
 refine bB follows Tryz.func98 (by unfold Tryz.f98;rfl) (by unfold Tryz.f98;simp) aD (by unfold Tryz.f98;simp) (by kernel_rfl) ?_;unfold Tryz.f98
 simp only [↓pre,simprocAttr,aA,sx,apS,aD,w1]
theorem aaF (k r c w:Int) (h:bL k r c w=true):aY Tryz.prog 210 [aA k r c w] ⟨aE (dV k r c),[]⟩:=by
 have hn:=gF h
 have w1:IntKind.i64.wrap (4*(k+r))=4*(k+r):=dU (by omega) (by omega)
 have w2:IntKind.i64.wrap (12+4*(k+r))=12+4*(k+r):=dU (by omega) (by omega)
 have w3:IntKind.i64.wrap (12+4*(k+r)+c)=12+4*(k+r)+c:=dU (by omega) (by omega)
 refine bB follows Tryz.func210 (by unfold Tryz.f210;rfl) (by unfold Tryz.f210;simp) aD (by unfold Tryz.f210;simp) (by kernel_rfl) ?_;unfold Tryz.f210
 simp only [↓pre,simprocAttr,aA,sx,akH,aD]
 (refine bM (tP _ _ _ _ h) (by rfl) (by intro k;rfl) ?_);simp only [↓pre,simprocAttr,aA,sx,akH,aD,w1,w2,w3,dV]
def gV (n:Int):Bool:=decide (1≤n∧n≤1073741824)
theorem aqa (n:Int):aY Tryz.prog 252 [aE n] ⟨bC (gV n),[]⟩:=by
 refine bB follows Tryz.func252 (by unfold Tryz.f252;rfl) (by unfold Tryz.f252;simp) aD (by unfold Tryz.f252;simp) (by kernel_rfl) ?_;unfold Tryz.f252
 simp only [↓pre,simprocAttr,aA,sx,akO,aD,bC];repeat' ((refine xX (fun _ => ?_) (fun _ => ?_)) <;> simp only [↓pre,simprocAttr,aA,sx,akO,aD,bC, *])
 all_goals refine ac7 ?_
 all_goals simp [gV]
 all_goals omega
theorem aqb (n:Int):aY Tryz.prog 328 [aE n] ⟨bC (!gV n),[]⟩:=by
 refine bB follows Tryz.func328 (by unfold Tryz.f328;rfl) (by unfold Tryz.f328;simp) aD (by unfold Tryz.f328;simp) (by kernel_rfl) ?_;unfold Tryz.f328
 simp only [↓pre,simprocAttr,aA,sx,akR,aD,bC]
 refine aL (aqa n) (by rfl) ?_;simp only [↓pre,simprocAttr,aA,sx,akR,aD,bC]
theorem aqc (n:Int):aY Tryz.prog 113 [aE n] ⟨bC (gV n),[]⟩:=by
 refine bB follows Tryz.func113 (by unfold Tryz.f113;rfl) (by unfold Tryz.f113;simp) aD (by unfold Tryz.f113;simp) (by kernel_rfl) ?_;unfold Tryz.f113
 simp only [↓pre,simprocAttr,aA,sx,akv,aD,bC];repeat' ((refine xX (fun _ => ?_) (fun _ => ?_)) <;> simp only [↓pre,simprocAttr,aA,sx,akv,aD,bC, *])
 all_goals refine ac7 ?_
 all_goals simp [gV]
 all_goals omega
def oE (k r c w n:Int):Int:=if bL k r c w=true then (if n < 0 then 2 else if mI k c < n then 3 else 0) else 2
def oS (k r c w n:Int):Int:=if oE k r c w n=0 then sI k c n else 0
def oF (k r c w n:Int):Int:=if oE k r c w n=0 then fI k c n else 0
theorem afV (k r c w n:Int):aY Tryz.prog 140 [aA k r c w,aE n] ⟨.tup [aE (oS k r c w n),aE (oF k r c w n),aE (oE k r c w n)],[]⟩:=by
 refine bB follows Tryz.func140 (by unfold Tryz.f140;rfl) (by unfold Tryz.f140;simp) aD (by unfold Tryz.f140;simp) (by kernel_rfl) ?_;unfold Tryz.f140
 simp only [↓pre,simprocAttr,aA,sx,oB,aD]
 refine aL (adF _ _ _ _) rfl ?_
 cases h:bL k r c w with
 | false=>simp only [↓pre,simprocAttr,aA,sx,oB,aD,h,oS,oF,oE,Bool.false_eq_true]
 | true =>
  have hw:=gU h
  have hd:=wP hw.1 hw.2
  have hl:=rF hw.1 hw.2
  have hmm:=aaE k c
  simp only [↓pre,simprocAttr,aA,sx,oB,aD]
  refine abv (fun hn => ?_) (fun hn => ?_)
  ·have hn:=of_decide_eq_true hn
   simp only [↓pre,simprocAttr,aA,sx,oB,aD,h,oS,oF,oE,hn]
  ·have hn:=of_decide_eq_false hn
   simp only [↓pre,simprocAttr,aA,sx,oB,aD,oS,oF,oE,h,hn]
   refine aL (akW _ _ _ _ h) rfl ?_
   simp only [↓pre,simprocAttr,aA,sx,oB,aD]
   refine abv (fun hb => ?_) (fun hb => ?_)
   ·have hb:=of_decide_eq_true hb
    simp only [↓pre,simprocAttr,aA,sx,oB,aD,hb]
   ·have hb:=of_decide_eq_false hb
    simp only [↓pre,simprocAttr,aA,sx,oB,aD]
    refine aL (ab1 _ _ _ _ h) rfl ?_
    simp only [↓pre,simprocAttr,aA,sx,oB,aD]
    (refine aL (akX _ _ (by omega) (by omega) (by unfold wI;omega) (by unfold wI;omega)) rfl ?_)
    simp only [↓pre,simprocAttr,aA,sx,oB,aD]
    refine aL (akT _ _ _ _ h) rfl ?_
    simp only [↓pre,simprocAttr,aA,sx,oB,aD]
    have hs:=aaD (a:=n) (b:=wI k c) (by omega) (by omega) (by unfold wI;omega) (by unfold wI;omega)
    refine abv (fun hc => ?_) (fun hc => ?_)
    ·have hc:=of_decide_eq_true hc
     simp only [↓pre,simprocAttr,aA,sx,oB,aD]
     refine aL (afS _ _ _ _ h) rfl ?_
     simp only [↓pre,simprocAttr,aA,sx,oB,aD]
     (refine aL (akX _ _ hs.1 (by omega) (by unfold lI;omega) (by unfold lI;omega)) rfl ?_)
     simp only [↓pre,simprocAttr,aA,sx,oB,aD,hb,fI,sI,show ¬ gD n (wI k c)≤dI k c by omega]
    ·have hc:=of_decide_eq_false hc
     simp only [↓pre,simprocAttr,aA,sx,oB,aD,hb,fI,sI,show gD n (wI k c)≤dI k c by omega]
theorem akZ (k r c w n:Int):aY Tryz.prog 67 [aA k r c w,aE n] ⟨.tup [aE (oS k r c w n),aE (oE k r c w n)],[]⟩:=by
 refine bB follows Tryz.func67 (by unfold Tryz.f67;rfl) (by unfold Tryz.f67;simp) aD (by unfold Tryz.f67;simp) (by kernel_rfl) ?_;unfold Tryz.f67
 simp only [↓pre,simprocAttr,aA,sx,akq,aD]
 refine aL (afV _ _ _ _ _) rfl ?_
 simp only [↓pre,simprocAttr,aA,sx,akq,aD]
theorem aqd (k r c w n:Int):aY Tryz.prog 68 [aA k r c w,aE n] ⟨.tup [aE (oF k r c w n),aE (oE k r c w n)],[]⟩:=by
 refine bB follows Tryz.func68 (by unfold Tryz.f68;rfl) (by unfold Tryz.f68;simp) aD (by unfold Tryz.f68;simp) (by kernel_rfl) ?_;unfold Tryz.f68
 simp only [↓pre,simprocAttr,aA,sx,akr,aD]
 refine aL (afV _ _ _ _ _) rfl ?_
 simp only [↓pre,simprocAttr,aA,sx,akr,aD]
theorem aqe (k r c w n:Int):aY Tryz.prog 250 [aA k r c w,aE n] ⟨.tup [aE (min (oF k r c w n) 1),aE (oE k r c w n)],[]⟩:=by
 have h1:=afV k r c w n
 refine bB follows Tryz.func250 (by unfold Tryz.f250;rfl) (by unfold Tryz.f250;simp) aD (by unfold Tryz.f250;simp) (by kernel_rfl) ?_;unfold Tryz.f250
 simp only [↓pre,simprocAttr,aA,sx,akN,aD]
 refine aL (h1) (by rfl) ?_;simp only [↓pre,simprocAttr,aA,sx,akN,aD]
theorem afW (k r c w:Int):aY Tryz.prog 182 [aA k r c w] ⟨.tup [aE (if bL k r c w then wI k c else 0),aE (if bL k r c w then 0 else 2)],[]⟩:=by
 have h1:=adI k r c w (wI k c) 222 (fun h=>ab1 k r c w h)
 refine bB follows Tryz.func182 (by unfold Tryz.f182;rfl) (by unfold Tryz.f182;simp) aD (by unfold Tryz.f182;simp) (by kernel_rfl) ?_;unfold Tryz.f182
 simp only [↓pre,simprocAttr,aA,sx,akD,aD]
 refine aL (h1) (by rfl) ?_;simp only [↓pre,simprocAttr,aA,sx,akD,aD]
theorem afX (k r c w:Int):aY Tryz.prog 133 [aA k r c w] ⟨.tup [aE (if bL k r c w then lI k c else 0),aE (if bL k r c w then 0 else 2)],[]⟩:=by
 have h1:=adI k r c w (lI k c) 216 (fun h=>afS k r c w h)
 refine bB follows Tryz.func133 (by unfold Tryz.f133;rfl) (by unfold Tryz.f133;simp) aD (by unfold Tryz.f133;simp) (by kernel_rfl) ?_;unfold Tryz.f133
 simp only [↓pre,simprocAttr,aA,sx,aky,aD]
 refine aL (h1) (by rfl) ?_;simp only [↓pre,simprocAttr,aA,sx,aky,aD]
theorem aqf (k r c w:Int):aY Tryz.prog 105 [aA k r c w] ⟨.tup [aE (if bL k r c w then mI k c else 0),aE (if bL k r c w then 0 else 2)],[]⟩:=by
 have h1:=adI k r c w (mI k c) 184 (fun h=>akW k r c w h)
 refine bB follows Tryz.func105 (by unfold Tryz.f105;rfl) (by unfold Tryz.f105;simp) aD (by unfold Tryz.f105;simp) (by kernel_rfl) ?_;unfold Tryz.f105
 simp only [↓pre,simprocAttr,aA,sx,aku,aD]
 refine aL (h1) (by rfl) ?_;simp only [↓pre,simprocAttr,aA,sx,aku,aD]
def cJ (l:List Int):List AV:=l.map aE
theorem sM {l:List Int} {x:List AV} {i:Nat} {n:Int} (h:l[i]? = some n):(cJ l++x)[i]? = some (.val (.int .i64 n)):=by
 have hi:=(List.getElem?_eq_some_iff.1 h).1
 rw [List.getElem?_append_left (by simpa [cJ] using hi)]
 simp [cJ,h,aE]
def yK (p:Int→Bool) (l:List Int):Int:=match l.findIdx? p with
 | some i=>(i:Nat)
 | none => -1
theorem aqg {p:Int→Bool} {l:List Int} {i:Nat} {n:Int} (h:l[i]? = some n) (hp:p n=true) (hb:∀ (j:Nat) (m:Int),j < i→l[j]? = some m→p m=false):yK p l=(i:Nat):=by
 obtain ⟨hi1,hi2⟩:=(List.getElem?_eq_some_iff.1 h)
 have:l.findIdx? p=some i:=by
  rw [List.findIdx?_eq_some_iff_getElem]
  refine ⟨hi1,by rw [hi2];exact hp,fun j hj => ?_⟩
  simpa using hb j _ hj (List.getElem?_eq_getElem (Nat.lt_trans hj hi1))
 rw [yK,this]
theorem aqh {p:Int→Bool} {l:List Int} (hb:∀ (j:Nat) (m:Int),l[j]? = some m→p m=false):yK p l = -1:=by
 have:l.findIdx? p=none:=by
  rw [List.findIdx?_eq_none_iff]
  intro m hm
  obtain ⟨j,hj,rfl⟩:=List.getElem_of_mem hm
  exact hb j _ (List.getElem?_eq_getElem hj)
 rw [yK,this]
theorem aqi (p:Int→Bool) (l:List Int):decide (0≤yK p l)=l.any p:=by
 unfold yK
 cases h:l.findIdx? p with
 | none =>
  rw [List.findIdx?_eq_none_iff] at h
  have:l.any p=false:=by rw [List.any_eq_false];intro m hm;rw [h m hm];decide
  rw [this];rfl
 | some i =>
  obtain ⟨hi,hp,_⟩:=List.findIdx?_eq_some_iff_getElem.1 h
  have:l.any p=true:=List.any_eq_true.2 ⟨_,List.getElem_mem hi,hp⟩
  rw [this]
  simp
theorem aqj (v:AV) (l:List Int) (x:List AV) (g:FuncId) (caps:List AV) (p:Int→Bool) (hv:bD v l.length (cJ l++x)) (hn:l.length≤1000000000000) (hc:dX caps=true) (hg:∀ n∈l,aY Tryz.prog g (aE n::caps) ⟨bC (p n),[]⟩):aY Tryz.prog 242 [v,.clo g caps] ⟨aE (yK p l),[]⟩:=by
 refine bB follows Tryz.func242 (by unfold Tryz.f242;rfl) (by unfold Tryz.f242;simp) aD (by unfold Tryz.f242;simp) (by kernel_rfl) ?_;unfold Tryz.f242
 have hpl:=hv.plain
 simp only [↓pre,simprocAttr,aA,sx,abO,aD,aC,hv.len']
 rw [b7]
 refine b8 (fun n e m=>∃ i,n+i=l.length∧e 0=v∧e 1 = .clo g caps∧e 7=aE (l.length:Nat)∧e 8=aE (i:Nat)∧∀ (j:Nat) (m:Int),j < i→l[j]? = some m→p m=false) l.length ⟨0,by omega, ?_⟩ ?_
 ·simp [bI.set,nV,aE]
 ·rintro n e m ⟨i,hi,e0,e1,e7,e8,hpre⟩
  replace hpre:=aB.mk hpre
  by_cases hlt:i < l.length
  ·have hlt':(i:Int) < (l.length:Nat):=by omega
   obtain ⟨a,ha⟩:∃ a,l[i]? = some a:=⟨_,List.getElem?_eq_getElem hlt⟩
   have a1:=sM (x:=x) ha
   have w1:=cF (n:=i) (by omega)
   have hga:=hg a (List.mem_of_getElem? ha)
   replace ha:=aB.mk ha
   simp only [↓pre,simprocAttr,aA,sx,abO,aD,aC,e0,e1,e7,e8,hlt',hv.addr',hlt,Nat.mul_one,a1,w1]
   cases hp:p a with
   | true =>
    have hx:=aqg ha.out hp hpre.out
    rw [hp] at hga
    refine aL hga (by simp only [dX,plain,aE,hc,Bool.and_true,Bool.and_self]) ?_
    simp only [↓pre,simprocAttr,aA,sx,abO,aD,aC,e0,e1,e7,e8,bC,hx]
   | false =>
    rw [hp] at hga
    refine aL hga (by simp only [dX,plain,aE,hc,Bool.and_true,Bool.and_self]) ?_
    simp only [↓pre,simprocAttr,aA,sx,abO,aD,aC,e0,e1,e7,e8,bC,w1]
    refine ⟨n - 1,by omega,i+1,by omega,rfl,fun j m hj hm => ?_⟩
    by_cases hji:j=i
    ·subst hji
     rw [ha.out] at hm
     cases hm
     exact hp
    ·exact hpre.out j m (by omega) hm
  ·have hlt':¬ (i:Int) < (l.length:Nat):=by omega
   have hx:=aqh (p:=p) (l:=l) fun j m hj=>hpre.out j m (by have:=(List.getElem?_eq_some_iff.1 hj).1;omega) hj
   simp only [↓pre,simprocAttr,aA,sx,abO,aD,aC,e0,e1,e7,e8,hlt',decide_false,cS,hx]
theorem ak0 (v:AV) (l:List Int) (x:List AV) (g:FuncId) (caps:List AV) (p:Int→Bool) (hv:bD v l.length (cJ l++x)) (hn:l.length≤1000000000000) (hc:dX caps=true) (hg:∀ n∈l,aY Tryz.prog g (aE n::caps) ⟨bC (p n),[]⟩):aY Tryz.prog 174 [v,.clo g caps] ⟨bC (l.any p),[]⟩:=by
 have h1:=aqj v l x g caps p hv hn hc hg
 have h2:=aqi p l
 have hpl:=hv.plain
 refine bB follows Tryz.func174 (by unfold Tryz.f174;rfl) (by unfold Tryz.f174;simp) aD (by unfold Tryz.f174;simp) (by kernel_rfl) ?_;unfold Tryz.f174
 simp only [↓pre,simprocAttr,aA,sx,akB,aD,bC]
 refine aL h1 (by simp only [dX,plain,hpl,hc,Bool.and_true,Bool.and_self]) ?_
 simp only [↓pre,simprocAttr,aA,sx,akB,aD,bC,h2]
def iQ (k r c w:Int) (l:List Int):Int:=if bL k r c w=true then (if (l.length:Int)=k+r then (if l.any (fun n => !gV n)=true then 70 else 0) else 70) else 2
theorem aqk (k r c w:Int) (v:AV) (l:List Int) (x:List AV) (hv:bD v l.length (cJ l++x)) (hn:l.length≤1000000000000):aY Tryz.prog 295 [aA k r c w,v] ⟨aE (iQ k r c w l),[]⟩:=by
 have hc:=ak0 v l x 328 [] (fun n => !gV n) hv hn rfl (fun n _=>aqb n)
 have hp:=hv.plain
 refine bB follows Tryz.func295 (by unfold Tryz.f295;rfl) (by unfold Tryz.f295;simp) aD (by unfold Tryz.f295;simp) (by kernel_rfl) ?_;unfold Tryz.f295
 cases h:bL k r c w with
 | false =>
  have he:iQ k r c w l=2:=by simp [iQ,h]
  simp only [↓pre,simprocAttr,aA,sx,wK,aD,h,Bool.false_eq_true,he];repeat' ((refine aL (tO _ _ _ _) (by rfl) ?_) <;> simp only [↓pre,simprocAttr,aA,sx,wK,aD,h,Bool.false_eq_true,he, *])
 | true =>
  by_cases hl:(l.length:Int)=k+r
  ·cases ha:l.any (fun n => !gV n) with
   | true =>
    have he:iQ k r c w l=70:=by rw [iQ,if_pos h,if_pos hl,if_pos ha]
    rw [ha] at hc
    simp only [↓pre,simprocAttr,aA,sx,wK,aD,aC,h,hv.len',hl,he,bC];repeat' ((first | refine aL (tO _ _ _ _) (by rfl) ?_ | refine aL (hc) (by simp only [aA,aO, *]) ?_) <;> simp only [↓pre,simprocAttr,aA,sx,wK,aD,aC,h,hv.len',hl,he,bC, *])
   | false =>
    have he:iQ k r c w l=0:=by rw [iQ,if_pos h,if_pos hl,if_neg (by rw [ha];decide)]
    rw [ha] at hc
    simp only [↓pre,simprocAttr,aA,sx,wK,aD,aC,h,hv.len',hl,he,bC];repeat' ((first | refine aL (tO _ _ _ _) (by rfl) ?_ | refine aL (hc) (by simp only [aA,aO, *]) ?_) <;> simp only [↓pre,simprocAttr,aA,sx,wK,aD,aC,h,hv.len',hl,he,bC, *])
  ·have he:iQ k r c w l=70:=by rw [iQ,if_pos h,if_neg hl]
   simp only [↓pre,simprocAttr,aA,sx,wK,aD,aC,h,hv.len',hl,he,bC];repeat' ((refine aL (tO _ _ _ _) (by rfl) ?_) <;> simp only [↓pre,simprocAttr,aA,sx,wK,aD,aC,h,hv.len',hl,he,bC, *])
def jK (l:List Int):Int:=l.foldl max 0
theorem ak1 {l:List Int} {i:Nat} {n:Int} (h:l[i]? = some n):jK (l.take (i+1))=max (jK (l.take i)) n:=by
 rw [List.take_add_one,h]
 simp [jK]
theorem aql (k r c w:Int) (v:AV) (l:List Int) (x:List AV) (hv:bD v l.length (cJ l++x)) (hn:l.length≤1000000000000):aY Tryz.prog 240 [aA k r c w,v] ⟨.tup [aE (if iQ k r c w l=0 then jK l else 0),aE (iQ k r c w l)],[]⟩:=by
 have hc:=aqk k r c w v l x hv hn
 have hp:=hv.plain
 refine bB follows Tryz.func240 (by unfold Tryz.f240;rfl) (by unfold Tryz.f240;simp) aD (by unfold Tryz.f240;simp) (by kernel_rfl) ?_;unfold Tryz.f240
 simp only [↓pre,simprocAttr,aA,sx,abN,aD,aC]
 refine aL hc (by simp only [dX,plain,aA,aE,hp,Bool.and_true,Bool.and_self]) ?_
 by_cases he:iQ k r c w l=0
 ·simp only [↓pre,simprocAttr,aA,sx,abN,aD,aC,he,hv.len',eq_self]
  rw [b7]
  refine b8 (fun n e m=>∃ i,n+i=l.length∧e 16=v∧e 17=aE (l.length:Nat)∧e 18=aE (i:Nat)∧e 7=aE (jK (l.take i))) l.length ⟨0,by omega, ?_⟩ ?_
  ·simp [bI.set,nV,aE,jK]
  ·rintro n e m ⟨i,hi,e16,e17,e18,e7⟩
   by_cases hlt:i < l.length
   ·have hlt':(i:Int) < (l.length:Nat):=by omega
    obtain ⟨a,ha⟩:∃ a,l[i]? = some a:=⟨_,List.getElem?_eq_getElem hlt⟩
    have a1:=sM (x:=x) ha
    have a2:=ak1 ha
    have w1:=cF (n:=i) (by omega)
    simp only [↓pre,simprocAttr,aA,sx,abN,aD,aC,e16,e17,e18,e7,hlt',hv.addr',hlt,Nat.mul_one,a1,w1]
    exact ⟨n - 1,by omega,i+1,by omega,rfl,by rw [a2]⟩
   ·have hlt':¬ (i:Int) < (l.length:Nat):=by omega
    have ht:l.take i=l:=List.take_of_length_le (by omega)
    rw [ht] at e7
    simp only [↓pre,simprocAttr,aA,sx,abN,aD,aC,e16,e17,e18,e7,hlt',decide_false,cS]
 ·simp only [↓pre,simprocAttr,aA,sx,abN,aD,aC,he]
def pG (k r:Int) (l:List Int):Int:=if (l.length:Int)=k+r then (if l.any (fun n => !gV n)=true then 0 else jK l) else 0
theorem aqm (k r c w:Int) (hm:bL k r c w=true) (v:AV) (l:List Int) (x:List AV) (hv:bD v l.length (cJ l++x)) (hn:l.length≤1000000000000):aY Tryz.prog 341 [aA k r c w,v] ⟨aE (pG k r l),[]⟩:=by
 have hp:=hv.plain
 refine bB follows Tryz.func341 (by unfold Tryz.f341;rfl) (by unfold Tryz.f341;simp) aD (by unfold Tryz.f341;simp) (by kernel_rfl) ?_;unfold Tryz.f341
 simp only [↓pre,simprocAttr,aA,sx,yI,aD,aC,hv.len']
 by_cases hl:(l.length:Int)=k+r
 ·refine aL (tP _ _ _ _ hm) (by rfl) ?_;simp only [↓pre,simprocAttr,aA,sx,yI,aD,aC,hv.len',hl,eq_self]
  rw [b7]
  refine b8 (fun n e m=>∃ i,n+i=l.length∧e 1=v∧e 6=aE (i:Nat)∧e 5=aE (jK (l.take i))∧∀ (j:Nat) (a:Int),j < i→l[j]? = some a→gV a=true) l.length ⟨0,by omega, ?_⟩ ?_
  ·simp [bI.set,nV,aE,jK]
  ·rintro n e m ⟨i,hi,e1,e6,e5,hpre⟩
   replace hpre:=aB.mk hpre
   by_cases hlt:i < l.length
   ·have hlt':(i:Int) < (l.length:Nat):=by omega
    obtain ⟨a,ha⟩:∃ a,l[i]? = some a:=⟨_,List.getElem?_eq_getElem hlt⟩
    have a1:=sM (x:=x) ha
    have a2:=ak1 ha
    have w1:=cF (n:=i) (by omega)
    have hc:=aqc a
    replace hl:=aB.mk hl
    simp only [↓pre,simprocAttr,aA,sx,yI,aD,aC,hv.len',e1,e6,e5,hlt',hv.addr',hlt,Nat.mul_one,a1,w1]
    cases hb:gV a with
    | true =>
     rw [hb] at hc
     refine aL (hc) (by rfl) ?_;simp only [↓pre,simprocAttr,aA,sx,yI,aD,aC,hv.len',e1,e6,e5,hlt',hv.addr',hlt,Nat.mul_one,a1,w1,bC]
     refine ⟨n - 1,by omega,i+1,by omega,rfl,by rw [a2],fun j b hj hjb => ?_⟩
     by_cases hji:j=i
     ·subst hji
      rw [ha] at hjb
      cases hjb
      exact hb
     ·exact hpre.out j b (by omega) hjb
    | false =>
     rw [hb] at hc
     have hx:pG k r l=0:=by
      rw [pG,if_pos hl.out,if_pos]
      exact List.any_eq_true.2 ⟨a,List.mem_of_getElem? ha,by simp [hb]⟩
     refine aL (hc) (by rfl) ?_;simp only [↓pre,simprocAttr,aA,sx,yI,aD,aC,hv.len',e1,e6,e5,bC,hx]
   ·have hlt':¬ (i:Int) < (l.length:Nat):=by omega
    have ht:l.take i=l:=List.take_of_length_le (by omega)
    rw [ht] at e5
    have hx:pG k r l=jK l:=by
     rw [pG,if_pos hl,if_neg]
     intro h
     obtain ⟨a,h1,h2⟩:=List.any_eq_true.1 h
     obtain ⟨j,hj,rfl⟩:=List.getElem_of_mem h1
     rw [hpre.out j _ (by omega) (List.getElem?_eq_getElem hj)] at h2
     cases h2
    replace hl:=aB.mk hl
    simp only [↓pre,simprocAttr,aA,sx,yI,aD,aC,hv.len',e1,e6,e5,hlt',decide_false,cS,hx]
 ·have hx:pG k r l=0:=by rw [pG,if_neg hl]
  refine aL (tP _ _ _ _ hm) (by rfl) ?_;simp only [↓pre,simprocAttr,aA,sx,yI,aD,aC,hv.len',hl,hx]
theorem cA {v:AV} {n:Nat} {cs:List AV} (h:bD v n cs) (m:aH):fz m v=some (v,m):=by
 rcases h.form with ⟨rfl,_⟩ | ⟨_,_,rfl,_⟩ | ⟨_,_,rfl,_⟩ <;> rfl
theorem bP {v:AV} {n:Nat} {cs:List AV} (h:bD v n cs):dB v=true:=by
 rcases h.form with ⟨rfl,_⟩ | ⟨_,_,rfl,_⟩ | ⟨_,_,rfl,_⟩ <;> rfl
def iR (kd ix ce st:Int) (vv dv:AV):AV := .agg [.val (.int .u8 kd),aE ix,aE ce,aE st,vv,dv]
def d5 (k r c w kd ix ce st:Int) (l:List Int) (dn:Nat):Bool :=
 decide (iQ k r c w l=0) && (decide (st=jK l) && (decide (0≤ix∧ix < l.length) && ((decide (kd=1) || decide (kd=2)) && (decide (l[ix.toNat]? = some ce) && decide ((dn:Int)=c)))))
theorem aqn (k r c w kd ix ce st:Int) (vv dv:AV) (l:List Int) (x:List AV) (dn:Nat) (y:List AV) (hv:bD vv l.length (cJ l++x)) (hd:bD dv dn y) (hn:l.length≤1000000000000):aY Tryz.prog 172 [aA k r c w,iR kd ix ce st vv dv] ⟨bC (d5 k r c w kd ix ce st l dn),[]⟩:=by
 have hc:=aql k r c w vv l x hv hn
 have hp:=hv.plain
 have f1:=cA hv
 have f2:=cA hd
 have o1:=bP hv
 have o2:=bP hd
 refine bB follows Tryz.func172 (by unfold Tryz.f172;rfl) (by unfold Tryz.f172;simp) aD (by unfold Tryz.f172;simp) (by kernel_rfl) ?_;unfold Tryz.f172
 unfold iR
 simp only [↓pre,simprocAttr,aA,sx,yA,aD,aC,f1,f2,o1,o2,hv.len',hd.len']
 refine aL hc (by simp only [dX,plain,aA,aE,hp,Bool.and_true,Bool.and_self]) ?_
 by_cases he:iQ k r c w l=0
 ·by_cases hst:st=jK l
  ·subst hst
   by_cases h0:ix < 0
   ·have hx:d5 k r c w kd ix ce (jK l) l dn=false:=by
     have:¬ (0≤ix∧ix < l.length):=by omega
     rw [d5,decide_eq_false this];simp
    simp only [↓pre,simprocAttr,aA,sx,yA,aD,aC,he,hv.len',h0,hx,bC,eq_self]
   ·obtain ⟨i,rfl⟩:∃ i:Nat,ix=(i:Nat):=⟨ix.toNat,by omega⟩
    by_cases h1:i < l.length
    ·have hlt:¬ ((l.length:Nat):Int)≤(i:Int):=by omega
     obtain ⟨a,ha⟩:∃ a,l[i]? = some a:=⟨_,List.getElem?_eq_getElem h1⟩
     have a1:=sM (x:=x) ha
     have hm:d5 k r c w kd (i:Nat) ce (jK l) l dn=((decide (kd=1) || decide (kd=2)) && (decide (a=ce) && decide ((dn:Int)=c))):=by
      have:(0:Int)≤(i:Nat)∧((i:Nat):Int) < (l.length:Nat):=by omega
      rw [d5,decide_eq_true he,decide_eq_true (rfl:jK l=jK l),decide_eq_true this,Int.toNat_natCast,ha]
      simp
     rw [hm]
     replace ha:=aB.mk ha
     replace hm:=aB.mk hm
     simp only [↓pre,simprocAttr,aA,sx,yA,aD,aC,he,hv.len',hd.len',hv.addr',h0,hlt,h1,Nat.mul_one,a1,bC,eq_self];repeat' ((refine xX (fun _ => ?_) (fun _ => ?_)) <;> simp only [↓pre,simprocAttr,aA,sx,yA,aD,aC,he,hv.len',hd.len',hv.addr',h0,hlt,h1,Nat.mul_one,a1,bC,eq_self, *])
     all_goals (first | rfl | (rename_i hh;have h2:¬ a=ce:=fun e=>hh e.symm;rw [decide_eq_false h2];simp;done))
    ·have hge:((l.length:Nat):Int)≤(i:Int):=by omega
     have hx:d5 k r c w kd (i:Nat) ce (jK l) l dn=false:=by
      have:¬ ((0:Int)≤(i:Nat)∧((i:Nat):Int) < (l.length:Nat)):=by omega
      rw [d5,decide_eq_false this];simp
     simp only [↓pre,simprocAttr,aA,sx,yA,aD,aC,he,hv.len',h0,hge,hx,bC,eq_self]
  ·have hx:d5 k r c w kd ix ce st l dn=false:=by simp [d5,hst]
   simp only [↓pre,simprocAttr,aA,sx,yA,aD,aC,he,hst,hx,bC,eq_self]
 ·have hx:d5 k r c w kd ix ce st l dn=false:=by simp [d5,he]
  simp only [↓pre,simprocAttr,aA,sx,yA,aD,aC,he,hx,bC,eq_self]
def aQ (l:List UInt8):List AV:=l.map aU
theorem lL {bs:List UInt8} {x:List AV} {i:Nat} {a:UInt8} (h:bs[i]? = some a):(aQ bs++x)[i]? = some (.val (.int .u8 a.toNat)):=by
 have hi:=(List.getElem?_eq_some_iff.1 h).1
 rw [List.getElem?_append_left (by simpa [aQ] using hi)]
 simp [aQ,h,aU]
theorem rG (bs:List UInt8) (x:List AV) (k:Nat) (hk:k≤bs.length):(aQ bs++x).drop k=aQ (bs.drop k)++x:=by
 rw [List.drop_append_of_le_length (by simpa [aQ] using hk)]
 simp [aQ,List.map_drop]
theorem aqo {P:Program} {t:TypeId} {v:AV} {n k:Nat} {cs:List AV} (h:bD v n cs) (h1:((bZ P t).bind (cG P)).isSome=true) (hk:0 < k) (hkn:k≤n):∃ v',lU P t none (some k) (some k) v=some v'∧bD v' k cs:=by
 obtain ⟨sz,hsz⟩:=Option.isSome_iff_exists.1 h1
 obtain ⟨el,hel,hsz⟩:=Option.bind_eq_some_iff.1 hsz
 rcases h.form with ⟨rfl,h0⟩ | ⟨_,_,rfl,h0⟩ | ⟨c,f,rfl,hc⟩
 ·omega
 ·omega
 ·refine ⟨.tree k k cs true, ?_,⟨.inr (.inr ⟨k,true,rfl,Nat.le_refl _⟩)⟩⟩
  simp only [lU,hel,hsz,iG,Option.isSome_some,Option.isNone_some,Bool.and_false,Bool.false_eq_true,if_false,Option.bind_some,Option.getD_some,Option.getD_none]
  rw [if_pos (by omega),if_neg (by omega)]
  simp
def dL (l:List UInt8):Nat:=l.foldl (fun n b=>n*256+b.toNat) 0
theorem adJ {l:List UInt8} {i:Nat} {a:UInt8} (h:l[i]? = some a):dL (l.take (i+1))=dL (l.take i)*256+a.toNat:=by
 rw [List.take_add_one,h]
 simp [dL]
theorem yL:∀ (i:Nat) (l:List UInt8),dL (l.take i) < 256 ^ i
 | 0,l=>by simp [dL]
 | i+1,l=>by
  by_cases h:i < l.length
  ·have ih:=yL i l
   have hb:=adJ (List.getElem?_eq_getElem h)
   have ha:=(l[i]).toNat_lt
   rw [hb,Nat.pow_succ]
   omega
  ·have ih:=yL i l
   have e:l.take (i+1)=l.take i:=by rw [List.take_of_length_le (by omega),List.take_of_length_le (by omega)]
   rw [e,Nat.pow_succ]
   omega
theorem aqp {P:Program} {m:aH} {v:AV} {n:Nat} {cs:List AV} (h:bD v n cs) (d:Nat) (ids:List (Nat×Nat)) (rows:List (TypeId×List AV)):canon P m d ids rows v=some (v,ids,rows):=by
 rcases h.form with ⟨rfl,_⟩ | ⟨_,_,rfl,_⟩ | ⟨_,_,rfl,_⟩ <;> (try unfold aP) <;> (cases d <;> (unfold canon;rfl))
theorem afY (v:AV) (bs:List UInt8) (x:List AV) (hv:bD v bs.length (aQ bs++x)) (h4:4≤bs.length):∃ v',bD v' (bs.drop 4).length (aQ (bs.drop 4)++x)∧aY Tryz.prog 171 [v] ⟨.tup [aE (dL (bs.take 4):Nat),v'],[]⟩:=by
 obtain ⟨v1,s1,r1⟩:=aqo (P:=Tryz.prog) (t:=52) (k:=4) hv (by kernel_rfl) (by decide) h4
 obtain ⟨v2,s2,r2⟩:=hv.slice (P:=Tryz.prog) (t:=52) (sz:=1) (lo:=some 4) (hi:=none) (by kernel_rfl) (by simpa using h4) (by simp)
 simp only [Option.getD_some,Option.getD_none,Nat.mul_one] at r2
 rw [rG bs x 4 h4,←List.length_drop] at r2
 refine ⟨v2,r2, ?_⟩
 have hp:=hv.plain
 refine bB follows Tryz.func171 (by unfold Tryz.f171;rfl) (by unfold Tryz.f171;simp) aD (by unfold Tryz.f171;simp) (by kernel_rfl) ?_;unfold Tryz.f171
 have nt4:jB (.val (.int .i64 4))=some 4:=rfl
 simp only [↓pre,simprocAttr,aA,sx,afI,aD,aC,aM,cV,hv.slOk,hv.sliceX,s1,s2,nt4,a8,Option.map_some,Option.map_none,r1.len']
 rw [b7]
 refine b8 (fun n e m=>∃ i,n+i=4∧e 0=v∧e 8=v1∧e 9=aE 4∧e 10=aE (i:Nat)∧e 4=aE (dL (bs.take i):Nat)) 4 ⟨0,by omega, ?_⟩ ?_
 ·simp [bI.set,nV,aE,dL]
 ·rintro n e m ⟨i,hi,e0,e8,e9,e10,e4⟩
  by_cases hlt:i < 4
  ·have hlt':(i:Int) < 4:=by omega
   obtain ⟨a,ha⟩:∃ a,bs[i]? = some a:=⟨_,List.getElem?_eq_getElem (by omega)⟩
   have a1:=lL (x:=x) ha
   have a2:=adJ ha
   have hle:=yL i bs
   have ha256:=a.toNat_lt
   have w1:=cF (n:=i) (by omega)
   simp only [↓pre,simprocAttr,aA,sx,afI,aD,aC,aM,cV,e0,e8,e9,e10,e4,hlt',r1.addr',hlt,Nat.mul_one,a1,w1]
   have hpow:256 ^ i≤256 ^ 3:=Nat.pow_le_pow_right (by decide) (by omega)
   have h3:256 ^ 3=16777216:=by decide
   have w5:IntKind.i64.wrap (a.toNat:Int)=(a.toNat:Int):=dE (by omega)
   have w7:IntKind.i64.wrap (((dL (bs.take i):Nat):Int)*2 ^ min 8 IntKind.i64.bits)=((dL (bs.take i)*256:Nat):Int):=by
    rw [show (((dL (bs.take i):Nat):Int)*2 ^ min 8 IntKind.i64.bits)=((dL (bs.take i)*256:Nat):Int) by simp [IntKind.bits]]
    exact dE (by omega)
   have w8:z7 .i64 ((dL (bs.take i)*256:Nat):Int) (a.toNat:Int)=((dL (bs.take i)*256+a.toNat:Nat):Int):=by
    rw [ajQ (by omega) (by omega),ajR (by omega)]
   exact ⟨n - 1,by omega,i+1,by omega,rfl,by rw [w7,w5,w8,a2]⟩
  ·have hlt':¬ (i:Int) < 4:=by omega
   have hi4:i=4:=by omega
   subst hi4
   simp only [↓pre,simprocAttr,aA,sx,afI,aD,aC,aM,cV,e0,e8,e9,e10,e4,hlt',decide_false,cS,hv.slOk,hv.sliceX,s2,nt4,a8,Option.map_some,Option.map_none,aqp r2]
theorem aqq {l:List UInt8} {i:Nat} {a b c d:UInt8} (h0:l[i]? = some a) (h1:l[i+1]? = some b) (h2:l[i+2]? = some c) (h3:l[i+3]? = some d):dL ((l.drop i).take 4)=((a.toNat*256+b.toNat)*256+c.toNat)*256+d.toNat:=by
 have e:(l.drop i).take 4=[a,b,c,d]:=by
  apply List.ext_getElem?
  intro j
  rw [List.getElem?_take]
  match j with
  | 0=>simpa using h0
  | 1=>simpa using h1
  | 2=>simpa using h2
  | 3=>simpa using h3
  | j+4=>simp;omega
 rw [e]
 simp [dL]
theorem afZ (v:AV) (bs:List UInt8) (x:List AV) (i:Nat) (hv:bD v bs.length (aQ bs++x)) (hi:i+4≤bs.length) (hn:bs.length≤1000000000000):aY Tryz.prog 320 [v,aE (i:Nat)] ⟨aE (dL ((bs.drop i).take 4):Nat),[]⟩:=by
 obtain ⟨a,ha⟩:∃ a,bs[i]? = some a:=⟨_,List.getElem?_eq_getElem (by omega)⟩
 obtain ⟨b,hb⟩:∃ a,bs[i+1]? = some a:=⟨_,List.getElem?_eq_getElem (by omega)⟩
 obtain ⟨c,hc⟩:∃ a,bs[i+2]? = some a:=⟨_,List.getElem?_eq_getElem (by omega)⟩
 obtain ⟨d,hd⟩:∃ a,bs[i+3]? = some a:=⟨_,List.getElem?_eq_getElem (by omega)⟩
 rw [aqq ha hb hc hd]
 have a0:=lL (x:=x) ha
 have a1:=lL (x:=x) hb
 have a2:=lL (x:=x) hc
 have a3:=lL (x:=x) hd
 have l0:i < bs.length:=by omega
 have l1:i+1 < bs.length:=by omega
 have l2:i+2 < bs.length:=by omega
 have l3:i+3 < bs.length:=by omega
 have u0:=a.toNat_lt
 have u1:=b.toNat_lt
 have u2:=c.toNat_lt
 have u3:=d.toNat_lt
 have w0:IntKind.i64.wrap ((i:Int)+1)=((i+1:Nat):Int):=dE (n:=i+1) (by omega)
 have w1:IntKind.i64.wrap ((i:Int)+2)=((i+2:Nat):Int):=dE (n:=i+2) (by omega)
 have w2:IntKind.i64.wrap ((i:Int)+3)=((i+3:Nat):Int):=dE (n:=i+3) (by omega)
 have b0:∀ q:UInt8,IntKind.i64.wrap (q.toNat:Int)=(q.toNat:Int):=fun q=>dE (by have:=q.toNat_lt;omega)
 have m0:IntKind.i64.wrap ((a.toNat:Int)*256)=((a.toNat*256:Nat):Int):=dE (n:=a.toNat*256) (by omega)
 have s0:IntKind.i64.wrap (((a.toNat*256:Nat):Int)+(b.toNat:Int))=((a.toNat*256+b.toNat:Nat):Int):=dE (n:=a.toNat*256+b.toNat) (by omega)
 have m1:IntKind.i64.wrap (((a.toNat*256+b.toNat:Nat):Int)*256)=(((a.toNat*256+b.toNat)*256:Nat):Int):=dE (n:=(a.toNat*256+b.toNat)*256) (by omega)
 have s1:IntKind.i64.wrap ((((a.toNat*256+b.toNat)*256:Nat):Int)+(c.toNat:Int))=(((a.toNat*256+b.toNat)*256+c.toNat:Nat):Int):=dE (n:=(a.toNat*256+b.toNat)*256+c.toNat) (by omega)
 have m2:IntKind.i64.wrap ((((a.toNat*256+b.toNat)*256+c.toNat:Nat):Int)*256)=((((a.toNat*256+b.toNat)*256+c.toNat)*256:Nat):Int):=dE (n:=((a.toNat*256+b.toNat)*256+c.toNat)*256) (by omega)
 have s2:IntKind.i64.wrap (((((a.toNat*256+b.toNat)*256+c.toNat)*256:Nat):Int)+(d.toNat:Int))=((((a.toNat*256+b.toNat)*256+c.toNat)*256+d.toNat:Nat):Int):=dE (n:=((a.toNat*256+b.toNat)*256+c.toNat)*256+d.toNat) (by omega)
 have hp:=hv.plain
 refine bB follows Tryz.func320 (by unfold Tryz.f320;rfl) (by unfold Tryz.f320;simp) aD (by unfold Tryz.f320;simp) (by kernel_rfl) ?_;unfold Tryz.f320
 simp only [↓pre,simprocAttr,aA,sx,ap3,aD,aC,aM,hv.addr',Nat.mul_one,a0,a1,a2,a3,l0,l1,l2,l3,w0,w1,w2,b0,m0,s0,m1,s1,m2,s2]
theorem aqr {l:List Int} (h:l≠[]) (hv:∀ n∈l,1≤n):1≤jK l:=by
 have key:∀ (l:List Int) (m:Int),(0≤m)→m≤l.foldl max m:=by
  intro l
  induction l with
  | nil=>intro m _;exact Int.le_refl _
  | cons a l ih=>intro m hm;simp only [List.foldl_cons];have:=ih (max m a) (by omega);omega
 cases l with
 | nil=>exact absurd rfl h
 | cons a l =>
  have h1:=hv a (by simp)
  have:=key l (max 0 a) (by omega)
  simp only [jK,List.foldl_cons]
  omega
theorem aqs {k r c w:Int} (hm:bL k r c w=true) (l:List Int):(0 < pG k r l↔iQ k r c w l=0)∧(iQ k r c w l=0→pG k r l=jK l∧(l.length:Int)=k+r):=by
 have hn:=gF hm
 unfold pG iQ
 rw [if_pos hm]
 by_cases hl:(l.length:Int)=k+r
 ·rw [if_pos hl,if_pos hl]
  by_cases ha:l.any (fun n => !gV n)=true
  ·rw [if_pos ha,if_pos ha]
   exact ⟨by omega,fun h=>by omega⟩
  ·rw [if_neg ha,if_neg ha]
   have hp:1≤jK l:=aqr (by intro e;subst e;simp at hl;omega) fun n hn=>by
    have h2:gV n=true:=by
     cases hq:gV n with
     | true=>rfl
     | false=>exact absurd (List.any_eq_true.2 ⟨n,hn,by simp [hq]⟩) ha
    simp [gV] at h2
    omega
   exact ⟨by omega,fun _=>⟨rfl,hl⟩⟩
 ·rw [if_neg hl,if_neg hl]
  exact ⟨by omega,fun h=>by omega⟩
theorem aqt (k r c w kd ix ce st : Int) (hm : bL k r c w = true) (vv dv : AV) (l : List Int) (x : List AV) (dn : Nat) (y : List AV) (hv : bD vv l.length (cJ l ++ x)) (hd : bD dv dn y) (hn : l.length ≤ 1000000000000) : aY Tryz.prog 321 [aA k r c w, iR kd ix ce st vv dv] ⟨bC (d5 k r c w kd ix ce st l dn), []⟩ := by
 have hc := aqm k r c w hm vv l x hv hn
 have hN := tP k r c w hm
 have hp := hv.plain
 have f1 := cA hv
 have f2 := cA hd
 have o1 := bP hv
 have o2 := bP hd
 obtain ⟨q1, q2⟩ := aqs hm l
 refine bB follows Tryz.func321 (by unfold Tryz.f321; rfl) (by unfold Tryz.f321; simp) aD (by unfold Tryz.f321; simp) (by kernel_rfl) ?_; unfold Tryz.f321
 unfold iR
 by_cases hk : kd = 1 ∨ kd = 2
 · rcases hk with rfl | rfl
   · skip
     by_cases h0 : ix < 0
     · have hx : d5 k r c w 1 ix ce st l dn = false := by
         have : ¬ (0 ≤ ix ∧ ix < l.length) := by omega
         rw [d5, decide_eq_false this]; simp
       simp only [↓pre, simprocAttr, aA, sx, kW, aD, aC, f1, f2, o1, o2, hv.len', hd.len', hv.addr', bC, eq_self, h0, hx]
     · by_cases hg : k + r ≤ ix
       · have hx : d5 k r c w 1 ix ce st l dn = false := by
           by_cases he : iQ k r c w l = 0
           · have := (q2 he).2
             have : ¬ (0 ≤ ix ∧ ix < l.length) := by omega
             rw [d5, decide_eq_false this]; simp
           · rw [d5, decide_eq_false he]; simp
         simp only [↓pre, simprocAttr, aA, sx, kW, aD, aC, f1, f2, o1, o2, hv.len', hd.len', hv.addr', bC, eq_self, h0]
         (refine bM (hN) (by rfl) (by intro k; rfl) ?_); simp only [↓pre, simprocAttr, aA, sx, kW, aD, aC, f1, f2, o1, o2, hv.len', hd.len', hv.addr', bC, eq_self, h0, hg, hx]
       · by_cases hdn : (dn : Int) = c
         · simp only [↓pre, simprocAttr, aA, sx, kW, aD, aC, f1, f2, o1, o2, hv.len', hd.len', hv.addr', bC, eq_self, h0]
           (refine bM (hN) (by rfl) (by intro k; rfl) ?_); simp only [↓pre, simprocAttr, aA, sx, kW, aD, aC, f1, f2, o1, o2, hv.len', hd.len', hv.addr', bC, eq_self, h0, hg, hdn]
           refine aL hc (by simp only [dX, plain, aA, aE, hp, Bool.and_true, Bool.and_self]) ?_
           by_cases hl0 : 0 < pG k r l
           · have he := q1.1 hl0
             obtain ⟨e1, e2⟩ := q2 he
             obtain ⟨i, rfl⟩ : ∃ i : Nat, ix = (i : Nat) := ⟨ix.toNat, by omega⟩
             have h1 : i < l.length := by omega
             obtain ⟨a, ha⟩ : ∃ a, l[i]? = some a := ⟨_, List.getElem?_eq_getElem h1⟩
             have a1 := sM (x := x) ha
             by_cases hst : st = pG k r l
             · have hx : d5 k r c w 1 (i : Nat) ce st l dn = decide (ce = a) := by
                 have h3 : (0 : Int) ≤ (i : Nat) ∧ ((i : Nat) : Int) < (l.length : Nat) := by omega
                 rw [d5, decide_eq_true he, decide_eq_true (hst.trans e1), decide_eq_true h3, decide_eq_true hdn, Int.toNat_natCast, ha]
                 by_cases hca : ce = a
                 · simp [hca]
                 · have : ¬ a = ce := fun e => hca e.symm
                   simp [hca, this]
               rw [hx]
               clear hx
               replace e1 := aB.mk e1
               replace e2 := aB.mk e2
               replace he := aB.mk he
               simp only [↓pre, simprocAttr, aA, sx, kW, aD, aC, f1, f2, o1, o2, hv.len', hd.len', hv.addr', bC, eq_self, hl0, hst, h1, Nat.mul_one, a1]
             · have hx : d5 k r c w 1 (i : Nat) ce st l dn = false := by
                 have : ¬ st = jK l := by rw [← e1]; exact hst
                 rw [d5, decide_eq_false this]; simp
               simp only [↓pre, simprocAttr, aA, sx, kW, aD, aC, f1, f2, o1, o2, hv.len', hd.len', hv.addr', bC, eq_self, hl0, hst, h1, Nat.mul_one, a1, hx]
           · have hx : d5 k r c w 1 ix ce st l dn = false := by
               have he : ¬ iQ k r c w l = 0 := fun h => hl0 (q1.2 h)
               rw [d5, decide_eq_false he]; simp
             simp only [↓pre, simprocAttr, aA, sx, kW, aD, aC, f1, f2, o1, o2, hv.len', hd.len', hv.addr', bC, eq_self, hl0, hx]
         · have hx : d5 k r c w 1 ix ce st l dn = false := by
             rw [d5, decide_eq_false hdn]; simp
           simp only [↓pre, simprocAttr, aA, sx, kW, aD, aC, f1, f2, o1, o2, hv.len', hd.len', hv.addr', bC, eq_self, h0]
           (refine bM (hN) (by rfl) (by intro k; rfl) ?_); simp only [↓pre, simprocAttr, aA, sx, kW, aD, aC, f1, f2, o1, o2, hv.len', hd.len', hv.addr', bC, eq_self, h0, hg, hdn, hx]
   · skip
     by_cases h0 : ix < 0
     · have hx : d5 k r c w 2 ix ce st l dn = false := by
         have : ¬ (0 ≤ ix ∧ ix < l.length) := by omega
         rw [d5, decide_eq_false this]; simp
       simp only [↓pre, simprocAttr, aA, sx, kW, aD, aC, f1, f2, o1, o2, hv.len', hd.len', hv.addr', bC, eq_self, h0, hx]
     · by_cases hg : k + r ≤ ix
       · have hx : d5 k r c w 2 ix ce st l dn = false := by
           by_cases he : iQ k r c w l = 0
           · have := (q2 he).2
             have : ¬ (0 ≤ ix ∧ ix < l.length) := by omega
             rw [d5, decide_eq_false this]; simp
           · rw [d5, decide_eq_false he]; simp
         simp only [↓pre, simprocAttr, aA, sx, kW, aD, aC, f1, f2, o1, o2, hv.len', hd.len', hv.addr', bC, eq_self, h0]
         (refine bM (hN) (by rfl) (by intro k; rfl) ?_); simp only [↓pre, simprocAttr, aA, sx, kW, aD, aC, f1, f2, o1, o2, hv.len', hd.len', hv.addr', bC, eq_self, h0, hg, hx]
       · by_cases hdn : (dn : Int) = c
         · simp only [↓pre, simprocAttr, aA, sx, kW, aD, aC, f1, f2, o1, o2, hv.len', hd.len', hv.addr', bC, eq_self, h0]
           (refine bM (hN) (by rfl) (by intro k; rfl) ?_); simp only [↓pre, simprocAttr, aA, sx, kW, aD, aC, f1, f2, o1, o2, hv.len', hd.len', hv.addr', bC, eq_self, h0, hg, hdn]
           refine aL hc (by simp only [dX, plain, aA, aE, hp, Bool.and_true, Bool.and_self]) ?_
           by_cases hl0 : 0 < pG k r l
           · have he := q1.1 hl0
             obtain ⟨e1, e2⟩ := q2 he
             obtain ⟨i, rfl⟩ : ∃ i : Nat, ix = (i : Nat) := ⟨ix.toNat, by omega⟩
             have h1 : i < l.length := by omega
             obtain ⟨a, ha⟩ : ∃ a, l[i]? = some a := ⟨_, List.getElem?_eq_getElem h1⟩
             have a1 := sM (x := x) ha
             by_cases hst : st = pG k r l
             · have hx : d5 k r c w 2 (i : Nat) ce st l dn = decide (ce = a) := by
                 have h3 : (0 : Int) ≤ (i : Nat) ∧ ((i : Nat) : Int) < (l.length : Nat) := by omega
                 rw [d5, decide_eq_true he, decide_eq_true (hst.trans e1), decide_eq_true h3, decide_eq_true hdn, Int.toNat_natCast, ha]
                 by_cases hca : ce = a
                 · simp [hca]
                 · have : ¬ a = ce := fun e => hca e.symm
                   simp [hca, this]
               rw [hx]
               clear hx
               replace e1 := aB.mk e1
               replace e2 := aB.mk e2
               replace he := aB.mk he
               simp only [↓pre, simprocAttr, aA, sx, kW, aD, aC, f1, f2, o1, o2, hv.len', hd.len', hv.addr', bC, eq_self, hl0, hst, h1, Nat.mul_one, a1]
             · have hx : d5 k r c w 2 (i : Nat) ce st l dn = false := by
                 have : ¬ st = jK l := by rw [← e1]; exact hst
                 rw [d5, decide_eq_false this]; simp
               simp only [↓pre, simprocAttr, aA, sx, kW, aD, aC, f1, f2, o1, o2, hv.len', hd.len', hv.addr', bC, eq_self, hl0, hst, h1, Nat.mul_one, a1, hx]
           · have hx : d5 k r c w 2 ix ce st l dn = false := by
               have he : ¬ iQ k r c w l = 0 := fun h => hl0 (q1.2 h)
               rw [d5, decide_eq_false he]; simp
             simp only [↓pre, simprocAttr, aA, sx, kW, aD, aC, f1, f2, o1, o2, hv.len', hd.len', hv.addr', bC, eq_self, hl0, hx]
         · have hx : d5 k r c w 2 ix ce st l dn = false := by
             rw [d5, decide_eq_false hdn]; simp
           simp only [↓pre, simprocAttr, aA, sx, kW, aD, aC, f1, f2, o1, o2, hv.len', hd.len', hv.addr', bC, eq_self, h0]
           (refine bM (hN) (by rfl) (by intro k; rfl) ?_); simp only [↓pre, simprocAttr, aA, sx, kW, aD, aC, f1, f2, o1, o2, hv.len', hd.len', hv.addr', bC, eq_self, h0, hg, hdn, hx]
 · have hx : d5 k r c w kd ix ce st l dn = false := by
     have h1 : ¬ kd = 1 := fun h => hk (.inl h)
     have h2 : ¬ kd = 2 := fun h => hk (.inr h)
     simp [d5, h1, h2]
   have h1 : ¬ kd = 1 := fun h => hk (.inl h)
   have h2 : ¬ kd = 2 := fun h => hk (.inr h)
   simp only [↓pre, simprocAttr, aA, sx, kW, aD, aC, f1, f2, o1, o2, hv.len', hd.len', h1, h2, hx, bC]


theorem aqu (z kd ix ce st:Int) (vv dv:AV):aY Tryz.prog 175 [aE z,.tptr 0 [.val (.int .u8 kd),aE ix,aE ce,aE st,vv,dv]] ⟨bC (!decide (z=ce)),[]⟩:=by
 refine bB follows Tryz.func175 (by unfold Tryz.f175;rfl) (by unfold Tryz.f175;simp) aD (by unfold Tryz.f175;simp) (by kernel_rfl) ?_;unfold Tryz.f175
 simp only [↓pre,simprocAttr,aA,sx,apU,aD,bC]
def iS:Nat→Bool:=fun d=>d != 4
def mM:AV:=iR 0 0 0 0 aP aP
theorem aqv (k r c w:Int) (v:AV) (bs:List UInt8) (x:List AV) (hv:bD v bs.length (aQ bs++x)) (hm:bL k r c w=false):aY Tryz.prog 93 [aA k r c w,v] ⟨.tup [mM,bC false,aE 2],[]⟩:=by
 have hp:=hv.plain
 refine bB follows Tryz.func93 (by unfold Tryz.f93;rfl) (by unfold Tryz.f93;simp) iS (by unfold Tryz.f93;simp) (by kernel_rfl) ?_;unfold Tryz.f93
 simp only [↓pre,simprocAttr,aA,sx,kD,iS,Option.getD_some,bne,aC,aM,aK,aJ,eq_self,aF,aG]
 refine aL (yJ k r c w) (by rfl) ?_;simp only [↓pre,simprocAttr,aA,sx,kD,iS,Option.getD_some,bne,aC,aM,aK,aJ,eq_self,aF,aG,hm,Bool.false_eq_true]
 rfl
theorem aqw (k r c w:Int) (v:AV) (bs:List UInt8) (x:List AV) (hv:bD v bs.length (aQ bs++x)) (hm:bL k r c w=true) (hb:(bs.length:Int)=0):aY Tryz.prog 93 [aA k r c w,v] ⟨.tup [mM,bC false,aE 0],[]⟩:=by
 have hp:=hv.plain
 refine bB follows Tryz.func93 (by unfold Tryz.f93;rfl) (by unfold Tryz.f93;simp) iS (by unfold Tryz.f93;simp) (by kernel_rfl) ?_;unfold Tryz.f93
 simp only [↓pre,simprocAttr,aA,sx,kD,iS,Option.getD_some,bne,aC,aM,aK,aJ,eq_self,aF,aG]
 refine aL (yJ k r c w) (by rfl) ?_;simp only [↓pre,simprocAttr,aA,sx,kD,iS,Option.getD_some,bne,aC,aM,aK,aJ,eq_self,aF,aG,hm,hv.len',hb]
 rfl
theorem aqx (k r c w:Int) (v:AV) (bs:List UInt8) (x:List AV) (hv:bD v bs.length (aQ bs++x)) (hm:bL k r c w=true) (hb:¬ (bs.length:Int)=0) (hb2:¬ (bs.length:Int)=dV k r c):aY Tryz.prog 93 [aA k r c w,v] ⟨.tup [mM,bC false,aE 100],[]⟩:=by
 have hp:=hv.plain
 refine bB follows Tryz.func93 (by unfold Tryz.f93;rfl) (by unfold Tryz.f93;simp) iS (by unfold Tryz.f93;simp) (by kernel_rfl) ?_;unfold Tryz.f93
 simp only [↓pre,simprocAttr,aA,sx,kD,iS,Option.getD_some,bne,aC,aM,aK,aJ,eq_self,aF,aG]
 refine aL (yJ k r c w) (by rfl) ?_;simp only [↓pre,simprocAttr,aA,sx,kD,iS,Option.getD_some,bne,aC,aM,aK,aJ,eq_self,aF,aG,hm,hv.len',hb,hb2]
 rfl
theorem aqy (k r c w:Int) (v:AV) (bs:List UInt8) (x:List AV) (hv:bD v bs.length (aQ bs++x)) (hm:bL k r c w=true) (hb2:(bs.length:Int)=dV k r c) {a b:UInt8} (ha:bs[0]? = some a) (hb:bs[1]? = some b) (hne:¬ ((a.toNat:Int)=84∧(b.toNat:Int)=50)):aY Tryz.prog 93 [aA k r c w,v] ⟨.tup [mM,bC false,aE 0],[]⟩:=by
 have hp:=hv.plain
 have hmn:=gF hm
 have a0:=lL (x:=x) ha
 have a1:=lL (x:=x) hb
 have l0:0 < bs.length:=by unfold dV at hb2;omega
 have l1:1 < bs.length:=by unfold dV at hb2;omega
 have hb1:¬ dV k r c=0:=by rw [←hb2];omega
 replace hmn:=aB.mk hmn
 refine bB follows Tryz.func93 (by unfold Tryz.f93;rfl) (by unfold Tryz.f93;simp) iS (by unfold Tryz.f93;simp) (by kernel_rfl) ?_;unfold Tryz.f93
 simp only [↓pre,simprocAttr,aA,sx,kD,iS,Option.getD_some,bne,aC,aM,aK,aJ,eq_self,aF,aG]
 by_cases h1:(a.toNat:Int)=84
 ·have h2:¬ (b.toNat:Int)=50:=fun h=>hne ⟨h1,h⟩
  refine aL (yJ k r c w) (by rfl) ?_;simp only [↓pre,simprocAttr,aA,sx,kD,iS,Option.getD_some,bne,aC,aM,aK,aJ,eq_self,aF,aG,hm,hv.len',hb2,hb1,hv.addr',l0,l1,Nat.mul_one,a0,a1,h1,h2]
  rfl
 ·refine aL (yJ k r c w) (by rfl) ?_;simp only [↓pre,simprocAttr,aA,sx,kD,iS,Option.getD_some,bne,aC,aM,aK,aJ,eq_self,aF,aG,hm,hv.len',hb2,hb1,hv.addr',l0,l1,Nat.mul_one,a0,a1,h1]
  rfl
def gP (bs:List UInt8) (o:Nat):Int:=((dL ((bs.drop o).take 4):Nat):Int)
def jL (bs:List UInt8) (n:Nat):List Int:=(List.range n).map fun j=>gP bs (12+4*j)
theorem ak2 (bs:List UInt8) (n:Nat):jL bs (n+1)=jL bs n++[gP bs (12+4*n)]:=by simp [jL,List.range_succ]
theorem aaG (bs:List UInt8) (n:Nat):(jL bs n).length=n:=by simp [jL]
theorem ab2 (a b:List Int):cJ (a++b)=cJ a++cJ b:=by simp [cJ]
def yM (kd ix:Int) (bs:List UInt8) (N C:Nat):Bool→iO
 | true=>⟨.tup [iR kd ix (gP bs 4) (gP bs 8) (.sl 0 0 N N false) (.sl 1 0 C C false),bC true,aE 0],[(3,cJ (jL bs N)),(5,aQ (bs.drop (12+4*N)))]⟩
 | false=>⟨.tup [mM,bC false,aE 0],[]⟩
theorem aqz (k r c w:Int) (v:AV) (bs:List UInt8) (x:List AV) (hv:bD v bs.length (aQ bs++x)) (hm:bL k r c w=true) (hb2:(bs.length:Int)=dV k r c) {a2 a3:UInt8} (h0:bs[0]? = some 84) (h1:bs[1]? = some 50) (h2:bs[2]? = some a2) (h3:bs[3]? = some a3):aY Tryz.prog 93 [aA k r c w,v] (yM a2.toNat a3.toNat bs (k+r).toNat c.toNat (d5 k r c w a2.toNat a3.toNat (gP bs 4) (gP bs 8) (jL bs (k+r).toNat) c.toNat)):=by
 have hp:=hv.plain
 have hmn:=gF hm
 have b0:=lL (x:=x) h0
 have b1:=lL (x:=x) h1
 have b2:=lL (x:=x) h2
 have b3:=lL (x:=x) h3
 have l12:12≤bs.length:=by unfold dV at hb2;omega
 have l0:0 < bs.length:=by omega
 have l1:1 < bs.length:=by omega
 have l2:2 < bs.length:=by omega
 have l3:3 < bs.length:=by omega
 have hb1:¬ dV k r c=0:=by rw [←hb2];omega
 have c84:(((84:UInt8).toNat:Nat):Int)=84:=rfl
 have c50:(((50:UInt8).toNat:Nat):Int)=50:=rfl
 have w5:IntKind.i64.wrap (a3.toNat:Int)=(a3.toNat:Int):=dE (by have:=a3.toNat_lt;omega)
 have nt4:jB (.val (.int .i64 4))=some 4:=rfl
 replace hmn:=aB.mk hmn
 replace l12:=aB.mk l12
 obtain ⟨v1,s1,r1⟩:=hv.slice (P:=Tryz.prog) (t:=52) (sz:=1) (lo:=some 4) (hi:=none) (by kernel_rfl) (by have:=l12.out;simp only [Option.getD_some,Option.getD_none];omega) (by simp)
 simp only [Option.getD_some,Option.getD_none,Nat.mul_one] at r1
 rw [rG bs x 4 (by have:=l12.out;omega),←List.length_drop] at r1
 obtain ⟨v2,r2,t1⟩:=afY v1 (bs.drop 4) x r1 (by have:=l12.out;rw [List.length_drop];omega)
 obtain ⟨v3,r3,t2⟩:=afY v2 ((bs.drop 4).drop 4) x r2 (by have:=l12.out;simp only [List.length_drop];omega)
 have p1:=r1.plain
 have p2:=r2.plain
 have sh1:=cK r1
 have sh2:=cK r2
 have sh3:=cK r3
 rw [List.drop_drop,List.drop_drop] at r3
 obtain ⟨N,hN⟩:∃ N:Nat,k+r=(N:Int):=⟨(k+r).toNat,by have:=hmn.out;omega⟩
 obtain ⟨C,hC⟩:∃ C:Nat,c=(C:Int):=⟨c.toNat,by have:=hmn.out;omega⟩
 have hNN:(k+r).toNat=N:=by omega
 have hCC:c.toNat=C:=by omega
 rw [hNN,hCC]
 generalize hres:yM _ _ _ _ _ _=res
 have hlen:bs.length=12+4*N+C:=by unfold dV at hb2;omega
 have hN16:N≤16∧1≤N∧8≤C∧C≤64:=by have:=hmn.out;omega
 replace hlen:=aB.mk hlen
 replace hN:=aB.mk hN
 replace hN16:=aB.mk hN16
 have bt0:∀ m,fV Tryz.prog m 52 0 []=some ⟨.tree 0 0 [] true,m,none⟩:=fun m=>xZ (el:=5) (sz:=1) (z:=[]) (by kernel_rfl) (by kernel_rfl) (by kernel_rfl) rfl rfl (by decide)
 refine bB follows Tryz.func93 (by unfold Tryz.f93;rfl) (by unfold Tryz.f93;simp) iS (by unfold Tryz.f93;simp) (by kernel_rfl) ?_;unfold Tryz.f93
 simp only [↓pre,simprocAttr,aA,sx,kD,iS,Option.getD_some,Option.getD_none,bne,aC,aM,aK,aJ,eq_self,aF,aG,Option.map_none,Option.map_some,a8]
 refine aL (yJ k r c w) (by rfl) ?_;simp only [↓pre,simprocAttr,aA,sx,kD,iS,bne,aC,aM,aK,aJ,aF,aG,Option.map_none,Option.map_some,a8,hm,hv.len',hb2,hb1,hv.addr',l0,l1,l2,l3,b0,b1,b2,b3,c84,c50,w5,sr]
 refine cU (by kernel_rfl) ?_
 simp only [↓pre,simprocAttr,aA,sx,kD,iS,Option.getD_some,Option.getD_none,bne,aC,aM,aK,aJ,eq_self,aF,aG,Option.map_none,Option.map_some,a8]
 refine cU (by kernel_rfl) ?_
 simp only [↓pre,simprocAttr,aA,sx,kD,iS,Option.getD_some,Option.getD_none,bne,aC,aM,aK,aJ,eq_self,aF,aG,Option.map_none,Option.map_some,a8,hv.slOk,hv.sliceX,s1,nt4]
 refine aL (t1) (by simp only [aA,aO, *]) ?_;simp only [↓pre,simprocAttr,aA,sx,kD,iS,Option.getD_some,Option.getD_none,bne,aC,aM,aK,aJ,eq_self,aF,aG,Option.map_none,Option.map_some,a8,sh1,sh2,sh3];refine aL (t2) (by simp only [aA,aO, *]) ?_;simp only [↓pre,simprocAttr,aA,sx,kD,iS,Option.getD_some,Option.getD_none,bne,aC,aM,aK,aJ,eq_self,aF,aG,Option.map_none,Option.map_some,a8,sh1,sh2,sh3]
 rw [b7]
 refine b8 (fun n e m=>∃ i,n+i=N∧e 2 = .tptr 0 [aE k,aE r,aE c,aE w]∧e 4 = .ptr 0 0∧bD (e 8) (bs.drop (12+4*i)).length (aQ (bs.drop (12+4*i))++x)∧0 < m.next∧∃ vv,m.at_ 0=some ⟨[.val (.int .u8 a2.toNat),aE a3.toNat,aE (gP bs 4),aE (gP bs 8),vv,aP],127,.var,true⟩∧eM m 3 1 vv i (cJ (jL bs i))) N ⟨0,by omega, ?_⟩ ?_
 ·refine ⟨rfl,rfl,by simpa [bI.set] using r3,by simp [bX,bO],aP, ?_,gT⟩
  have e9:gP bs 8=((dL (List.take 4 (List.drop 4 (List.drop 4 bs))):Nat):Int):=by rw [List.drop_drop];rfl
  rw [e9];rfl
 ·rintro n e m ⟨i,hi,e2,e4,r8,hnx,vv,hm0,ho⟩
  by_cases hlt:i < N
  ·have l4:12+4*i+4+C≤bs.length:=by have:=hlen.out;omega
   have g1:((C:Nat):Int) < ((bs.drop (12+4*i)).length:Nat):=by rw [List.length_drop];omega
   obtain ⟨v9,r9,t9⟩:=afY (e 8) (bs.drop (12+4*i)) x r8 (by rw [List.length_drop];omega)
   have p8:=r8.plain
   have sh9:=cK r9
   rw [←hC] at g1
   simp only [↓pre,simprocAttr,aA,sx,kD,iS,Option.getD_some,Option.getD_none,bne,aC,aM,aK,aJ,eq_self,aF,aG,Option.map_none,Option.map_some,a8,r8.len',e2,e4,g1]
   refine aL (t9) (by simp only [aA,aO, *]) ?_;simp only [↓pre,simprocAttr,aA,sx,kD,iS,Option.getD_some,Option.getD_none,bne,aC,aM,aK,aJ,eq_self,aF,aG,Option.map_none,Option.map_some,a8,sh9,e4,hm0]
   refine vV (sz:=1) (y:=8) (zl:=[.int .i64 0]) (by kernel_rfl) ho (by kernel_rfl) (by kernel_rfl) (by kernel_rfl) rfl mH (by rfl) (by have:=hN16.out;omega) (by have:=hN16.out;omega) ?_
   intro vv' m' ho' hnx' hkeep hbl
   have hm0':=hkeep 0 _ hm0 hnx (ho.ne_kind hm0 (fun h=>by cases h))
   obtain ⟨b',rfl,hb',hlt'⟩:=ho'.sl (by omega)
   simp only [↓pre,simprocAttr,aA,sx,kD,iS,Option.getD_some,Option.getD_none,bne,aC,aM,aK,aJ,eq_self,aF,aG,Option.map_none,Option.map_some,a8,e2,e4,hm0']
   refine ⟨n - 1,by omega,i+1,by omega, ?_,by omega,.sl b' 0 (i+1) (i+1) false,rfl, ?_⟩
   ·rw [List.drop_drop] at r9
    exact r9
   ·rw [ak2,ab2]
    exact ho'.put_kind hm0' (fun h=>by cases h)
  ·have hiN:i=N:=by omega
   subst hiN
   have hdl:(bs.drop (12+4*i)).length=C:=by have:=hlen.out;rw [List.length_drop];omega
   rw [hdl] at r8
   have g1:¬ ((C:Nat):Int) < ((C:Nat):Int):=by omega
   rw [←hC] at g1
   simp only [↓pre,simprocAttr,aA,sx,kD,iS,bne,aC,aM,aK,aJ,aF,aG,Option.map_none,Option.map_some,a8,r8.len',e2,e4,hC.symm,g1,bt0,sr]
   have hsrc:fW Tryz.prog 5 1 m (e 8)=some (aQ (bs.drop (12+4*i)),C):=by
    have hq:=r8.src (P:=Tryz.prog) (m:=m) (el:=5) (sz:=1) (by rw [Nat.mul_one,List.length_append];simp [aQ];have:=hlen.out;omega)
    rw [hq,Nat.mul_one,List.take_left' (by simp [aQ];have:=hlen.out;omega)]
   rw [afA (sz:=1) (y:=1) (zl:=[.int .u8 0]) rfl (by kernel_rfl) (by kernel_rfl) (by kernel_rfl) rfl hsrc (by have:=hN16.out;omega) (by have:=hN16.out;omega) (by have:=hN16.out;omega)]
   have h0n:¬ 0=m.next:=by omega
   have h1n:¬ m.next=0:=by omega
   have hbk:=ho.ne_kind hm0 (fun h=>by cases h)
   obtain ⟨b,rfl,hb,hlt⟩:=ho.sl (by have:=hN16.out;omega)
   have hb0:b≠0:=fun h=>hbk (by rw [h];rfl)
   simp only [↓pre,simprocAttr,aA,sx,kD,iS,Option.getD_some,Option.getD_none,bne,aC,aM,aK,aJ,eq_self,aF,aG,Option.map_none,Option.map_some,a8,e2,e4,hm0,h0n,h1n]
   generalize hm2:aH.put _ _ _=m2
   have q0:m2.at_ 0=some ⟨[.val (.int .u8 a2.toNat),aE a3.toNat,aE (gP bs 4),aE (gP bs 8),.sl b 0 i i false,.sl m.next 0 C C false],127,.var,true⟩:=by rw [←hm2,aF,if_pos rfl];rfl
   have q1:m2.at_ b=some ⟨cJ (jL bs i),3,.flat,true⟩:=by rw [←hm2,aF,if_neg hb0,aG,if_neg (by omega)];exact hb
   have q2:m2.at_ m.next=some ⟨aQ (bs.drop (12+4*i)),5,.flat,true⟩:=by rw [←hm2,aF,if_neg h1n,aG,if_pos rfl]
   have hbn:¬ m.next=b:=by omega
   generalize m.next=b2 at *
   have hil:(jL bs i).length=i:=aaG bs i
   refine ajf (aqn k r c w a2.toNat a3.toNat (gP bs 4) (gP bs 8) (.tree i i (cJ (jL bs i)) false) (.tree C C (aQ (bs.drop (12+4*i))) false) (jL bs i) [] C (aQ (bs.drop (12+4*i))) ⟨.inr (.inr ⟨i,false,by rw [hil,List.append_nil],by rw [hil];exact Nat.le_refl _⟩)⟩ ⟨.inr (.inr ⟨C,false,rfl,Nat.le_refl _⟩)⟩ (by rw [hil];have:=hN16.out;omega)) (by simp [gI,lend,q1,q2,aA,iR,aE]) rfl rfl ?_
   rw [←hres]
   cases hms:d5 k r c w a2.toNat a3.toNat (gP bs 4) (gP bs 8) (jL bs i) C
   ·simp only [↓pre,simprocAttr,aA,sx,kD,iS,bne,aC,aM,aK,aJ,aF,aG,Option.map_none,Option.map_some,a8,e2,e4,q0,iR,aP,sr]
    rfl
   ·have k3:bR Tryz.prog 3 = .flat:=by kernel_rfl
    have k5:bR Tryz.prog 5 = .flat:=by kernel_rfl
    have hbn':¬ b=b2:=fun h=>hbn h.symm
    simp only [↓pre,simprocAttr,aA,sx,kD,iS,bne,aC,aM,aK,aJ,aF,aG,Option.map_none,Option.map_some,a8,e2,e4,q0,iR,sr]
    simp only [hb0,h1n,q1,q2,k3,k5,if_false,if_true,Option.bind_some,Option.map_some,List.any_nil,Bool.false_eq_true,ne_eq,not_true_eq_false,or_self,List.any_cons,beq_iff_eq,hbn',hbn,Bool.or_false,List.nil_append,List.drop_zero,beq_eq_false_iff_ne.2 hbn']
    rfl
structure qH where
 kd:Int
 ix:Int
 ce:Int
 st:Int
 vec:List Int
 data:List UInt8
def cR (k r:Int) (bs:List UInt8):qH:=⟨(bs.getD 2 0).toNat,(bs.getD 3 0).toNat,gP bs 4,gP bs 8,jL bs (k+r).toNat,bs.drop (12+4*(k+r).toNat)⟩
def qH.v (s:qH):AV:=iR s.kd s.ix s.ce s.st (.tree s.vec.length s.vec.length (cJ s.vec) false) (.tree s.data.length s.data.length (aQ s.data) false)
def sN (k r c w:Int) (s:qH):Bool:=d5 k r c w s.kd s.ix s.ce s.st s.vec s.data.length
def eN (k r c w:Int) (bs:List UInt8):Bool:=decide ((bs.length:Int)=dV k r c) && (decide (bs[0]? = some 84) && (decide (bs[1]? = some 50) && sN k r c w (cR k r bs)))
def oH (k r c w:Int) (bs:List UInt8):AV:=if bL k r c w=true∧eN k r c w bs=true then .tup [(cR k r bs).v,bC true,aE 0] else .tup [mM,bC false,aE (if bL k r c w=false then 2 else if (bs.length:Int)=0 then 0 else if (bs.length:Int)=dV k r c then 0 else 100)]
theorem ak3 (k r c w:Int) (v:AV) (bs:List UInt8) (x:List AV) (hv:bD v bs.length (aQ bs++x)):aY Tryz.prog 93 [aA k r c w,v] ⟨oH k r c w bs,[]⟩:=by
 cases hm:bL k r c w with
 | false =>
  have:=aqv k r c w v bs x hv hm
  simpa [oH,hm] using this
 | true =>
  have hmn:=gF hm
  by_cases hl:(bs.length:Int)=0
  ·have h1:eN k r c w bs=false:=by
    have:¬ (bs.length:Int)=dV k r c:=by rw [hl];unfold dV;omega
    unfold eN;rw [decide_eq_false this];rfl
   have:=aqw k r c w v bs x hv hm hl
   simpa [oH,hm,h1,hl] using this
  ·by_cases hs:(bs.length:Int)=dV k r c
   ·have l12:12≤bs.length:=by unfold dV at hs;omega
    obtain ⟨a0,h0⟩:∃ a,bs[0]? = some a:=⟨_,List.getElem?_eq_getElem (by omega)⟩
    obtain ⟨a1,h1⟩:∃ a,bs[1]? = some a:=⟨_,List.getElem?_eq_getElem (by omega)⟩
    obtain ⟨a2,h2⟩:∃ a,bs[2]? = some a:=⟨_,List.getElem?_eq_getElem (by omega)⟩
    obtain ⟨a3,h3⟩:∃ a,bs[3]? = some a:=⟨_,List.getElem?_eq_getElem (by omega)⟩
    by_cases hmg:a0=84∧a1=50
    ·obtain ⟨rfl,rfl⟩:=hmg
     have hq:=aqz k r c w v bs x hv hm hs h0 h1 h2 h3
     have hvl:(cR k r bs).vec.length=(k+r).toNat:=aaG _ _
     have hdl:(cR k r bs).data.length=c.toNat:=by simp only [cR,List.length_drop];unfold dV at hs;omega
     have e2:(bs.getD 2 0)=a2:=by rw [List.getD_eq_getElem?_getD,h2];rfl
     have e3:(bs.getD 3 0)=a3:=by rw [List.getD_eq_getElem?_getD,h3];rfl
     have hmay:sN k r c w (cR k r bs)=d5 k r c w a2.toNat a3.toNat (gP bs 4) (gP bs 8) (jL bs (k+r).toNat) c.toNat:=by
      unfold sN;rw [hdl];simp only [cR,e2,e3]
     have hsl:eN k r c w bs=sN k r c w (cR k r bs):=by unfold eN;rw [decide_eq_true hs,decide_eq_true h0,decide_eq_true h1];rfl
     rw [←hmay] at hq
     cases hb:sN k r c w (cR k r bs) with
     | false =>
      rw [hb] at hq
      simpa [oH,hm,hsl,hb,hl,hs,yM] using hq
     | true =>
      rw [hb] at hq
      have k3:bR Tryz.prog 3 = .flat:=by kernel_rfl
      have k5:bR Tryz.prog 5 = .flat:=by kernel_rfl
      have:=x2 1 hq (by simp [yM,iP,jX,iR,aE,bC,k3,k5])
      have hv2:oH k r c w bs=eZ Tryz.prog (yM a2.toNat a3.toNat bs (k+r).toNat c.toNat true).rows 1 (yM a2.toNat a3.toNat bs (k+r).toNat c.toNat true).v:=by
       unfold oH
       rw [if_pos ⟨hm,by rw [hsl,hb]⟩]
       simp [yM,eZ,iB,iR,aE,bC,k3,k5,qH.v,hvl,hdl]
       simp [cR,h2,h3]
      rw [hv2]
      exact this
    ·have hne:¬ ((a0.toNat:Int)=84∧(a1.toNat:Int)=50):=by
      rintro ⟨h3,h4⟩
      exact hmg ⟨UInt8.toNat_inj.1 (by simp;omega),UInt8.toNat_inj.1 (by simp;omega)⟩
     have hsl:eN k r c w bs=false:=by
      unfold eN
      rw [h0,h1]
      by_cases h5:a0=84
      ·have h6:¬ a1=50:=fun h=>hmg ⟨h5,h⟩
       simp [h6]
      ·simp [h5]
     have:=aqy k r c w v bs x hv hm hs h0 h1 hne
     simpa [oH,hm,hsl,hl,hs] using this
   ·have h1:eN k r c w bs=false:=by unfold eN;rw [decide_eq_false hs];rfl
    have:=aqx k r c w v bs x hv hm hl hs
    have hne:bs≠[]:=by rintro rfl;exact hl rfl
    simpa [oH,hm,h1,hne,hs] using this
def jM:Nat→Bool:=fun d=>d != 4 && (d != 6 && (d != 47 && d != 57))
def yN (k r c w:Int) (bs:List UInt8):AV := .tup [if eN k r c w bs=true then (cR k r bs).v else mM,bC (eN k r c w bs)]
theorem aqA (k r c w:Int) (v:AV) (bs:List UInt8) (x:List AV) (hv:bD v bs.length (aQ bs++x)) (hm:bL k r c w=true) (hb2:¬ (bs.length:Int)=dV k r c):aY Tryz.prog 288 [aA k r c w,v] ⟨.tup [mM,bC false],[]⟩:=by
 have hp:=hv.plain
 have hmn:=gF hm
 replace hmn:=aB.mk hmn
 refine bB follows Tryz.func288 (by unfold Tryz.f288;rfl) (by unfold Tryz.f288;simp) jM (by unfold Tryz.f288;simp) (by kernel_rfl) ?_;unfold Tryz.f288
 simp only [↓pre,simprocAttr,aA,sx,kV,jM,bne,aC,aM,aK,aJ,aF,aG,Option.map_none,Option.map_some,a8,hv.len',sr]
 refine aL (aaF k r c w hm) (by rfl) ?_;simp only [↓pre,simprocAttr,aA,sx,kV,jM,bne,aC,aM,aK,aJ,aF,aG,Option.map_none,Option.map_some,a8,hv.len',hb2,sr]
 rfl
theorem aqB (k r c w:Int) (v:AV) (bs:List UInt8) (x:List AV) (hv:bD v bs.length (aQ bs++x)) (hm:bL k r c w=true) (hb2:(bs.length:Int)=dV k r c) {a b:UInt8} (ha:bs[0]? = some a) (hb:bs[1]? = some b) (hne:¬ ((a.toNat:Int)=84∧(b.toNat:Int)=50)):aY Tryz.prog 288 [aA k r c w,v] ⟨.tup [mM,bC false],[]⟩:=by
 have hp:=hv.plain
 have hmn:=gF hm
 have a0:=lL (x:=x) ha
 have a1:=lL (x:=x) hb
 have l0:0 < bs.length:=by unfold dV at hb2;omega
 have l1:1 < bs.length:=by unfold dV at hb2;omega
 replace hmn:=aB.mk hmn
 refine bB follows Tryz.func288 (by unfold Tryz.f288;rfl) (by unfold Tryz.f288;simp) jM (by unfold Tryz.f288;simp) (by kernel_rfl) ?_;unfold Tryz.f288
 simp only [↓pre,simprocAttr,aA,sx,kV,jM,bne,aC,aM,aK,aJ,aF,aG,Option.map_none,Option.map_some,a8,hv.len',sr]
 by_cases h1:(a.toNat:Int)=84
 ·have h2:¬ (b.toNat:Int)=50:=fun h=>hne ⟨h1,h⟩
  refine aL (aaF k r c w hm) (by rfl) ?_;simp only [↓pre,simprocAttr,aA,sx,kV,jM,bne,aC,aM,aK,aJ,aF,aG,Option.map_none,Option.map_some,a8,hv.len',hb2,hv.addr',l0,l1,a0,a1,h1,h2,sr]
  rfl
 ·refine aL (aaF k r c w hm) (by rfl) ?_;simp only [↓pre,simprocAttr,aA,sx,kV,jM,bne,aC,aM,aK,aJ,aF,aG,Option.map_none,Option.map_some,a8,hv.len',hb2,hv.addr',l0,l1,a0,a1,h1,sr]
  rfl
def yO (kd ix:Int) (bs:List UInt8) (N C:Nat):Bool→iO
 | true=>⟨.tup [iR kd ix (gP bs 4) (gP bs 8) (.sl 0 0 N N false) (.sl 1 0 C C false),bC true],[(3,cJ (jL bs N)),(5,aQ (bs.drop (12+4*N)))]⟩
 | false=>⟨.tup [mM,bC false],[]⟩
theorem aqC (k r c w:Int) (v:AV) (bs:List UInt8) (x:List AV) (hv:bD v bs.length (aQ bs++x)) (hm:bL k r c w=true) (hb2:(bs.length:Int)=dV k r c) {a2 a3:UInt8} (h0:bs[0]? = some 84) (h1:bs[1]? = some 50) (h2:bs[2]? = some a2) (h3:bs[3]? = some a3):aY Tryz.prog 288 [aA k r c w,v] (yO a2.toNat a3.toNat bs (k+r).toNat c.toNat (d5 k r c w a2.toNat a3.toNat (gP bs 4) (gP bs 8) (jL bs (k+r).toNat) c.toNat)):=by
 have hp:=hv.plain
 have hmn:=gF hm
 have b0:=lL (x:=x) h0
 have b1:=lL (x:=x) h1
 have b2:=lL (x:=x) h2
 have b3:=lL (x:=x) h3
 have l12:12≤bs.length:=by unfold dV at hb2;omega
 have l0:0 < bs.length:=by omega
 have l1:1 < bs.length:=by omega
 have l2:2 < bs.length:=by omega
 have l3:3 < bs.length:=by omega
 have c84:(((84:UInt8).toNat:Nat):Int)=84:=rfl
 have c50:(((50:UInt8).toNat:Nat):Int)=50:=rfl
 have w5:IntKind.i64.wrap (a3.toNat:Int)=(a3.toNat:Int):=dE (by have:=a3.toNat_lt;omega)
 obtain ⟨N,hN⟩:∃ N:Nat,k+r=(N:Int):=⟨(k+r).toNat,by omega⟩
 obtain ⟨C,hC⟩:∃ C:Nat,c=(C:Int):=⟨c.toNat,by omega⟩
 have hNN:(k+r).toNat=N:=by omega
 have hCC:c.toNat=C:=by omega
 rw [hNN,hCC]
 generalize hres:yO _ _ _ _ _ _=res
 have hlen:bs.length=12+4*N+C:=by unfold dV at hb2;omega
 have hN16:N≤16∧1≤N∧8≤C∧C≤64:=by omega
 have n4:=afZ v bs x 4 hv (by omega) (by omega)
 have n8:=afZ v bs x 8 hv (by omega) (by omega)
 replace hlen:=aB.mk hlen
 replace hN16:=aB.mk hN16
 replace hmn:=aB.mk hmn
 replace l12:=aB.mk l12
 refine bB follows Tryz.func288 (by unfold Tryz.f288;rfl) (by unfold Tryz.f288;simp) jM (by unfold Tryz.f288;simp) (by kernel_rfl) ?_;unfold Tryz.f288
 simp only [↓pre,simprocAttr,aA,sx,kV,jM,bne,aC,aM,aK,aJ,aF,aG,Option.map_none,Option.map_some,a8,hv.len',sr]
 refine aL (aaF k r c w hm) (by rfl) ?_;simp only [↓pre,simprocAttr,aA,sx,kV,jM,bne,aC,aM,aK,aJ,aF,aG,Option.map_none,Option.map_some,a8,hv.len',hb2,hv.addr',l0,l1,l2,l3,b0,b1,b2,b3,c84,c50,w5,sr];(refine bM (n4) (by simp only [aA,aO, *]) (by intro k;rfl) ?_);simp only [↓pre,simprocAttr,aA,sx,kV,jM,bne,aC,aM,aK,aJ,aF,aG,Option.map_none,Option.map_some,a8,hv.len',hb2,hv.addr',l0,l1,l2,l3,b0,b1,b2,b3,c84,c50,w5,sr];(refine bM (n8) (by simp only [aA,aO, *]) (by intro k;rfl) ?_);simp only [↓pre,simprocAttr,aA,sx,kV,jM,bne,aC,aM,aK,aJ,aF,aG,Option.map_none,Option.map_some,a8,hv.len',hb2,hv.addr',l0,l1,l2,l3,b0,b1,b2,b3,c84,c50,w5,sr]
 refine cU (by kernel_rfl) ?_
 simp only [↓pre,simprocAttr,aA,sx,kV,jM,bne,aC,aM,aK,aJ,aF,aG,Option.map_none,Option.map_some,a8,sr]
 refine cU (by kernel_rfl) ?_
 simp only [↓pre,simprocAttr,aA,sx,kV,jM,bne,aC,aM,aK,aJ,aF,aG,Option.map_none,Option.map_some,a8,hv.len',sr]
 refine aL (tP k r c w hm) (by rfl) ?_;simp only [↓pre,simprocAttr,aA,sx,kV,jM,bne,aC,aM,aK,aJ,aF,aG,Option.map_none,Option.map_some,a8,hN,sr]
 rw [b7]
 refine b8 (fun n e m=>∃ i,n+i=N∧e 1=v∧e 2 = .tptr 0 [aE k,aE r,aE c,aE w]∧e 4 = .ptr 0 0∧e 6 = .ptr 1 0∧e 7=aE (N:Nat)∧e 8=aE (i:Nat)∧1 < m.next∧m.at_ 0=some ⟨[.val (.int .u8 0),aE 0,aE 0,aE 0,aP,aP],127,.var,true⟩∧∃ vv,m.at_ 1=some ⟨[.val (.int .u8 a2.toNat),aE a3.toNat,aE (gP bs 4),aE (gP bs 8),vv,aP],127,.var,true⟩∧eM m 3 1 vv i (cJ (jL bs i))) N ⟨0,by omega, ?_⟩ ?_
 ·refine ⟨rfl,rfl,rfl,rfl, ?_,rfl,by simp [bX,bO,aH.empty],rfl,aP, ?_,gT⟩
  ·simp [bI.set,hN,aE]
  ·rfl
 ·rintro n e m ⟨i,hi,e1,e2,e4,e6,e7,e8,hnx,hm0,vv,hm1,ho⟩
  by_cases hlt:i < N
  ·have l4:12+4*i+4+C≤bs.length:=by have:=hlen.out;omega
   have g1:((i:Nat):Int) < ((N:Nat):Int):=by omega
   have hn16:=hN16.out
   have wa:IntKind.i64.wrap (4*(i:Int))=((4*i:Nat):Int):=by rw [show (4*(i:Int))=((4*i:Nat):Int) by simp];exact dE (by omega)
   have wb:IntKind.i64.wrap (12+((4*i:Nat):Int))=((12+4*i:Nat):Int):=by rw [show (12+((4*i:Nat):Int))=((12+4*i:Nat):Int) by simp];exact dE (by omega)
   have w1:=cF (n:=i) (by omega)
   have ni:=afZ v bs x (12+4*i) hv (by omega) (by have:=hlen.out;omega)
   replace hn16:=aB.mk hn16
   simp only [↓pre,simprocAttr,aA,sx,kV,jM,bne,aC,aM,aK,aJ,aF,aG,Option.map_none,Option.map_some,a8,e1,e2,e4,e6,e7,e8,g1,hm1,wa,wb,sr]
   (refine bM (ni) (by simp only [aA,aO, *]) (by intro k;rfl) ?_);simp only [↓pre,simprocAttr,aA,sx,kV,jM,bne,aC,aM,aK,aJ,aF,aG,Option.map_none,Option.map_some,a8,e1,e2,e4,e6,e7,e8,g1,hm1,sr]
   refine vV (sz:=1) (y:=8) (zl:=[.int .i64 0]) (by kernel_rfl) ho (by kernel_rfl) (by kernel_rfl) (by kernel_rfl) rfl mH (by rfl) (by have:=hN16.out;omega) (by have:=hN16.out;omega) ?_
   intro vv' m' ho' hnx' hkeep hbl
   have hm1':=hkeep 1 _ hm1 hnx (ho.ne_kind hm1 (fun h=>by cases h))
   have hm0':=hkeep 0 _ hm0 (by omega) (ho.ne_kind hm0 (fun h=>by cases h))
   obtain ⟨b',rfl,hb',hlt'⟩:=ho'.sl (by omega)
   refine cU (by kernel_rfl) ?_
   simp only [↓pre,simprocAttr,aA,sx,kV,jM,bne,aC,aM,aK,aJ,aF,aG,Option.map_none,Option.map_some,a8,e1,e2,e4,e6,e7,e8,hm1',sr]
   refine cU (by kernel_rfl) ?_
   simp only [↓pre,simprocAttr,aA,sx,kV,jM,bne,aC,aM,aK,aJ,aF,aG,Option.map_none,Option.map_some,a8,e1,e2,e4,e6,e7,e8,hm1',hm0',w1,sr]
   refine ⟨n - 1,by omega,i+1,by omega,rfl,by omega,.sl b' 0 (i+1) (i+1) false,rfl, ?_⟩
   rw [ak2,ab2]
   exact ho'.put_kind hm1' (fun h=>by cases h)
  ·have hiN:i=N:=by omega
   subst hiN
   have hdl:(bs.drop (12+4*i)).length=C:=by have:=hlen.out;rw [List.length_drop];omega
   have g1:¬ ((i:Nat):Int) < ((i:Nat):Int):=by omega
   have hn16:=hN16.out
   have wa:IntKind.i64.wrap (4*(i:Int))=((4*i:Nat):Int):=by rw [show (4*(i:Int))=((4*i:Nat):Int) by simp];exact dE (by omega)
   have wb:IntKind.i64.wrap (12+((4*i:Nat):Int))=((12+4*i:Nat):Int):=by rw [show (12+((4*i:Nat):Int))=((12+4*i:Nat):Int) by simp];exact dE (by omega)
   obtain ⟨v5,s5,r5⟩:=hv.slice (P:=Tryz.prog) (t:=52) (sz:=1) (lo:=some (12+4*i)) (hi:=none) (by kernel_rfl) (by have:=hlen.out;simp only [Option.getD_some,Option.getD_none];omega) (by simp)
   simp only [Option.getD_some,Option.getD_none,Nat.mul_one] at r5
   rw [rG bs x _ (by have:=hlen.out;omega),←List.length_drop,hdl] at r5
   replace hn16:=aB.mk hn16
   simp only [↓pre,simprocAttr,aA,sx,kV,jM,bne,aC,aM,aK,aJ,aF,aG,Option.map_none,Option.map_some,a8,e1,e2,e4,e6,e7,e8,g1,decide_false,hm1,wa,wb,hv.slOk,hv.sliceX,s5,sr]
   have hsrc:fW Tryz.prog 5 1 m v5=some (aQ (bs.drop (12+4*i)),C):=by
    have hq:=r5.src (P:=Tryz.prog) (m:=m) (el:=5) (sz:=1) (by rw [Nat.mul_one,List.length_append];simp [aQ];have:=hlen.out;omega)
    rw [hq,Nat.mul_one,List.take_left' (by simp [aQ];have:=hlen.out;omega)]
   have hm0b:=ho.ne_kind hm0 (fun h=>by cases h)
   have hm1b:=ho.ne_kind hm1 (fun h=>by cases h)
   refine vV (kd := .flat) (sz:=1) (y:=1) (zl:=[.int .u8 0]) (by kernel_rfl) gT (by kernel_rfl) (by kernel_rfl) (by kernel_rfl) rfl hsrc (by simp [aQ];have:=hlen.out;omega) (by have:=hN16.out;omega) (by have:=hN16.out;omega) ?_
   intro dv m' hd hnx' hkeep hbl
   obtain ⟨b2,rfl,hb2',hlt2⟩:=hd.sl (by have:=hN16.out;omega)
   obtain ⟨b,rfl,hb,hlt1⟩:=ho.sl (by have:=hN16.out;omega)
   have hm1':=hkeep 1 _ hm1 hnx (fun h=>by cases h)
   have hm0':=hkeep 0 _ hm0 (by omega) (fun h=>by cases h)
   have hb':=hkeep b _ hb hlt1 (fun h=>by cases h)
   have hb0:¬ b=0:=fun h=>hm0b (by rw [h];rfl)
   have hb1:¬ b=1:=fun h=>hm1b (by rw [h];rfl)
   have hb2n:b2=m.next:=by
    rcases hbl b2 rfl with h | h
    ·exact h
    ·cases h
   have h20:¬ b2=0:=by omega
   have h21:¬ b2=1:=by omega
   have hbb:¬ b=b2:=by omega
   refine cU (by kernel_rfl) ?_
   rw [List.nil_append] at hb2'
   rw [Nat.zero_add]
   simp only [↓pre,simprocAttr,aA,sx,kV,jM,bne,aC,aM,aK,aJ,aF,aG,Option.map_none,Option.map_some,a8,e1,e2,e4,e6,e7,e8,hm1',sr]
   refine cU (by kernel_rfl) ?_
   generalize hm2:aH.put _ _ _=m2
   have q0:m2.at_ 0=some ⟨[.val (.int .u8 0),aE 0,aE 0,aE 0,aP,aP],127,.var,true⟩:=by rw [←hm2,aF,if_neg (by omega)];exact hm0'
   have q1:m2.at_ 1=some ⟨[.val (.int .u8 a2.toNat),aE a3.toNat,aE (gP bs 4),aE (gP bs 8),.sl b 0 i i false,.sl b2 0 C C false],127,.var,true⟩:=by rw [←hm2,aF,if_pos rfl];rfl
   have q2:m2.at_ b=some ⟨cJ (jL bs i),3,.flat,true⟩:=by rw [←hm2,aF,if_neg hb1];exact hb'
   have q3:m2.at_ b2=some ⟨aQ (bs.drop (12+4*i)),5,.flat,true⟩:=by rw [←hm2,aF,if_neg h21];exact hb2'
   simp only [↓pre,simprocAttr,aA,sx,kV,jM,bne,aC,aM,aK,aJ,aF,aG,Option.map_none,Option.map_some,a8,e1,e2,e4,e6,e7,e8,q1,sr]
   have hil:(jL bs i).length=i:=aaG bs i
   refine ajf (aqt k r c w a2.toNat a3.toNat (gP bs 4) (gP bs 8) hm (.tree i i (cJ (jL bs i)) false) (.tree C C (aQ (bs.drop (12+4*i))) false) (jL bs i) [] C (aQ (bs.drop (12+4*i))) ⟨.inr (.inr ⟨i,false,by rw [hil,List.append_nil],by rw [hil];exact Nat.le_refl _⟩)⟩ ⟨.inr (.inr ⟨C,false,rfl,Nat.le_refl _⟩)⟩ (by rw [hil];have:=hN16.out;omega)) (by simp [gI,lend,q2,q3,aA,iR,aE]) rfl rfl ?_
   rw [←hres]
   cases hms:d5 k r c w a2.toNat a3.toNat (gP bs 4) (gP bs 8) (jL bs i) C
   ·simp only [↓pre,simprocAttr,aA,sx,kV,jM,bne,aC,aM,aK,aJ,aF,aG,Option.map_none,Option.map_some,a8,e2,e4,e6,q0,q1,iR,aP,sr]
    rfl
   ·have k3:bR Tryz.prog 3 = .flat:=by kernel_rfl
    have k5:bR Tryz.prog 5 = .flat:=by kernel_rfl
    have hbn':¬ b2=b:=fun h=>hbb h.symm
    simp only [↓pre,simprocAttr,aA,sx,kV,jM,bne,aC,aM,aK,aJ,aF,aG,Option.map_none,Option.map_some,a8,e2,e4,e6,q0,q1,iR,sr]
    simp only [hb0,hb1,h20,h21,q2,q3,k3,k5,if_false,if_true,Option.bind_some,Option.map_some,List.any_nil,Bool.false_eq_true,ne_eq,not_true_eq_false,or_self,List.any_cons,beq_iff_eq,hbn',hbb,Bool.or_false,List.nil_append,List.drop_zero,beq_eq_false_iff_ne.2 hbb]
    rfl
theorem aqD (k r c w:Int) (v:AV) (bs:List UInt8) (x:List AV) (hv:bD v bs.length (aQ bs++x)) (hm:bL k r c w=true):aY Tryz.prog 288 [aA k r c w,v] ⟨yN k r c w bs,[]⟩:=by
 have hmn:=gF hm
 by_cases hs:(bs.length:Int)=dV k r c
 ·have l12:12≤bs.length:=by unfold dV at hs;omega
  obtain ⟨a0,h0⟩:∃ a,bs[0]? = some a:=⟨_,List.getElem?_eq_getElem (by omega)⟩
  obtain ⟨a1,h1⟩:∃ a,bs[1]? = some a:=⟨_,List.getElem?_eq_getElem (by omega)⟩
  obtain ⟨a2,h2⟩:∃ a,bs[2]? = some a:=⟨_,List.getElem?_eq_getElem (by omega)⟩
  obtain ⟨a3,h3⟩:∃ a,bs[3]? = some a:=⟨_,List.getElem?_eq_getElem (by omega)⟩
  by_cases hmg:a0=84∧a1=50
  ·obtain ⟨rfl,rfl⟩:=hmg
   have hq:=aqC k r c w v bs x hv hm hs h0 h1 h2 h3
   have hvl:(cR k r bs).vec.length=(k+r).toNat:=aaG _ _
   have hdl:(cR k r bs).data.length=c.toNat:=by simp only [cR,List.length_drop];unfold dV at hs;omega
   have e2:(bs.getD 2 0)=a2:=by rw [List.getD_eq_getElem?_getD,h2];rfl
   have e3:(bs.getD 3 0)=a3:=by rw [List.getD_eq_getElem?_getD,h3];rfl
   have hmay:sN k r c w (cR k r bs)=d5 k r c w a2.toNat a3.toNat (gP bs 4) (gP bs 8) (jL bs (k+r).toNat) c.toNat:=by
    unfold sN;rw [hdl];simp only [cR,e2,e3]
   have hsl:eN k r c w bs=sN k r c w (cR k r bs):=by unfold eN;rw [decide_eq_true hs,decide_eq_true h0,decide_eq_true h1];rfl
   rw [←hmay] at hq
   cases hb:sN k r c w (cR k r bs) with
   | false =>
    rw [hb] at hq
    simpa [yN,hsl,hb,yO] using hq
   | true =>
    rw [hb] at hq
    have k3:bR Tryz.prog 3 = .flat:=by kernel_rfl
    have k5:bR Tryz.prog 5 = .flat:=by kernel_rfl
    have:=x2 1 hq (by simp [yO,iP,jX,iR,aE,bC,k3,k5])
    have hv2:yN k r c w bs=eZ Tryz.prog (yO a2.toNat a3.toNat bs (k+r).toNat c.toNat true).rows 1 (yO a2.toNat a3.toNat bs (k+r).toNat c.toNat true).v:=by
     unfold yN
     rw [if_pos (by rw [hsl,hb]),hsl,hb]
     simp [yO,eZ,iB,iR,aE,bC,k3,k5,qH.v,hvl,hdl]
     simp [cR,h2,h3]
    rw [hv2]
    exact this
  ·have hne:¬ ((a0.toNat:Int)=84∧(a1.toNat:Int)=50):=by
    rintro ⟨h3,h4⟩
    exact hmg ⟨UInt8.toNat_inj.1 (by simp;omega),UInt8.toNat_inj.1 (by simp;omega)⟩
   have hsl:eN k r c w bs=false:=by
    unfold eN
    rw [h0,h1]
    by_cases h5:a0=84
    ·have h6:¬ a1=50:=fun h=>hmg ⟨h5,h⟩
     simp [h6]
    ·simp [h5]
   have:=aqB k r c w v bs x hv hm hs h0 h1 hne
   simpa [yN,hsl] using this
 ·have h1:eN k r c w bs=false:=by unfold eN;rw [decide_eq_false hs];rfl
  have:=aqA k r c w v bs x hv hm hs
  simpa [yN,h1] using this
theorem aW:aH.empty.next=0:=rfl
def uT:Nat→Bool:=fun d=>d != 6 && d != 8
def gQ (k r c w:Int) (bs:List UInt8) (ix:Int):Bool:=eN k r c w bs && decide ((cR k r bs).ix=ix)
theorem ak4 (k r c w ix:Int) (v:AV) (bs:List UInt8) (x:List AV) (hv:bD v bs.length (aQ bs++x)) (hm:bL k r c w=true):aY Tryz.prog 227 [aA k r c w,v,aE ix] ⟨.tup [if gQ k r c w bs ix=true then (cR k r bs).v else mM,bC (gQ k r c w bs ix)],[]⟩:=by
 have hp:=hv.plain
 have hr:=aqD k r c w v bs x hv hm
 unfold yN at hr
 cases hs:eN k r c w bs with
 | false =>
  rw [hs] at hr
  have h1:gQ k r c w bs ix=false:=by unfold gQ;rw [hs];rfl
  rw [h1]
  rw [if_neg (by decide)] at hr
  rw [if_neg (by decide)]
  unfold mM iR at hr ⊢
  refine bB follows Tryz.func227 (by unfold Tryz.f227;rfl) (by unfold Tryz.f227;simp) uT (by unfold Tryz.f227;simp) (by kernel_rfl) ?_;unfold Tryz.f227
  simp only [↓pre,simprocAttr,aA,sx,aav,uT,bne,aC,aM,aK,aJ,aF,aG,Option.map_none,Option.map_some,a8,aW,Nat.one_ne_zero,Nat.zero_ne_one,sr]
  refine aL (hr) (by simp only [aA,aO, *]) ?_;simp only [↓pre,simprocAttr,aA,sx,aav,uT,bne,aC,aM,aK,aJ,aF,aG,Option.map_none,Option.map_some,a8,aW,Nat.one_ne_zero,Nat.zero_ne_one,aP,sr]
 | true =>
  rw [hs] at hr
  rw [if_pos rfl] at hr
  have h1:gQ k r c w bs ix=decide ((cR k r bs).ix=ix):=by unfold gQ;rw [hs];rfl
  rw [h1]
  generalize hsc:cR k r bs=s at *
  by_cases he:s.ix=ix
  ·rw [if_pos (by simpa using he),decide_eq_true he]
   unfold qH.v iR at hr ⊢
   refine bB follows Tryz.func227 (by unfold Tryz.f227;rfl) (by unfold Tryz.f227;simp) uT (by unfold Tryz.f227;simp) (by kernel_rfl) ?_;unfold Tryz.f227
   simp only [↓pre,simprocAttr,aA,sx,aav,uT,bne,aC,aM,aK,aJ,aF,aG,Option.map_none,Option.map_some,a8,aW,Nat.one_ne_zero,Nat.zero_ne_one,sr]
   refine aL (hr) (by simp only [aA,aO, *]) ?_;simp only [↓pre,simprocAttr,aA,sx,aav,uT,bne,aC,aM,aK,aJ,aF,aG,Option.map_none,Option.map_some,a8,aW,Nat.one_ne_zero,Nat.zero_ne_one,aP,he,sr]
  ·rw [if_neg (by simpa using he),decide_eq_false he]
   unfold qH.v iR at hr
   unfold mM iR
   refine bB follows Tryz.func227 (by unfold Tryz.f227;rfl) (by unfold Tryz.f227;simp) uT (by unfold Tryz.f227;simp) (by kernel_rfl) ?_;unfold Tryz.f227
   simp only [↓pre,simprocAttr,aA,sx,aav,uT,bne,aC,aM,aK,aJ,aF,aG,Option.map_none,Option.map_some,a8,aW,Nat.one_ne_zero,Nat.zero_ne_one,sr]
   refine aL (hr) (by simp only [aA,aO, *]) ?_;simp only [↓pre,simprocAttr,aA,sx,aav,uT,bne,aC,aM,aK,aJ,aF,aG,Option.map_none,Option.map_some,a8,aW,Nat.one_ne_zero,Nat.zero_ne_one,aP,he,sr]
def eO (k r c:Int) (n:Nat):Bool:=decide ((n:Int)=0) || decide ((n:Int)=dV k r c)
def jN (k r c:Int) (n n':Nat):Bool:=eO k r c n && eO k r c n'
theorem aqE (k r c w:Int) (v v':AV) (n n':Nat) (x x':List AV) (hv:bD v n x) (hv':bD v' n' x') (hm:bL k r c w=true):aY Tryz.prog 254 [aA k r c w,.agg [v,v']] ⟨bC (jN k r c n n'),[]⟩:=by
 have hp:=hv.plain
 have hp':=hv'.plain
 have f1:=cA hv
 have f2:=cA hv'
 have o1:=bP hv
 have o2:=bP hv'
 have hsz:=aaF k r c w hm
 refine bB follows Tryz.func254 (by unfold Tryz.f254;rfl) (by unfold Tryz.f254;simp) aD (by unfold Tryz.f254;simp) (by kernel_rfl) ?_;unfold Tryz.f254
 simp only [↓pre,simprocAttr,aA,sx,yF,aD,aC,f1,f2,o1,o2]
 rw [b7]
 refine b8 (fun q e m=>∃ i,q+i=2∧e 2 = .tptr 0 [aE k,aE r,aE c,aE w]∧e 3 = .tptr 0 [v,v']∧e 5=aE (i:Nat)∧(1≤i→eO k r c n=true)∧(2≤i→eO k r c n'=true)) 2 ⟨0,by omega,rfl,rfl,rfl,by omega,by omega⟩ ?_
 rintro q e m ⟨i,hi,e2,e3,e5,g1,g2⟩
 by_cases hlt:i < 2
 ·obtain ⟨u,ul,ux,hu,hru,hul⟩:∃ u ul ux,[v,v'][i]? = some u∧bD u ul ux∧ul=(if i=0 then n else n'):=by
   match i,hlt with
   | 0,_=>exact ⟨v,n,x,rfl,hv,rfl⟩
   | 1,_=>exact ⟨v',n',x',rfl,hv',rfl⟩
  have ou:=bP hru
  have hlt':(i:Int) < 2:=by omega
  have w1:=cF (n:=i) (by omega)
  by_cases h0:(ul:Int)=0
  ·simp only [↓pre,simprocAttr,aA,sx,yF,aD,aC,aI,e2,e3,e5,hlt,hlt',hu,ou,hru.len',h0,w1,Nat.mul_one]
   have hlb:eO k r c ul=true:=by unfold eO;rw [decide_eq_true h0];rfl
   refine ⟨q - 1,by omega,i+1,by omega,rfl,fun hi1 => ?_,fun hi2 => ?_⟩
   ·by_cases h9:i=0
    ·rw [if_pos h9] at hul;subst hul;exact hlb
    ·exact g1 (by omega)
   ·rw [if_neg (by omega)] at hul;subst hul;exact hlb
  ·by_cases h1:(ul:Int)=dV k r c
   ·simp only [↓pre,simprocAttr,aA,sx,yF,aD,aC,aI,e2,e3,e5,hlt,hlt',hu,ou,hru.len',h0,w1,Nat.mul_one]
    (refine bM (hsz) (by rfl) (by intro k;rfl) ?_);simp only [↓pre,simprocAttr,aA,sx,yF,aD,aC,e2,e3,e5,h1,w1]
    have hlb:eO k r c ul=true:=by unfold eO;rw [decide_eq_true h1,Bool.or_true]
    refine ⟨q - 1,by omega,i+1,by omega,rfl,fun hi1 => ?_,fun hi2 => ?_⟩
    ·by_cases h9:i=0
     ·rw [if_pos h9] at hul;subst hul;exact hlb
     ·exact g1 (by omega)
    ·rw [if_neg (by omega)] at hul;subst hul;exact hlb
   ·simp only [↓pre,simprocAttr,aA,sx,yF,aD,aC,aI,e2,e3,e5,hlt,hlt',hu,ou,hru.len',h0,w1,Nat.mul_one]
    (refine bM (hsz) (by rfl) (by intro k;rfl) ?_);simp only [↓pre,simprocAttr,aA,sx,yF,aD,aC,e2,e3,e5,h1,w1]
    have hlb:eO k r c ul=false:=by unfold eO;rw [decide_eq_false h0,decide_eq_false h1];rfl
    have hpf:jN k r c n n'=false:=by
     unfold jN
     split at hul
     ·subst hul;rw [hlb];rfl
     ·subst hul;rw [hlb,Bool.and_false]
    rw [hpf];rfl
 ·have hlt':¬ (i:Int) < 2:=by omega
  have hp:jN k r c n n'=true:=by
   unfold jN
   rw [g1 (by omega),g2 (by omega)]
   rfl
  simp only [↓pre,simprocAttr,aA,sx,yF,aD,aC,aI,e2,e3,e5,hlt',decide_false,cS,hp,bC]
abbrev bN:=List UInt8×List UInt8
structure fQ (v:AV) (ps:List bN) (cells:List AV):Prop where
 rd:bD v ps.length cells
 at_:∀ i p,ps[i]? = some p→∃ a b xa xb,cells[i*2]? = some a∧cells[i*2+1]? = some b∧bD a p.1.length (aQ p.1++xa)∧bD b p.2.length (aQ p.2++xb)
theorem qI {cells:List AV} {i:Nat} {a b:AV} (h:cells[i]? = some a) (h':cells[i+1]? = some b):(cells.drop i).take 2=[a,b]∧i+2≤cells.length:=by
 have h1:=(List.getElem?_eq_some_iff.1 h')
 obtain ⟨h1,h2⟩:=h1
 obtain ⟨h3,h4⟩:=List.getElem?_eq_some_iff.1 h
 refine ⟨?_,by omega⟩
 rw [List.drop_eq_getElem_cons h3,List.drop_eq_getElem_cons h1,h4,h2]
 rfl
def dO (k r c:Int) (ps:List bN):Bool:=decide ((ps.length:Int)=k+r) && ps.all (fun p=>jN k r c p.1.length p.2.length)
theorem aqF (k r c w:Int) (v:AV) (ps:List bN) (cells:List AV) (hv:fQ v ps cells) (hm:bL k r c w=true):aY Tryz.prog 197 [aA k r c w,v] ⟨bC (dO k r c ps),[]⟩:=by
 have hp:=hv.rd.plain
 have hmn:=gF hm
 have hN:=tP k r c w hm
 by_cases hl:(ps.length:Int)=k+r
 ·have hl32:ps.length≤16:=by omega
  have hrb:dO k r c ps=ps.all (fun p=>jN k r c p.1.length p.2.length):=by unfold dO;rw [decide_eq_true hl];rfl
  rw [hrb]
  replace hmn:=aB.mk hmn
  replace hl32:=aB.mk hl32
  replace hrb:=aB.mk hrb
  refine bB follows Tryz.func197 (by unfold Tryz.f197;rfl) (by unfold Tryz.f197;simp) aD (by unfold Tryz.f197;simp) (by kernel_rfl) ?_;unfold Tryz.f197
  simp only [↓pre,simprocAttr,aA,sx,wF,aD,aC,hv.rd.len']
  refine aL (hN) (by rfl) ?_;simp only [↓pre,simprocAttr,aA,sx,wF,aD,aC,hl]
  rw [b7]
  refine b8 (fun q e m=>∃ i,q+i=ps.length∧e 1=v∧e 2 = .tptr 0 [aE k,aE r,aE c,aE w]∧e 5=aE (i:Nat)∧∀ j p,j < i→ps[j]? = some p→jN k r c p.1.length p.2.length=true) ps.length ⟨0,by omega,rfl,rfl,rfl,fun j p h=>by omega⟩ ?_
  rintro q e m ⟨i,hi,e1,e2,e5,hpre⟩
  replace hpre:=aB.mk hpre
  by_cases hlt:i < ps.length
  ·have hlt':((i:Nat):Int) < ((ps.length:Nat):Int):=by omega
   obtain ⟨p,hpi⟩:∃ p,ps[i]? = some p:=⟨_,List.getElem?_eq_getElem hlt⟩
   obtain ⟨a,b,xa,xb,ha,hb,hra,hrb'⟩:=hv.at_ i p hpi
   obtain ⟨ht,htl⟩:=qI ha hb
   have pa:=hra.plain
   have pb:=hrb'.plain
   have hpr:=aqE k r c w a b p.1.length p.2.length _ _ hra hrb' hm
   have w1:=cF (n:=i) (by have:=hl32.out;omega)
   replace hpi:=aB.mk hpi
   simp only [↓pre,simprocAttr,aA,sx,wF,aD,aC,aI,e1,e2,e5,hv.rd.len',hlt',hv.rd.addr',hlt,ht,htl]
   cases hpb:jN k r c p.1.length p.2.length with
   | true =>
    (refine bM (hpr) (by simp only [aA,aO, *]) (by intro k;rfl) ?_);simp only [↓pre,simprocAttr,aA,sx,wF,aD,aC,e1,e2,e5,hpb,bC,cS,dC,w1]
    refine ⟨q - 1,by omega,i+1,by omega,rfl,fun j p' hj hp' => ?_⟩
    by_cases hji:j=i
    ·subst hji
     rw [hpi.out] at hp'
     cases hp'
     exact hpb
    ·exact hpre.out j p' (by omega) hp'
   | false =>
    have hall:ps.all (fun p=>jN k r c p.1.length p.2.length)=false:=by
     rw [List.all_eq_false]
     exact ⟨p,List.mem_of_getElem? hpi.out,by rw [hpb];decide⟩
    (refine bM (hpr) (by simp only [aA,aO, *]) (by intro k;rfl) ?_);simp only [↓pre,simprocAttr,aA,sx,wF,aD,aC,e1,e2,e5,hpb,bC,cS,dC,w1,hall]
  ·have hlt':¬ ((i:Nat):Int) < ((ps.length:Nat):Int):=by omega
   have hall:ps.all (fun p=>jN k r c p.1.length p.2.length)=true:=by
    rw [List.all_eq_true]
    intro p hp
    obtain ⟨j,hj⟩:=List.getElem?_of_mem hp
    have:=(List.getElem?_eq_some_iff.1 hj).1
    exact hpre.out j p (by omega) hj
   simp only [↓pre,simprocAttr,aA,sx,wF,aD,aC,e1,e2,e5,hv.rd.len',hlt',decide_false,cS,hall,bC]
 ·have hrb:dO k r c ps=false:=by unfold dO;rw [decide_eq_false hl];rfl
  rw [hrb]
  refine bB follows Tryz.func197 (by unfold Tryz.f197;rfl) (by unfold Tryz.f197;simp) aD (by unfold Tryz.f197;simp) (by kernel_rfl) ?_;unfold Tryz.f197
  simp only [↓pre,simprocAttr,aA,sx,wF,aD,aC,hv.rd.len']
  refine aL (hN) (by rfl) ?_;simp only [↓pre,simprocAttr,aA,sx,wF,aD,aC,hl,bC]
def eD (k r c w:Int) (ps:List bN):Int:=if bL k r c w=true then (if dO k r c ps=true then 0 else 120) else 2
theorem aqG (k r c w:Int) (v:AV) (ps:List bN) (cells:List AV) (hv:fQ v ps cells):aY Tryz.prog 111 [aA k r c w,v] ⟨aE (eD k r c w ps),[]⟩:=by
 have hp:=hv.rd.plain
 have h1:=aaB k r c w
 unfold eD
 cases hm:bL k r c w with
 | false =>
  rw [hm] at h1
  rw [if_neg (by decide)]
  refine bB follows Tryz.func111 (by unfold Tryz.f111;rfl) (by unfold Tryz.f111;simp) aD (by unfold Tryz.f111;simp) (by kernel_rfl) ?_;unfold Tryz.f111
  simp only [↓pre,simprocAttr,aA,sx,wC,aD,aC]
  refine aL (h1) (by rfl) ?_;simp only [↓pre,simprocAttr,aA,sx,wC,aD,aC,bC,dC,cS]
 | true =>
  rw [hm] at h1
  have h2:=aqF k r c w v ps cells hv hm
  rw [if_pos rfl]
  cases hr:dO k r c ps with
  | false =>
   rw [hr] at h2
   rw [if_neg (by decide)]
   refine bB follows Tryz.func111 (by unfold Tryz.f111;rfl) (by unfold Tryz.f111;simp) aD (by unfold Tryz.f111;simp) (by kernel_rfl) ?_;unfold Tryz.f111
   simp only [↓pre,simprocAttr,aA,sx,wC,aD,aC]
   refine aL (h1) (by rfl) ?_;simp only [↓pre,simprocAttr,aA,sx,wC,aD,aC,bC,dC,cS];refine aL (h2) (by simp only [aA,aO, *]) ?_;simp only [↓pre,simprocAttr,aA,sx,wC,aD,aC,bC,dC,cS]
  | true =>
   rw [hr] at h2
   rw [if_pos rfl]
   refine bB follows Tryz.func111 (by unfold Tryz.f111;rfl) (by unfold Tryz.f111;simp) aD (by unfold Tryz.f111;simp) (by kernel_rfl) ?_;unfold Tryz.f111
   simp only [↓pre,simprocAttr,aA,sx,wC,aD,aC]
   refine aL (h1) (by rfl) ?_;simp only [↓pre,simprocAttr,aA,sx,wC,aD,aC,bC,dC,cS];refine aL (h2) (by simp only [aA,aO, *]) ?_;simp only [↓pre,simprocAttr,aA,sx,wC,aD,aC,bC,dC,cS]
def ab3 (k r c w:Int) (bs:List UInt8) (ix:Int):Bool:=gQ k r c w bs ix && (decide ((cR k r bs).kd=2) && (cR k r bs).vec.all (fun n=>decide (n=(cR k r bs).ce)))
def kY (k r c w:Int) (bs:List UInt8) (ix:Int):Int:=if ab3 k r c w bs ix=true then (cR k r bs).ce else 0
theorem af0 (k r c w ix:Int) (v:AV) (bs:List UInt8) (x:List AV) (hv:bD v bs.length (aQ bs++x)) (hm:bL k r c w=true):aY Tryz.prog 255 [aA k r c w,v,aE ix] ⟨aE (kY k r c w bs ix),[]⟩:=by
 have hp:=hv.plain
 have hmn:=gF hm
 have hr:=ak4 k r c w ix v bs x hv hm
 have hvl:(cR k r bs).vec.length≤16:=by have:=aaG bs (k+r).toNat;simp only [cR];omega
 replace hmn:=aB.mk hmn
 unfold kY ab3
 cases hs:gQ k r c w bs ix with
 | false =>
  rw [hs] at hr
  rw [if_neg (by decide)] at hr
  rw [Bool.false_and,if_neg (by decide)]
  unfold mM iR at hr
  refine bB follows Tryz.func255 (by unfold Tryz.f255;rfl) (by unfold Tryz.f255;simp) aD (by unfold Tryz.f255;simp) (by kernel_rfl) ?_;unfold Tryz.f255
  simp only [↓pre,simprocAttr,aA,sx,uR,aD,aC,aK,aJ,eq_self,aF,aG]
  refine aL (hr) (by simp only [aA,aO, *]) ?_;simp only [↓pre,simprocAttr,aA,sx,uR,aD,aC,bC,aP,aK,aJ,eq_self,aF,aG]
 | true =>
  rw [hs] at hr
  rw [if_pos rfl] at hr
  rw [Bool.true_and]
  generalize cR k r bs=s at *
  unfold qH.v iR at hr
  by_cases hk:s.kd=2
  ·rw [decide_eq_true hk,Bool.true_and]
   have hvv:bD (.tree s.vec.length s.vec.length (cJ s.vec) false) s.vec.length (cJ s.vec++[]):=⟨.inr (.inr ⟨_,false,by rw [List.append_nil],Nat.le_refl _⟩)⟩
   replace hvl:=aB.mk hvl
   refine bB follows Tryz.func255 (by unfold Tryz.f255;rfl) (by unfold Tryz.f255;simp) aD (by unfold Tryz.f255;simp) (by kernel_rfl) ?_;unfold Tryz.f255
   simp only [↓pre,simprocAttr,aA,sx,uR,aD,aC,aK,aJ,eq_self,aF,aG]
   refine aL (hr) (by simp only [aA,aO, *]) ?_;simp only [↓pre,simprocAttr,aA,sx,uR,aD,aC,bC,aP,aK,aJ,eq_self,aF,aG,hk]
   rw [b7]
   refine b8 (fun q e m=>∃ i,q+i=s.vec.length∧e 7 = .tptr 0 [.val (.int .u8 2),aE s.ix,aE s.ce,aE s.st,.tree s.vec.length s.vec.length (cJ s.vec) false,.tree s.data.length s.data.length (aQ s.data) false]∧e 9=aE (i:Nat)∧∀ j n,j < i→s.vec[j]? = some n→n=s.ce) s.vec.length ⟨0,by omega,by rw [←hk];rfl,rfl,fun j n h=>by omega⟩ ?_
   rintro q e m ⟨i,hi,e7,e9,hpre⟩
   replace hpre:=aB.mk hpre
   by_cases hlt:i < s.vec.length
   ·have hlt':((i:Nat):Int) < ((s.vec.length:Nat):Int):=by omega
    obtain ⟨n,hn⟩:∃ n,s.vec[i]? = some n:=⟨_,List.getElem?_eq_getElem hlt⟩
    have a1:=sM (x:=[]) hn
    rw [List.append_nil] at a1 hvv
    have w1:=cF (n:=i) (by have:=hvl.out;omega)
    by_cases he:n=s.ce
    ·replace hn:=aB.mk hn
     subst he
     simp only [↓pre,simprocAttr,aA,sx,uR,aD,aC,aI,e7,e9,hvv.len',hvv.addr',hlt,hlt',Nat.mul_one,a1,cS,decide_false,w1,eq_self]
     refine ⟨q - 1,by omega,i+1,by omega,rfl,fun j n' hj hn' => ?_⟩
     by_cases hji:j=i
     ·subst hji
      rw [hn.out] at hn'
      cases hn'
      rfl
     ·exact hpre.out j n' (by omega) hn'
    ·have hall:(s.vec.all (fun n=>decide (n=s.ce)))=false:=by
      rw [List.all_eq_false]
      exact ⟨n,List.mem_of_getElem? hn,by simpa using he⟩
     rw [hall,if_neg (by decide)]
     replace hn:=aB.mk hn
     simp only [↓pre,simprocAttr,aA,sx,uR,aD,aC,aI,e7,e9,hvv.len',hvv.addr',hlt,hlt',Nat.mul_one,a1,dC,decide_false,w1,he]
   ·have hlt':¬ ((i:Nat):Int) < ((s.vec.length:Nat):Int):=by omega
    have hall:(s.vec.all (fun n=>decide (n=s.ce)))=true:=by
     rw [List.all_eq_true]
     intro n hn
     obtain ⟨j,hj⟩:=List.getElem?_of_mem hn
     have:=(List.getElem?_eq_some_iff.1 hj).1
     rw [decide_eq_true_eq]
     exact hpre.out j n (by omega) hj
    rw [hall,if_pos rfl]
    simp only [↓pre,simprocAttr,aA,sx,uR,aD,aC,e7,e9,hvv.len',hlt',decide_false,cS]
  ·rw [decide_eq_false hk,Bool.false_and,if_neg (by decide)]
   refine bB follows Tryz.func255 (by unfold Tryz.f255;rfl) (by unfold Tryz.f255;simp) aD (by unfold Tryz.f255;simp) (by kernel_rfl) ?_;unfold Tryz.f255
   simp only [↓pre,simprocAttr,aA,sx,uR,aD,aC,aK,aJ,eq_self,aF,aG]
   refine aL (hr) (by simp only [aA,aO, *]) ?_;simp only [↓pre,simprocAttr,aA,sx,uR,aD,aC,bC,aP,aK,aJ,eq_self,aF,aG,hk]
def fR (k r c w:Int) (ps:List bN):List (Int×Int):=ps.mapIdx fun i p=>(kY k r c w p.1 i,kY k r c w p.2 i)
def wR (hs:List (Int×Int)) (v:Int):Prop:=∃ (i:Nat) (x:Int×Int),hs[i]? = some x∧(x.1=v∨x.2=v)
def pH (hs:List (Int×Int)) (i:Nat) (v:Int):Bool:=match hs[i]? with
 | some x=>decide (x.1=v) || decide (x.2=v)
 | none=>false
def iC (hs:List (Int×Int)) (v:Int) (n:Nat):List Int:=(List.range n).filterMap fun i=>if pH hs i v=true then some (i:Int) else none
theorem ak5 (hs:List (Int×Int)) (v:Int) (n:Nat):iC hs v (n+1)=iC hs v n++(if pH hs n v=true then [(n:Int)] else []):=by
 unfold iC
 rw [List.range_succ,List.filterMap_append]
 cases h:pH hs n v <;> simp [h]
theorem ak6 (hs:List (Int×Int)) (v:Int) (n:Nat):(iC hs v n).length≤n:=by
 have:=List.length_filterMap_le (fun i:Nat=>if pH hs i v=true then some (i:Int) else none) (List.range n)
 rw [List.length_range] at this
 exact this
def tQ (hs:List (Int×Int)) (top:Int) (i kk:Nat) (b:Int):Prop:=(b=0∨(0 < b∧b < top∧wR hs b)) ∧
 ∀ j x,hs[j]? = some x→(j < i∨(j=i∧1≤kk)→x.1 < top→x.1≤b)∧(j < i∨(j=i∧2≤kk)→x.2 < top→x.2≤b)
theorem aqH (hs:List (Int×Int)) (top:Int):tQ hs top 0 0 0:=⟨.inl rfl,fun j x _=>⟨fun h=>by omega,fun h=>by omega⟩⟩
theorem aqI {hs:List (Int×Int)} {top b:Int} {i:Nat} (h:tQ hs top i 2 b):tQ hs top (i+1) 0 b :=
 ⟨h.1,fun j x hx=>⟨fun h1=>(h.2 j x hx).1 (by omega),fun h1=>(h.2 j x hx).2 (by omega)⟩⟩
theorem aqJ {hs:List (Int×Int)} {top b z:Int} {i kk:Nat} {x:Int×Int} (h:tQ hs top i kk b) (hk:kk < 2) (hx:hs[i]? = some x) (hz:z=if kk=0 then x.1 else x.2):tQ hs top i (kk+1) (if z < top∧b < z then z else b):=by
 obtain ⟨h1,h2⟩:=h
 have hin:wR hs z:=by
  refine ⟨i,x,hx, ?_⟩
  split at hz
  ·exact .inl hz.symm
  ·exact .inr hz.symm
 have hb0:0≤b:=by rcases h1 with h1 | h1 <;> omega
 split
 ·rename_i hc
  refine ⟨.inr ⟨by omega,hc.1,hin⟩,fun j y hy => ?_⟩
  have:=h2 j y hy
  constructor
  ·intro h3 h4
   by_cases h5:j < i∨j=i∧1≤kk
   ·have:=this.1 h5 h4;omega
   ·have h6:j=i∧kk=0:=by omega
    obtain ⟨rfl,rfl⟩:=h6
    rw [hx] at hy;cases hy
    simp only [if_true] at hz
    omega
  ·intro h3 h4
   by_cases h5:j < i∨j=i∧2≤kk
   ·have:=this.2 h5 h4;omega
   ·have h6:j=i∧kk=1:=by omega
    obtain ⟨rfl,rfl⟩:=h6
    rw [hx] at hy;cases hy
    simp only [Nat.one_ne_zero,if_false] at hz
    omega
 ·rename_i hc
  refine ⟨h1,fun j y hy => ?_⟩
  have:=h2 j y hy
  constructor
  ·intro h3 h4
   by_cases h5:j < i∨j=i∧1≤kk
   ·exact this.1 h5 h4
   ·have h6:j=i∧kk=0:=by omega
    obtain ⟨rfl,rfl⟩:=h6
    rw [hx] at hy;cases hy
    simp only [if_true] at hz
    omega
  ·intro h3 h4
   by_cases h5:j < i∨j=i∧2≤kk
   ·exact this.2 h5 h4
   ·have h6:j=i∧kk=1:=by omega
    obtain ⟨rfl,rfl⟩:=h6
    rw [hx] at hy;cases hy
    simp only [Nat.one_ne_zero,if_false] at hz
    omega
theorem ak7 {hs:List (Int×Int)} {top b:Int} (h:tQ hs top hs.length 0 b) {v:Int} (hv:wR hs v) (h2:v < top):v≤b:=by
 obtain ⟨i,x,hx,hh⟩:=hv
 have hl:=(List.getElem?_eq_some_iff.1 hx).1
 have:=h.2 i x hx
 rcases hh with rfl | rfl
 ·exact this.1 (by omega) h2
 ·exact this.2 (by omega) h2
structure wS (hs:List (Int×Int)) (top:Int) (T:List Int):Prop where
 pw:T.Pairwise (· > ·)
 mem:∀ v,v∈T↔0 < v∧top≤v∧wR hs v
theorem aqK {hs:List (Int×Int)} {top:Int} (h:∀ v,wR hs v→v < top):wS hs top []:=⟨.nil,fun v=>⟨fun h=>(by cases h),fun ⟨h1,h2,h3⟩=>by have:=h v h3;omega⟩⟩
theorem aqL {hs:List (Int×Int)} {top b:Int} {T:List Int} (h:wS hs top T) (hb:tQ hs top hs.length 0 b) (hb0:¬ b=0):wS hs b (T++[b])∧b < top∧0 < b:=by
 rcases hb.1 with h0 | ⟨h0,h1,h2⟩
 ·omega
 refine ⟨⟨?_,fun v => ?_⟩,h1,h0⟩
 ·rw [List.pairwise_append]
  refine ⟨h.pw,List.pairwise_singleton _ _,fun a ha c hc => ?_⟩
  have:=(h.mem a).1 ha
  rw [List.mem_singleton] at hc
  omega
 ·rw [List.mem_append,List.mem_singleton,h.mem]
  constructor
  ·rintro (h3 | rfl)
   ·exact ⟨h3.1,by omega,h3.2.2⟩
   ·exact ⟨h0,by omega,h2⟩
  ·rintro ⟨h3,h4,h5⟩
   by_cases h6:top≤v
   ·exact .inl ⟨h3,h6,h5⟩
   ·have:=ak7 hb h5 (by omega)
    exact .inr (by omega)
theorem aqM {hs:List (Int×Int)} {top:Int} {T:List Int} (h:wS hs top T) (hb:tQ hs top hs.length 0 0):wS hs 1 T:=⟨h.pw,fun v=>by
 rw [h.mem]
 constructor
 ·rintro ⟨h1,h2,h3⟩;exact ⟨h1,by omega,h3⟩
 ·rintro ⟨h1,h2,h3⟩
  refine ⟨h1, ?_,h3⟩
  by_cases h4:top≤v
  ·exact h4
  ·have:=ak7 hb h3 (by omega);omega⟩
theorem af1 {hs:List (Int×Int)} {top:Int}:∀ {T T':List Int},T.Pairwise (· > ·)→T'.Pairwise (· > ·)→(∀ v,v∈T↔v∈T')→T=T'
 | [],[],_,_,_=>rfl
 | [],b::T',_,_,h=>by have:=(h b).2 (by simp);cases this
 | a::T,[],_,_,h=>by have:=(h a).1 (by simp);cases this
 | a::T,b::T',h1,h2,h=>by
  rw [List.pairwise_cons] at h1 h2
  have hab:a=b:=by
   have ha:=(h a).1 (by simp)
   have hb:=(h b).2 (by simp)
   rw [List.mem_cons] at ha hb
   rcases ha with ha | ha
   ·exact ha
   ·rcases hb with hb | hb
    ·exact hb.symm
    ·have:=h1.1 b hb
     have:=h2.1 a ha
     omega
  subst hab
  rw [af1 (hs:=hs) (top:=top) h1.2 h2.2 fun v => ?_]
  have:=h v
  rw [List.mem_cons,List.mem_cons] at this
  constructor
  ·intro hv
   rcases this.1 (.inr hv) with h3 | h3
   ·have:=h1.1 v hv;omega
   ·exact h3
  ·intro hv
   rcases this.2 (.inr hv) with h3 | h3
   ·have:=h2.1 v hv;omega
   ·exact h3
def rH (v:Int):List Int→List Int
 | []=>[v]
 | a::l=>if a < v then v::a::l else if v < a then a::rH v l else a::l
theorem af2 (v:Int):∀ (l:List Int) (x:Int),x∈rH v l↔x=v∨x∈l
 | [],x=>by simp [rH]
 | a::l,x=>by
  unfold rH
  split
  ·simp
  ·split
   ·simp only [List.mem_cons,af2 v l x]
    constructor
    ·rintro (h | h | h) <;> simp [h]
    ·rintro (h | h | h) <;> simp [h]
   ·rename_i h1 h2
    have:v=a:=by omega
    subst this
    simp
theorem ak8 (v:Int):∀ (l:List Int),l.Pairwise (· > ·)→(rH v l).Pairwise (· > ·)
 | [],_=>List.pairwise_singleton _ _
 | a::l,h=>by
  unfold rH
  split
  ·rename_i h1
   rw [List.pairwise_cons]
   refine ⟨fun x hx => ?_,h⟩
   rw [List.mem_cons] at hx
   rcases hx with rfl | hx
   ·exact h1
   ·have:=(List.pairwise_cons.1 h).1 x hx;omega
  ·split
   ·rename_i h1 h2
    rw [List.pairwise_cons] at h ⊢
    refine ⟨fun x hx => ?_,ak8 v l h.2⟩
    rw [af2] at hx
    rcases hx with rfl | hx
    ·exact h2
    ·exact h.1 x hx
   ·exact h
def gG (hs:List (Int×Int)):List Int:=hs.foldr (fun x l=>(if 0 < x.1 then rH x.1 else id) ((if 0 < x.2 then rH x.2 else id) l)) []
theorem yP:∀ (hs:List (Int×Int)),wS hs 1 (gG hs)
 | []=>⟨.nil,fun v=>⟨fun h=>(by cases h),fun ⟨_,_,i,x,h,_⟩=>by simp at h⟩⟩
 | x::hs=>by
  have ih:=yP hs
  have e:gG (x::hs)=(if 0 < x.1 then rH x.1 else id) ((if 0 < x.2 then rH x.2 else id) (gG hs)):=rfl
  have hin:∀ v,wR (x::hs) v↔(x.1=v∨x.2=v)∨wR hs v:=by
   intro v
   constructor
   ·rintro ⟨i,y,h,h2⟩
    cases i with
    | zero=>simp at h;subst h;exact .inl h2
    | succ i=>exact .inr ⟨i,y,by simpa using h,h2⟩
   ·rintro (h | ⟨i,y,h,h2⟩)
    ·exact ⟨0,x,rfl,h⟩
    ·exact ⟨i+1,y,by simpa using h,h2⟩
  have one:∀ (z:Int) (l:List Int),l.Pairwise (· > ·)→(((if 0 < z then rH z else id) l).Pairwise (· > ·))∧∀ v,v∈(if 0 < z then rH z else id) l↔(0 < z∧v=z)∨v∈l:=by
   intro z l hl
   split
   ·rename_i hz;exact ⟨ak8 z l hl,fun v=>by rw [af2];simp [hz]⟩
   ·rename_i hz;exact ⟨hl,fun v=>by simp [hz]⟩
  rw [e]
  obtain ⟨p1,m1⟩:=one x.2 _ ih.pw
  obtain ⟨p2,m2⟩:=one x.1 _ p1
  refine ⟨p2,fun v => ?_⟩
  rw [m2,m1,ih.mem,hin]
  constructor
  ·rintro (⟨h1,rfl⟩ | ⟨h1,rfl⟩ | h1)
   ·exact ⟨h1,by omega,.inl (.inl rfl)⟩
   ·exact ⟨h1,by omega,.inl (.inr rfl)⟩
   ·exact ⟨h1.1,h1.2.1,.inr h1.2.2⟩
  ·rintro ⟨h1,h2,(h3 | h3) | h3⟩
   ·exact .inl ⟨by omega,h3.symm⟩
   ·exact .inr (.inl ⟨by omega,h3.symm⟩)
   ·exact .inr (.inr ⟨h1,h2,h3⟩)
theorem ak9 {hs:List (Int×Int)} {T:List Int} (h:wS hs 1 T):T=gG hs:=af1 (hs:=hs) (top:=1) h.pw (yP hs).pw fun v=>by rw [h.mem,(yP hs).mem]
def aaH (hs:List (Int×Int)) (v:Int):AV:=bE (iC hs v hs.length).length (cJ (iC hs v hs.length))
def iT (hs:List (Int×Int)) (T:List Int):List AV:=T.flatMap fun v=>[aE v,aaH hs v]
theorem aqN (hs:List (Int×Int)) (T T':List Int):iT hs (T++T')=iT hs T++iT hs T':=by simp [iT]
theorem af3 (hs:List (Int×Int)):∀ (T:List Int) (i:Nat) (v:Int),T[i]? = some v→(iT hs T)[i*2]? = some (aE v)∧(iT hs T)[i*2+1]? = some (aaH hs v)
 | [],i,v,h=>by simp at h
 | a::T,0,v,h=>by
  simp at h;subst h
  exact ⟨rfl,rfl⟩
 | a::T,i+1,v,h=>by
  have ih:=af3 hs T i v (by simpa using h)
  have e:iT hs (a::T)=aE a::aaH hs a::iT hs T:=rfl
  rw [e,show (i+1)*2=i*2+1+1 by omega]
  simpa using ih
theorem aqO {k r c w:Int} {l:List Int} (h:iQ k r c w l=0):∀ n∈l,1≤n∧n≤1073741824:=by
 unfold iQ at h
 split at h
 ·split at h
  ·split at h
   ·omega
   ·rename_i ha
    intro n hn
    have h2:gV n=true:=by
     cases hq:gV n with
     | true=>rfl
     | false=>exact absurd (List.any_eq_true.2 ⟨n,hn,by simp [hq]⟩) ha
    simpa [gV] using h2
  ·omega
 ·omega
theorem ala (k r c w:Int) (bs:List UInt8) (ix:Int):kY k r c w bs ix=0∨(1≤kY k r c w bs ix∧kY k r c w bs ix≤1073741824):=by
 unfold kY
 split
 ·rename_i h
  right
  unfold ab3 gQ eN sN d5 at h
  simp only [Bool.and_eq_true,decide_eq_true_eq] at h
  obtain ⟨⟨⟨_,_,_,h1,h2,h3,h4,h5,h6⟩,_⟩,_⟩:=h
  exact aqO h1 _ (List.mem_of_getElem? h5)
 ·exact .inl rfl
theorem adK {k r c w:Int} {ps:List bN} {i:Nat} {p:bN} (h:ps[i]? = some p):(fR k r c w ps)[i]? = some (kY k r c w p.1 i,kY k r c w p.2 i):=by
 unfold fR
 rw [List.getElem?_mapIdx,h]
 rfl
theorem adL (k r c w:Int) (ps:List bN):(fR k r c w ps).length=ps.length:=by simp [fR]
theorem af4 {k r c w:Int} {ps:List bN}:∀ v,wR (fR k r c w ps) v→v < 1073741825:=by
 rintro v ⟨i,x,hx,hh⟩
 have hl:=(List.getElem?_eq_some_iff.1 hx).1
 rw [adL] at hl
 have:=adK (k:=k) (r:=r) (c:=c) (w:=w) (List.getElem?_eq_getElem hl)
 rw [this] at hx
 cases hx
 have h1:=ala k r c w (ps[i].1) i
 have h2:=ala k r c w (ps[i].2) i
 simp only at hh
 rcases hh with rfl | rfl <;> omega
theorem aqP {k r c w:Int} {ps:List bN} {i:Nat} {p:bN} (h:ps[i]? = some p) (v:Int):pH (fR k r c w ps) i v=(decide (kY k r c w p.1 i=v) || decide (kY k r c w p.2 i=v)):=by
 unfold pH
 rw [adK h]
end Go.Proofs.YtaekhhlgnbhnpaaGreat