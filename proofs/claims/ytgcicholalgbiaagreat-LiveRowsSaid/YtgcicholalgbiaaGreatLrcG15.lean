import Derived.Test.YtgcicholalgbiaaGreatLrcG08
import Derived.Test.YtgcicholalgbiaaGreatProg
import Derived.KernelRfl
import Derived.Test.YtgcicholalgbiaaGreatLrcG10
import Derived.Test.YtgcicholalgbiaaGreatLrcG11
set_option maxRecDepth 4000
open Go Go.Tw
namespace Go.Proofs.YtgcicholalgbiaaGreat
open Go.Proofs
theorem follows:Tryz.prog.follows .mixedOrders=true:=by kernel_rfl
abbrev TF (t:TypeId) (a b:Option Nat) (c:Option Bool) (d:Option TypeId) (e f:Option (Nat×TypeId)) (g h i j:Bool) (k:Option IntKind):Prop:=szE Tryz.prog t=a∧byE Tryz.prog t=b∧aggE Tryz.prog t=c∧elE Tryz.prog t=d∧arrE Tryz.prog t=e∧parE Tryz.prog t=f∧isStr Tryz.prog t=g∧isU8 Tryz.prog t=h∧notInt Tryz.prog t=i∧structE Tryz.prog t=j∧kindE Tryz.prog t=k
abbrev TZ (t:TypeId) (z:List Value) (k:Kind):Prop:=zeroE Tryz.prog t=some z∧kindT Tryz.prog t=k
theorem ty1:TF 1 (some 1) (some 8) (some false) none none none false false true false none∧TZ 1 [.nilFunc] .var:=by and_intros <;> kernel_rfl
theorem ty3:TF 3 (some 1) (some 8) (some false) none none none false false false false (some .i64)∧TZ 3 [.int .i64 0] .flat:=by and_intros <;> kernel_rfl
theorem ty4:TF 4 (some 1) (some 1) (some false) none none none false false true false none∧TZ 4 [.bool false] .flat:=by and_intros <;> kernel_rfl
theorem ty5:TF 5 (some 1) (some 1) (some false) none none none false true false false (some .u8)∧TZ 5 [.int .u8 0] .flat:=by and_intros <;> kernel_rfl
theorem ty9:TF 9 (some 1) (some 16) (some false) none none none true false true false none∧TZ 9 [.string .empty] .flat:=by and_intros <;> kernel_rfl
theorem ty20:TF 20 (some 1) (some 16) (some false) none none none false false true false none∧TZ 20 [.nilIface] .var:=by and_intros <;> kernel_rfl
theorem ty23:TF 23 (some 4) (some 32) (some true) none none none false false true true none∧fldE Tryz.prog 23 0=some (0,3)∧fldE Tryz.prog 23 1=some (1,3)∧fldE Tryz.prog 23 2=some (2,3)∧fldE Tryz.prog 23 3=some (3,3)∧TZ 23 [.int .i64 0,.int .i64 0,.int .i64 0,.int .i64 0] .flat:=by and_intros <;> kernel_rfl
theorem ty24:TF 24 (some 1) (some 24) (some false) (some 54) none none false false true false none∧TZ 24 [.slice none 0 0] .var:=by and_intros <;> kernel_rfl
theorem ty26:TF 26 (some 5) (some 56) (some true) none none none false false true true none∧fldE Tryz.prog 26 0=some (0,23)∧fldE Tryz.prog 26 1=some (4,24)∧TZ 26 [.int .i64 0,.int .i64 0,.int .i64 0,.int .i64 0,.slice none 0 0] .var:=by and_intros <;> kernel_rfl
theorem ty29:TF 29 (some 1) (some 24) (some false) (some 45) none none false false true false none∧TZ 29 [.slice none 0 0] .var:=by and_intros <;> kernel_rfl
theorem ty30:TF 30 (some 1) (some 8) (some false) none none none false false false false (some .i64)∧TZ 30 [.int .i64 0] .flat:=by and_intros <;> kernel_rfl
theorem ty31:TF 31 (some 1) (some 0) (some false) none none none false false true false none:=by and_intros <;> kernel_rfl
theorem ty33:TF 33 (some 1) (some 24) (some false) (some 3) none none false false true false none∧TZ 33 [.slice none 0 0] .var:=by and_intros <;> kernel_rfl
theorem ty34:TF 34 (some 1) (some 0) (some false) none none none false false true false none:=by and_intros <;> kernel_rfl
theorem ty36:TF 36 (some 1) (some 0) (some false) none none none false false true false none:=by and_intros <;> kernel_rfl
theorem ty38:TF 38 (some 1) (some 24) (some false) (some 42) none none false false true false none∧TZ 38 [.slice none 0 0] .var:=by and_intros <;> kernel_rfl
theorem ty39:TF 39 (some 1) (some 0) (some false) none none none false false true false none:=by and_intros <;> kernel_rfl
theorem ty42:TF 42 (some 2) (some 24) (some true) none none none false false true true none∧fldE Tryz.prog 42 0=some (0,9)∧fldE Tryz.prog 42 1=some (1,3)∧TZ 42 [.string .empty,.int .i64 0] .flat:=by and_intros <;> kernel_rfl
theorem ty45:TF 45 (some 3) (some 24) (some true) none none none false false true true none∧fldE Tryz.prog 45 0=some (0,3)∧fldE Tryz.prog 45 1=some (1,5)∧fldE Tryz.prog 45 2=some (2,3)∧TZ 45 [.int .i64 0,.int .u8 0,.int .i64 0] .flat:=by and_intros <;> kernel_rfl
theorem ty54:TF 54 (some 1) (some 24) (some false) (some 5) none none false false true false none∧TZ 54 [.slice none 0 0] .var:=by and_intros <;> kernel_rfl
theorem ty61:TF 61 (some 1) (some 24) (some false) (some 107) none none false false true false none∧TZ 61 [.slice none 0 0] .var:=by and_intros <;> kernel_rfl
theorem ty62:TF 62 (some 1) (some 0) (some false) none none none false false true false none:=by and_intros <;> kernel_rfl
theorem ty64:TF 64 (some 1) (some 0) (some false) none none none false false true false none:=by and_intros <;> kernel_rfl
theorem ty69:TF 69 (some 1) (some 8) (some false) none none none false false true false none∧TZ 69 [.nilFunc] .var:=by and_intros <;> kernel_rfl
theorem ty71:TF 71 (some 1) (some 8) (some false) none none none false false true false none∧TZ 71 [.nilFunc] .var:=by and_intros <;> kernel_rfl
theorem ty76:TF 76 (some 6) (some 80) (some true) none none none false false true true none∧fldE Tryz.prog 76 0=some (0,5)∧fldE Tryz.prog 76 1=some (1,3)∧fldE Tryz.prog 76 2=some (2,3)∧fldE Tryz.prog 76 3=some (3,3)∧fldE Tryz.prog 76 4=some (4,33)∧fldE Tryz.prog 76 5=some (5,54)∧TZ 76 [.int .u8 0,.int .i64 0,.int .i64 0,.int .i64 0,.slice none 0 0,.slice none 0 0] .var:=by and_intros <;> kernel_rfl
theorem ty77:TF 77 (some 1) (some 0) (some false) none none none false false true false none:=by and_intros <;> kernel_rfl
theorem ty79:TF 79 (some 1) (some 0) (some false) none none none false false true false none:=by and_intros <;> kernel_rfl
theorem ty83:TF 83 (some 1) (some 24) (some false) (some 90) none none false false true false none∧TZ 83 [.slice none 0 0] .var:=by and_intros <;> kernel_rfl
theorem ty85:TF 85 (some 3) (some 40) (some true) none none none false false true true none∧fldE Tryz.prog 85 0=some (0,3)∧fldE Tryz.prog 85 1=some (1,3)∧fldE Tryz.prog 85 2=some (2,83)∧TZ 85 [.int .i64 0,.int .i64 0,.slice none 0 0] .var:=by and_intros <;> kernel_rfl
theorem ty86:TF 86 (some 1) (some 0) (some false) none none none false false true false none:=by and_intros <;> kernel_rfl
theorem ty90:TF 90 (some 2) (some 16) (some true) none none none false false true true none∧fldE Tryz.prog 90 0=some (0,3)∧fldE Tryz.prog 90 1=some (1,3)∧TZ 90 [.int .i64 0,.int .i64 0] .flat:=by and_intros <;> kernel_rfl
theorem ty107:TF 107 (some 2) (some 48) (some true) none (some (2,54)) none false false true false none∧TZ 107 [.slice none 0 0,.slice none 0 0] .var:=by and_intros <;> kernel_rfl
theorem ty109:TF 109 (some 1) (some 24) (some false) (some 113) none none false false true false none∧TZ 109 [.slice none 0 0] .var:=by and_intros <;> kernel_rfl
theorem ty110:TF 110 (some 1) (some 0) (some false) none none none false false true false none:=by and_intros <;> kernel_rfl
theorem ty113:TF 113 (some 2) (some 16) (some true) none (some (2,3)) none false false true false none∧TZ 113 [.int .i64 0,.int .i64 0] .flat:=by and_intros <;> kernel_rfl
theorem ty114:TF 114 (some 1) (some 8) (some false) none none none false false true false none∧TZ 114 [.nilFunc] .var:=by and_intros <;> kernel_rfl
theorem ty117:TF 117 (some 1) (some 8) (some false) none none none false false false false (some .u64)∧TZ 117 [.int .u64 0] .flat:=by and_intros <;> kernel_rfl
theorem ty119:TF 119 (some 1) (some 0) (some false) none none none false false true false none:=by and_intros <;> kernel_rfl
theorem ty125:TF 125 (some 1) (some 8) (some false) none none none false false true false none∧TZ 125 [.nilFunc] .var:=by and_intros <;> kernel_rfl
theorem ty128:TF 128 (some 1) (some 0) (some false) none none none false false true false none:=by and_intros <;> kernel_rfl
theorem ty132:TF 132 (some 1) (some 0) (some false) none none none false false true false none:=by and_intros <;> kernel_rfl
theorem ty134:TF 134 (some 1) (some 24) (some false) (some 83) none none false false true false none∧TZ 134 [.slice none 0 0] .var:=by and_intros <;> kernel_rfl
theorem ty139:TF 139 (some 1) (some 8) (some false) none none none false false true false none∧TZ 139 [.nilFunc] .var:=by and_intros <;> kernel_rfl
theorem ty142:TF 142 (some 1) (some 24) (some false) (some 146) none none false false true false none∧TZ 142 [.slice none 0 0] .var:=by and_intros <;> kernel_rfl
theorem ty143:TF 143 (some 1) (some 0) (some false) none none none false false true false none:=by and_intros <;> kernel_rfl
theorem ty146:TF 146 (some 2) (some 32) (some true) none none none false false true true none∧fldE Tryz.prog 146 0=some (0,3)∧fldE Tryz.prog 146 1=some (1,33)∧TZ 146 [.int .i64 0,.slice none 0 0] .var:=by and_intros <;> kernel_rfl
theorem ty148:TF 148 (some 1) (some 8) (some false) none none none false false true false none∧TZ 148 [.nilFunc] .var:=by and_intros <;> kernel_rfl
theorem ty171:TF 171 (some 5) (some 56) (some true) none none none false false true true none∧fldE Tryz.prog 171 0=some (0,23)∧fldE Tryz.prog 171 1=some (4,61)∧TZ 171 [.int .i64 0,.int .i64 0,.int .i64 0,.int .i64 0,.slice none 0 0] .var:=by and_intros <;> kernel_rfl
theorem ty173:TF 173 (some 1) (some 8) (some false) none none none false false true false none∧TZ 173 [.nilFunc] .var:=by and_intros <;> kernel_rfl
theorem ty175:TF 175 (some 1) (some 0) (some false) none none none false false true false none:=by and_intros <;> kernel_rfl
theorem ty177:TF 177 (some 1) (some 0) (some false) none none none false false true false none:=by and_intros <;> kernel_rfl
theorem ty183:TF 183 (some 1) (some 0) (some false) none none none false false true false none:=by and_intros <;> kernel_rfl
theorem ty192:TF 192 (some 1) (some 0) (some false) none none none false false true false none:=by and_intros <;> kernel_rfl
theorem ty194:TF 194 (some 1) (some 8) (some false) none none none false false true false none∧TZ 194 [.map none] .var:=by and_intros <;> kernel_rfl
theorem ty216:TF 216 (some 7) (some 88) (some true) none none none false false true true none∧fldE Tryz.prog 216 0=some (0,76)∧fldE Tryz.prog 216 1=some (6,4)∧TZ 216 [.int .u8 0,.int .i64 0,.int .i64 0,.int .i64 0,.slice none 0 0,.slice none 0 0,.bool false] .var:=by and_intros <;> kernel_rfl
theorem ty218:TF 218 (some 14) (some 176) (some true) none (some (2,216)) none false false true false none∧TZ 218 [.int .u8 0,.int .i64 0,.int .i64 0,.int .i64 0,.slice none 0 0,.slice none 0 0,.bool false,.int .u8 0,.int .i64 0,.int .i64 0,.int .i64 0,.slice none 0 0,.slice none 0 0,.bool false] .var:=by and_intros <;> kernel_rfl
theorem ty219:TF 219 (some 1) (some 0) (some false) none none none false false true false none:=by and_intros <;> kernel_rfl
theorem ty232:TF 232 (some 1) (some 8) (some false) none none none false false true false none∧TZ 232 [.map none] .var:=by and_intros <;> kernel_rfl
theorem ty234:TF 234 (some 1) (some 0) (some false) none none none false false true false none:=by and_intros <;> kernel_rfl
theorem ty237:TF 237 (some 3) (some 24) (some true) none none none false false true true none∧fldE Tryz.prog 237 0=some (0,3)∧fldE Tryz.prog 237 1=some (1,3)∧fldE Tryz.prog 237 2=some (2,3)∧TZ 237 [.int .i64 0,.int .i64 0,.int .i64 0] .flat:=by and_intros <;> kernel_rfl
theorem ty257:TF 257 (some 1) (some 8) (some false) none none none false false true false none∧TZ 257 [.nilFunc] .var:=by and_intros <;> kernel_rfl
theorem ty258:TF 258 (some 1) (some 0) (some false) none none none false false true false none:=by and_intros <;> kernel_rfl
theorem ty262:TF 262 (some 256) (some 256) (some true) none (some (256,5)) none false false true false none:=by and_intros <;> kernel_rfl
theorem ty266:TF 266 (some 1) (some 0) (some false) none none none false false true false none:=by and_intros <;> kernel_rfl
theorem tys3:(type_of% ty3)∧(type_of% ty4)∧(type_of% ty5)∧(type_of% ty9)∧(type_of% ty23)∧(type_of% ty24)∧(type_of% ty26)∧(type_of% ty29)∧(type_of% ty30)∧(type_of% ty31)∧(type_of% ty33)∧(type_of% ty34)∧(type_of% ty36)∧(type_of% ty38)∧(type_of% ty39)∧(type_of% ty42)∧(type_of% ty45)∧(type_of% ty54):=⟨ty3,ty4,ty5,ty9,ty23,ty24,ty26,ty29,ty30,ty31,ty33,ty34,ty36,ty38,ty39,ty42,ty45,ty54⟩
theorem tys7:(type_of% ty3)∧(type_of% ty4)∧(type_of% ty5)∧(type_of% ty23)∧(type_of% ty24)∧(type_of% ty26)∧(type_of% ty30)∧(type_of% ty36)∧(type_of% ty54):=⟨ty3,ty4,ty5,ty23,ty24,ty26,ty30,ty36,ty54⟩
theorem tys8:(type_of% ty3)∧(type_of% ty4)∧(type_of% ty5)∧(type_of% ty23)∧(type_of% ty24)∧(type_of% ty26)∧(type_of% ty54):=⟨ty3,ty4,ty5,ty23,ty24,ty26,ty54⟩
theorem tys9:(type_of% ty3)∧(type_of% ty4)∧(type_of% ty5)∧(type_of% ty23)∧(type_of% ty24)∧(type_of% ty26)∧(type_of% ty29)∧(type_of% ty30)∧(type_of% ty45)∧(type_of% ty54)∧(type_of% ty71):=⟨ty3,ty4,ty5,ty23,ty24,ty26,ty29,ty30,ty45,ty54,ty71⟩
theorem tys10:(type_of% ty3)∧(type_of% ty4)∧(type_of% ty5)∧(type_of% ty23)∧(type_of% ty24)∧(type_of% ty26)∧(type_of% ty29)∧(type_of% ty30)∧(type_of% ty31)∧(type_of% ty33)∧(type_of% ty45)∧(type_of% ty54):=⟨ty3,ty4,ty5,ty23,ty24,ty26,ty29,ty30,ty31,ty33,ty45,ty54⟩
theorem tys11:(type_of% ty3)∧(type_of% ty4)∧(type_of% ty5)∧(type_of% ty23)∧(type_of% ty24)∧(type_of% ty26)∧(type_of% ty30)∧(type_of% ty33)∧(type_of% ty54)∧(type_of% ty71):=⟨ty3,ty4,ty5,ty23,ty24,ty26,ty30,ty33,ty54,ty71⟩
theorem tys12:(type_of% ty3)∧(type_of% ty4)∧(type_of% ty5)∧(type_of% ty23)∧(type_of% ty24)∧(type_of% ty26)∧(type_of% ty30)∧(type_of% ty33)∧(type_of% ty54)∧(type_of% ty76)∧(type_of% ty77):=⟨ty3,ty4,ty5,ty23,ty24,ty26,ty30,ty33,ty54,ty76,ty77⟩
theorem tys13:(type_of% ty3)∧(type_of% ty4)∧(type_of% ty5)∧(type_of% ty23)∧(type_of% ty24)∧(type_of% ty26)∧(type_of% ty30)∧(type_of% ty33)∧(type_of% ty34)∧(type_of% ty54)∧(type_of% ty79):=⟨ty3,ty4,ty5,ty23,ty24,ty26,ty30,ty33,ty34,ty54,ty79⟩
theorem tys14:(type_of% ty3)∧(type_of% ty4)∧(type_of% ty5)∧(type_of% ty9)∧(type_of% ty23)∧(type_of% ty24)∧(type_of% ty26)∧(type_of% ty30)∧(type_of% ty33)∧(type_of% ty34)∧(type_of% ty38)∧(type_of% ty39)∧(type_of% ty42)∧(type_of% ty54)∧(type_of% ty79):=⟨ty3,ty4,ty5,ty9,ty23,ty24,ty26,ty30,ty33,ty34,ty38,ty39,ty42,ty54,ty79⟩
theorem tys15:(type_of% ty3)∧(type_of% ty4)∧(type_of% ty5)∧(type_of% ty23)∧(type_of% ty24)∧(type_of% ty26)∧(type_of% ty29)∧(type_of% ty30)∧(type_of% ty45)∧(type_of% ty54)∧(type_of% ty83)∧(type_of% ty85)∧(type_of% ty86)∧(type_of% ty90)∧(type_of% ty134):=⟨ty3,ty4,ty5,ty23,ty24,ty26,ty29,ty30,ty45,ty54,ty83,ty85,ty86,ty90,ty134⟩
theorem tys16:(type_of% ty3)∧(type_of% ty4)∧(type_of% ty33):=⟨ty3,ty4,ty33⟩
theorem tys31:(type_of% ty3)∧(type_of% ty4)∧(type_of% ty5)∧(type_of% ty23)∧(type_of% ty24)∧(type_of% ty26)∧(type_of% ty30)∧(type_of% ty54)∧(type_of% ty61)∧(type_of% ty107):=⟨ty3,ty4,ty5,ty23,ty24,ty26,ty30,ty54,ty61,ty107⟩
theorem tys32:(type_of% ty3)∧(type_of% ty4)∧(type_of% ty5)∧(type_of% ty23)∧(type_of% ty30)∧(type_of% ty33)∧(type_of% ty34)∧(type_of% ty54)∧(type_of% ty61)∧(type_of% ty107):=⟨ty3,ty4,ty5,ty23,ty30,ty33,ty34,ty54,ty61,ty107⟩
theorem tys36:(type_of% ty3)∧(type_of% ty4)∧(type_of% ty23):=⟨ty3,ty4,ty23⟩
theorem tys37:(type_of% ty3)∧(type_of% ty23):=⟨ty3,ty23⟩
theorem tys38:(type_of% ty3)∧(type_of% ty4)∧(type_of% ty5)∧(type_of% ty9)∧(type_of% ty23)∧(type_of% ty24)∧(type_of% ty26)∧(type_of% ty30)∧(type_of% ty33)∧(type_of% ty34)∧(type_of% ty38)∧(type_of% ty39)∧(type_of% ty42)∧(type_of% ty54)∧(type_of% ty71)∧(type_of% ty114):=⟨ty3,ty4,ty5,ty9,ty23,ty24,ty26,ty30,ty33,ty34,ty38,ty39,ty42,ty54,ty71,ty114⟩
theorem tys39:(type_of% ty3)∧(type_of% ty5)∧(type_of% ty23)∧(type_of% ty24)∧(type_of% ty26)∧(type_of% ty29)∧(type_of% ty30)∧(type_of% ty31)∧(type_of% ty45)∧(type_of% ty54):=⟨ty3,ty5,ty23,ty24,ty26,ty29,ty30,ty31,ty45,ty54⟩
theorem tys42:(type_of% ty3)∧(type_of% ty30)∧(type_of% ty33):=⟨ty3,ty30,ty33⟩
theorem tys43:(type_of% ty3)∧(type_of% ty4)∧(type_of% ty5)∧(type_of% ty23)∧(type_of% ty24)∧(type_of% ty26)∧(type_of% ty30)∧(type_of% ty36)∧(type_of% ty54):=⟨ty3,ty4,ty5,ty23,ty24,ty26,ty30,ty36,ty54⟩
theorem tys44:(type_of% ty3)∧(type_of% ty4)∧(type_of% ty5)∧(type_of% ty23)∧(type_of% ty30)∧(type_of% ty33)∧(type_of% ty36)∧(type_of% ty54)∧(type_of% ty76)∧(type_of% ty119):=⟨ty3,ty4,ty5,ty23,ty30,ty33,ty36,ty54,ty76,ty119⟩
theorem tys45:(type_of% ty3)∧(type_of% ty4)∧(type_of% ty5)∧(type_of% ty23)∧(type_of% ty24)∧(type_of% ty26)∧(type_of% ty30)∧(type_of% ty54)∧(type_of% ty79)∧(type_of% ty83)∧(type_of% ty85)∧(type_of% ty86)∧(type_of% ty90):=⟨ty3,ty4,ty5,ty23,ty24,ty26,ty30,ty54,ty79,ty83,ty85,ty86,ty90⟩
theorem tys46:(type_of% ty3)∧(type_of% ty4)∧(type_of% ty5)∧(type_of% ty23)∧(type_of% ty30)∧(type_of% ty33)∧(type_of% ty54)∧(type_of% ty117)∧(type_of% ty125):=⟨ty3,ty4,ty5,ty23,ty30,ty33,ty54,ty117,ty125⟩
theorem tys47:(type_of% ty3)∧(type_of% ty4)∧(type_of% ty5)∧(type_of% ty9)∧(type_of% ty23)∧(type_of% ty30)∧(type_of% ty36)∧(type_of% ty38)∧(type_of% ty42)∧(type_of% ty54)∧(type_of% ty117):=⟨ty3,ty4,ty5,ty9,ty23,ty30,ty36,ty38,ty42,ty54,ty117⟩
theorem tys48:(type_of% ty1)∧(type_of% ty3)∧(type_of% ty4)∧(type_of% ty5)∧(type_of% ty23)∧(type_of% ty24)∧(type_of% ty26)∧(type_of% ty30)∧(type_of% ty36)∧(type_of% ty54)∧(type_of% ty61)∧(type_of% ty62)∧(type_of% ty83)∧(type_of% ty85)∧(type_of% ty90)∧(type_of% ty107)∧(type_of% ty128)∧(type_of% ty132):=⟨ty1,ty3,ty4,ty5,ty23,ty24,ty26,ty30,ty36,ty54,ty61,ty62,ty83,ty85,ty90,ty107,ty128,ty132⟩
theorem tys49:(type_of% ty3)∧(type_of% ty4)∧(type_of% ty20)∧(type_of% ty83)∧(type_of% ty90)∧(type_of% ty134):=⟨ty3,ty4,ty20,ty83,ty90,ty134⟩
theorem tys61:(type_of% ty3)∧(type_of% ty4)∧(type_of% ty5)∧(type_of% ty54):=⟨ty3,ty4,ty5,ty54⟩
theorem tys62:(type_of% ty3)∧(type_of% ty4)∧(type_of% ty5)∧(type_of% ty23)∧(type_of% ty30)∧(type_of% ty33)∧(type_of% ty54)∧(type_of% ty61)∧(type_of% ty107)∧(type_of% ty142)∧(type_of% ty143)∧(type_of% ty146):=⟨ty3,ty4,ty5,ty23,ty30,ty33,ty54,ty61,ty107,ty142,ty143,ty146⟩
theorem tys63:(type_of% ty3)∧(type_of% ty4)∧(type_of% ty5)∧(type_of% ty23)∧(type_of% ty30)∧(type_of% ty33)∧(type_of% ty36)∧(type_of% ty54)∧(type_of% ty61)∧(type_of% ty76)∧(type_of% ty77)∧(type_of% ty107)∧(type_of% ty109)∧(type_of% ty113)∧(type_of% ty148):=⟨ty3,ty4,ty5,ty23,ty30,ty33,ty36,ty54,ty61,ty76,ty77,ty107,ty109,ty113,ty148⟩
theorem tys65:(type_of% ty3)∧(type_of% ty4)∧(type_of% ty30)∧(type_of% ty33)∧(type_of% ty71)∧(type_of% ty114):=⟨ty3,ty4,ty30,ty33,ty71,ty114⟩
theorem tys68:(type_of% ty3)∧(type_of% ty23)∧(type_of% ty30)∧(type_of% ty36):=⟨ty3,ty23,ty30,ty36⟩
theorem tys69:(type_of% ty3)∧(type_of% ty23):=⟨ty3,ty23⟩
theorem tys70:(type_of% ty3)∧(type_of% ty4)∧(type_of% ty23)∧(type_of% ty30)∧(type_of% ty36):=⟨ty3,ty4,ty23,ty30,ty36⟩
theorem tys71:(type_of% ty3)∧(type_of% ty5)∧(type_of% ty54)∧(type_of% ty117):=⟨ty3,ty5,ty54,ty117⟩
theorem tys72:(type_of% ty3)∧(type_of% ty4)∧(type_of% ty5)∧(type_of% ty23)∧(type_of% ty30)∧(type_of% ty33)∧(type_of% ty36)∧(type_of% ty54)∧(type_of% ty76):=⟨ty3,ty4,ty5,ty23,ty30,ty33,ty36,ty54,ty76⟩
theorem tys73:(type_of% ty3)∧(type_of% ty4)∧(type_of% ty5)∧(type_of% ty23)∧(type_of% ty24)∧(type_of% ty26)∧(type_of% ty30)∧(type_of% ty36)∧(type_of% ty54)∧(type_of% ty61)∧(type_of% ty62)∧(type_of% ty79)∧(type_of% ty83)∧(type_of% ty90)∧(type_of% ty107):=⟨ty3,ty4,ty5,ty23,ty24,ty26,ty30,ty36,ty54,ty61,ty62,ty79,ty83,ty90,ty107⟩
theorem tys74:(type_of% ty3)∧(type_of% ty4)∧(type_of% ty23)∧(type_of% ty30):=⟨ty3,ty4,ty23,ty30⟩
theorem tys76:(type_of% ty3)∧(type_of% ty23)∧(type_of% ty30)∧(type_of% ty36):=⟨ty3,ty23,ty30,ty36⟩
theorem tys77:(type_of% ty3)∧(type_of% ty4)∧(type_of% ty9)∧(type_of% ty23)∧(type_of% ty30)∧(type_of% ty36)∧(type_of% ty38)∧(type_of% ty42):=⟨ty3,ty4,ty9,ty23,ty30,ty36,ty38,ty42⟩
theorem tys78:(type_of% ty3)∧(type_of% ty4)∧(type_of% ty30)∧(type_of% ty83)∧(type_of% ty85)∧(type_of% ty90):=⟨ty3,ty4,ty30,ty83,ty85,ty90⟩
theorem tys79:(type_of% ty3)∧(type_of% ty4)∧(type_of% ty5)∧(type_of% ty23)∧(type_of% ty30)∧(type_of% ty36)∧(type_of% ty54)∧(type_of% ty61)∧(type_of% ty79)∧(type_of% ty83)∧(type_of% ty85)∧(type_of% ty90)∧(type_of% ty107)∧(type_of% ty171)∧(type_of% ty175):=⟨ty3,ty4,ty5,ty23,ty30,ty36,ty54,ty61,ty79,ty83,ty85,ty90,ty107,ty171,ty175⟩
theorem tys80:(type_of% ty3)∧(type_of% ty4)∧(type_of% ty83)∧(type_of% ty90):=⟨ty3,ty4,ty83,ty90⟩
theorem tys81:(type_of% ty3)∧(type_of% ty23)∧(type_of% ty30)∧(type_of% ty177):=⟨ty3,ty23,ty30,ty177⟩
theorem tys82:(type_of% ty3)∧(type_of% ty23)∧(type_of% ty30)∧(type_of% ty36):=⟨ty3,ty23,ty30,ty36⟩
theorem tys83:(type_of% ty3)∧(type_of% ty4)∧(type_of% ty5)∧(type_of% ty23)∧(type_of% ty24)∧(type_of% ty26)∧(type_of% ty30)∧(type_of% ty54)∧(type_of% ty61)∧(type_of% ty62)∧(type_of% ty79)∧(type_of% ty83)∧(type_of% ty90)∧(type_of% ty107)∧(type_of% ty132):=⟨ty3,ty4,ty5,ty23,ty24,ty26,ty30,ty54,ty61,ty62,ty79,ty83,ty90,ty107,ty132⟩
theorem tys84:(type_of% ty3)∧(type_of% ty4)∧(type_of% ty20)∧(type_of% ty83)∧(type_of% ty90):=⟨ty3,ty4,ty20,ty83,ty90⟩
theorem tys86:(type_of% ty3)∧(type_of% ty4)∧(type_of% ty5)∧(type_of% ty23)∧(type_of% ty30)∧(type_of% ty36)∧(type_of% ty54)∧(type_of% ty61)∧(type_of% ty107):=⟨ty3,ty4,ty5,ty23,ty30,ty36,ty54,ty61,ty107⟩
theorem tys87:(type_of% ty3)∧(type_of% ty4)∧(type_of% ty5)∧(type_of% ty23)∧(type_of% ty30)∧(type_of% ty33)∧(type_of% ty54)∧(type_of% ty61)∧(type_of% ty76)∧(type_of% ty107)∧(type_of% ty139)∧(type_of% ty192):=⟨ty3,ty4,ty5,ty23,ty30,ty33,ty54,ty61,ty76,ty107,ty139,ty192⟩
theorem tys91:(type_of% ty3)∧(type_of% ty4)∧(type_of% ty5)∧(type_of% ty23)∧(type_of% ty30)∧(type_of% ty33)∧(type_of% ty54)∧(type_of% ty61)∧(type_of% ty107)∧(type_of% ty109)∧(type_of% ty110)∧(type_of% ty113)∧(type_of% ty142)∧(type_of% ty146)∧(type_of% ty194):=⟨ty3,ty4,ty5,ty23,ty30,ty33,ty54,ty61,ty107,ty109,ty110,ty113,ty142,ty146,ty194⟩
theorem tys92:(type_of% ty3)∧(type_of% ty4)∧(type_of% ty33)∧(type_of% ty148):=⟨ty3,ty4,ty33,ty148⟩
theorem tys93:(type_of% ty3)∧(type_of% ty4)∧(type_of% ty5)∧(type_of% ty33)∧(type_of% ty54)∧(type_of% ty76):=⟨ty3,ty4,ty5,ty33,ty54,ty76⟩
theorem tys106:(type_of% ty3)∧(type_of% ty4)∧(type_of% ty23)∧(type_of% ty30)∧(type_of% ty69):=⟨ty3,ty4,ty23,ty30,ty69⟩
theorem tys107:(type_of% ty3)∧(type_of% ty23):=⟨ty3,ty23⟩
theorem tys108:(type_of% ty3)∧(type_of% ty4)∧(type_of% ty23)∧(type_of% ty30)∧(type_of% ty33):=⟨ty3,ty4,ty23,ty30,ty33⟩
theorem tys109:(type_of% ty3)∧(type_of% ty23)∧(type_of% ty30)∧(type_of% ty36):=⟨ty3,ty23,ty30,ty36⟩
theorem tys110:(type_of% ty3)∧(type_of% ty4)∧(type_of% ty5)∧(type_of% ty23)∧(type_of% ty24)∧(type_of% ty30)∧(type_of% ty54)∧(type_of% ty61)∧(type_of% ty107)∧(type_of% ty183):=⟨ty3,ty4,ty5,ty23,ty24,ty30,ty54,ty61,ty107,ty183⟩
theorem tys112:(type_of% ty3)∧(type_of% ty23):=⟨ty3,ty23⟩
theorem tys113:(type_of% ty3)∧(type_of% ty4)∧(type_of% ty9)∧(type_of% ty23)∧(type_of% ty30)∧(type_of% ty42):=⟨ty3,ty4,ty9,ty23,ty30,ty42⟩
theorem tys114:(type_of% ty4)∧(type_of% ty9):=⟨ty4,ty9⟩
theorem tys115:(type_of% ty3)∧(type_of% ty9)∧(type_of% ty38)∧(type_of% ty42):=⟨ty3,ty9,ty38,ty42⟩
theorem tys116:(type_of% ty3)∧(type_of% ty4)∧(type_of% ty5)∧(type_of% ty23)∧(type_of% ty30)∧(type_of% ty54)∧(type_of% ty61)∧(type_of% ty64)∧(type_of% ty107)∧(type_of% ty171)∧(type_of% ty173):=⟨ty3,ty4,ty5,ty23,ty30,ty54,ty61,ty64,ty107,ty171,ty173⟩
theorem tys117:(type_of% ty3)∧(type_of% ty4)∧(type_of% ty5)∧(type_of% ty23)∧(type_of% ty30)∧(type_of% ty54)∧(type_of% ty61)∧(type_of% ty64)∧(type_of% ty107)∧(type_of% ty171):=⟨ty3,ty4,ty5,ty23,ty30,ty54,ty61,ty64,ty107,ty171⟩
theorem tys118:(type_of% ty3)∧(type_of% ty4)∧(type_of% ty5)∧(type_of% ty23)∧(type_of% ty30)∧(type_of% ty54)∧(type_of% ty79)∧(type_of% ty83)∧(type_of% ty85)∧(type_of% ty90):=⟨ty3,ty4,ty5,ty23,ty30,ty54,ty79,ty83,ty85,ty90⟩
theorem tys119:(type_of% ty3)∧(type_of% ty4)∧(type_of% ty23)∧(type_of% ty30):=⟨ty3,ty4,ty23,ty30⟩
theorem tys120:(type_of% ty3)∧(type_of% ty23):=⟨ty3,ty23⟩
theorem tys121:(type_of% ty3)∧(type_of% ty4)∧(type_of% ty5)∧(type_of% ty23)∧(type_of% ty30)∧(type_of% ty36)∧(type_of% ty54)∧(type_of% ty79)∧(type_of% ty83)∧(type_of% ty90):=⟨ty3,ty4,ty5,ty23,ty30,ty36,ty54,ty79,ty83,ty90⟩
theorem tys123:(type_of% ty3)∧(type_of% ty4)∧(type_of% ty5)∧(type_of% ty23)∧(type_of% ty24)∧(type_of% ty30)∧(type_of% ty54)∧(type_of% ty61)∧(type_of% ty107)∧(type_of% ty139)∧(type_of% ty183):=⟨ty3,ty4,ty5,ty23,ty24,ty30,ty54,ty61,ty107,ty139,ty183⟩
theorem tys125:(type_of% ty3)∧(type_of% ty4)∧(type_of% ty5)∧(type_of% ty23)∧(type_of% ty30)∧(type_of% ty33)∧(type_of% ty54)∧(type_of% ty61)∧(type_of% ty76)∧(type_of% ty77)∧(type_of% ty107):=⟨ty3,ty4,ty5,ty23,ty30,ty33,ty54,ty61,ty76,ty77,ty107⟩
theorem tys127:(type_of% ty3)∧(type_of% ty4)∧(type_of% ty5)∧(type_of% ty23)∧(type_of% ty30)∧(type_of% ty36)∧(type_of% ty54)∧(type_of% ty61)∧(type_of% ty107):=⟨ty3,ty4,ty5,ty23,ty30,ty36,ty54,ty61,ty107⟩
theorem tys128:(type_of% ty3)∧(type_of% ty4)∧(type_of% ty5)∧(type_of% ty30):=⟨ty3,ty4,ty5,ty30⟩
theorem tys129:(type_of% ty3)∧(type_of% ty4)∧(type_of% ty5)∧(type_of% ty23)∧(type_of% ty30)∧(type_of% ty33)∧(type_of% ty54)∧(type_of% ty76)∧(type_of% ty107)∧(type_of% ty216)∧(type_of% ty218)∧(type_of% ty219):=⟨ty3,ty4,ty5,ty23,ty30,ty33,ty54,ty76,ty107,ty216,ty218,ty219⟩
theorem tys134:(type_of% ty3)∧(type_of% ty4)∧(type_of% ty33)∧(type_of% ty148):=⟨ty3,ty4,ty33,ty148⟩
theorem tys141:(type_of% ty3)∧(type_of% ty4)∧(type_of% ty23)∧(type_of% ty30)∧(type_of% ty33)∧(type_of% ty36):=⟨ty3,ty4,ty23,ty30,ty33,ty36⟩
theorem tys142:(type_of% ty3)∧(type_of% ty23):=⟨ty3,ty23⟩
theorem tys143:(type_of% ty3)∧(type_of% ty4)∧(type_of% ty5)∧(type_of% ty23)∧(type_of% ty24)∧(type_of% ty30)∧(type_of% ty54)∧(type_of% ty61)∧(type_of% ty107)∧(type_of% ty183):=⟨ty3,ty4,ty5,ty23,ty24,ty30,ty54,ty61,ty107,ty183⟩
theorem tys144:(type_of% ty3)∧(type_of% ty23):=⟨ty3,ty23⟩
theorem tys145:(type_of% ty3)∧(type_of% ty4)∧(type_of% ty9)∧(type_of% ty30):=⟨ty3,ty4,ty9,ty30⟩
theorem tys146:(type_of% ty3)∧(type_of% ty4)∧(type_of% ty5)∧(type_of% ty23)∧(type_of% ty30)∧(type_of% ty36)∧(type_of% ty54):=⟨ty3,ty4,ty5,ty23,ty30,ty36,ty54⟩
theorem tys147:(type_of% ty3)∧(type_of% ty5)∧(type_of% ty54)∧(type_of% ty117):=⟨ty3,ty5,ty54,ty117⟩
theorem tys148:(type_of% ty3)∧(type_of% ty4)∧(type_of% ty5)∧(type_of% ty54)∧(type_of% ty83)∧(type_of% ty90):=⟨ty3,ty4,ty5,ty54,ty83,ty90⟩
theorem tys149:(type_of% ty3)∧(type_of% ty4)∧(type_of% ty5)∧(type_of% ty23)∧(type_of% ty30)∧(type_of% ty54)∧(type_of% ty79)∧(type_of% ty83)∧(type_of% ty85)∧(type_of% ty90):=⟨ty3,ty4,ty5,ty23,ty30,ty54,ty79,ty83,ty85,ty90⟩
theorem tys150:(type_of% ty4)∧(type_of% ty5)∧(type_of% ty9)∧(type_of% ty54):=⟨ty4,ty5,ty9,ty54⟩
theorem tys151:(type_of% ty3):=ty3
theorem tys152:(type_of% ty3)∧(type_of% ty4)∧(type_of% ty5)∧(type_of% ty23)∧(type_of% ty30)∧(type_of% ty36)∧(type_of% ty54)∧(type_of% ty79)∧(type_of% ty83)∧(type_of% ty90):=⟨ty3,ty4,ty5,ty23,ty30,ty36,ty54,ty79,ty83,ty90⟩
theorem tys153:(type_of% ty3)∧(type_of% ty5)∧(type_of% ty24)∧(type_of% ty33)∧(type_of% ty54)∧(type_of% ty76):=⟨ty3,ty5,ty24,ty33,ty54,ty76⟩
theorem tys154:(type_of% ty3)∧(type_of% ty4)∧(type_of% ty5)∧(type_of% ty24)∧(type_of% ty30)∧(type_of% ty33)∧(type_of% ty54)∧(type_of% ty79)∧(type_of% ty183)∧(type_of% ty232)∧(type_of% ty234)∧(type_of% ty237):=⟨ty3,ty4,ty5,ty24,ty30,ty33,ty54,ty79,ty183,ty232,ty234,ty237⟩
theorem tys157:(type_of% ty3)∧(type_of% ty4)∧(type_of% ty5)∧(type_of% ty23)∧(type_of% ty30)∧(type_of% ty33)∧(type_of% ty36)∧(type_of% ty54)∧(type_of% ty76)∧(type_of% ty77)∧(type_of% ty107)∧(type_of% ty216)∧(type_of% ty218):=⟨ty3,ty4,ty5,ty23,ty30,ty33,ty36,ty54,ty76,ty77,ty107,ty216,ty218⟩
theorem tys158:(type_of% ty3)∧(type_of% ty4)∧(type_of% ty5)∧(type_of% ty33)∧(type_of% ty54)∧(type_of% ty76)∧(type_of% ty216)∧(type_of% ty218):=⟨ty3,ty4,ty5,ty33,ty54,ty76,ty216,ty218⟩
theorem tys162:(type_of% ty3)∧(type_of% ty4):=⟨ty3,ty4⟩
theorem tys163:(type_of% ty3)∧(type_of% ty4):=⟨ty3,ty4⟩
theorem tys164:(type_of% ty3)∧(type_of% ty4)∧(type_of% ty23)∧(type_of% ty30)∧(type_of% ty36)∧(type_of% ty83)∧(type_of% ty85)∧(type_of% ty90):=⟨ty3,ty4,ty23,ty30,ty36,ty83,ty85,ty90⟩
theorem tys165:(type_of% ty3)∧(type_of% ty4)∧(type_of% ty5)∧(type_of% ty54):=⟨ty3,ty4,ty5,ty54⟩
theorem tys166:(type_of% ty3)∧(type_of% ty4)∧(type_of% ty5)∧(type_of% ty23)∧(type_of% ty30)∧(type_of% ty36)∧(type_of% ty54):=⟨ty3,ty4,ty5,ty23,ty30,ty36,ty54⟩
theorem tys167:(type_of% ty3)∧(type_of% ty5)∧(type_of% ty54)∧(type_of% ty83)∧(type_of% ty90):=⟨ty3,ty5,ty54,ty83,ty90⟩
theorem tys168:(type_of% ty3)∧(type_of% ty4)∧(type_of% ty23)∧(type_of% ty83)∧(type_of% ty90):=⟨ty3,ty4,ty23,ty83,ty90⟩
theorem tys169:(type_of% ty3)∧(type_of% ty4)∧(type_of% ty5)∧(type_of% ty24)∧(type_of% ty30)∧(type_of% ty54)∧(type_of% ty183)∧(type_of% ty232)∧(type_of% ty237):=⟨ty3,ty4,ty5,ty24,ty30,ty54,ty183,ty232,ty237⟩
theorem tys170:(type_of% ty3)∧(type_of% ty4)∧(type_of% ty5)∧(type_of% ty24)∧(type_of% ty33)∧(type_of% ty54):=⟨ty3,ty4,ty5,ty24,ty33,ty54⟩
theorem tys171:(type_of% ty3)∧(type_of% ty4)∧(type_of% ty5)∧(type_of% ty24)∧(type_of% ty30)∧(type_of% ty54)∧(type_of% ty183):=⟨ty3,ty4,ty5,ty24,ty30,ty54,ty183⟩
theorem tys172:(type_of% ty3)∧(type_of% ty4)∧(type_of% ty5)∧(type_of% ty24)∧(type_of% ty30)∧(type_of% ty54):=⟨ty3,ty4,ty5,ty24,ty30,ty54⟩
theorem tys173:(type_of% ty3)∧(type_of% ty4)∧(type_of% ty5)∧(type_of% ty24)∧(type_of% ty30)∧(type_of% ty54)∧(type_of% ty79)∧(type_of% ty232)∧(type_of% ty237):=⟨ty3,ty4,ty5,ty24,ty30,ty54,ty79,ty232,ty237⟩
theorem tys183:(type_of% ty3)∧(type_of% ty23)∧(type_of% ty30)∧(type_of% ty177):=⟨ty3,ty23,ty30,ty177⟩
theorem tys184:(type_of% ty3)∧(type_of% ty23)∧(type_of% ty30)∧(type_of% ty177):=⟨ty3,ty23,ty30,ty177⟩
theorem tys185:(type_of% ty3)∧(type_of% ty4)∧(type_of% ty5)∧(type_of% ty24)∧(type_of% ty30)∧(type_of% ty54):=⟨ty3,ty4,ty5,ty24,ty30,ty54⟩
theorem tys186:(type_of% ty3)∧(type_of% ty4)∧(type_of% ty5)∧(type_of% ty24)∧(type_of% ty30)∧(type_of% ty54)∧(type_of% ty257):=⟨ty3,ty4,ty5,ty24,ty30,ty54,ty257⟩
theorem tys187:(type_of% ty3)∧(type_of% ty4)∧(type_of% ty5)∧(type_of% ty24)∧(type_of% ty30)∧(type_of% ty54):=⟨ty3,ty4,ty5,ty24,ty30,ty54⟩
theorem tys188:(type_of% ty3)∧(type_of% ty4)∧(type_of% ty5)∧(type_of% ty24)∧(type_of% ty30)∧(type_of% ty54)∧(type_of% ty258):=⟨ty3,ty4,ty5,ty24,ty30,ty54,ty258⟩
theorem tys189:(type_of% ty3)∧(type_of% ty5)∧(type_of% ty24)∧(type_of% ty54):=⟨ty3,ty5,ty24,ty54⟩
theorem tys190:(type_of% ty3)∧(type_of% ty4)∧(type_of% ty5)∧(type_of% ty24)∧(type_of% ty54):=⟨ty3,ty4,ty5,ty24,ty54⟩
theorem tys191:(type_of% ty3)∧(type_of% ty4)∧(type_of% ty5)∧(type_of% ty54)∧(type_of% ty262):=⟨ty3,ty4,ty5,ty54,ty262⟩
theorem tys195:(type_of% ty3)∧(type_of% ty5)∧(type_of% ty24)∧(type_of% ty54)∧(type_of% ty257):=⟨ty3,ty5,ty24,ty54,ty257⟩
theorem tys196:(type_of% ty3)∧(type_of% ty4)∧(type_of% ty5):=⟨ty3,ty4,ty5⟩
theorem tys197:(type_of% ty3)∧(type_of% ty5)∧(type_of% ty30)∧(type_of% ty258):=⟨ty3,ty5,ty30,ty258⟩
theorem tys198:(type_of% ty5)∧(type_of% ty30)∧(type_of% ty258):=⟨ty5,ty30,ty258⟩
theorem tys199:(type_of% ty5):=ty5
theorem tys200:(type_of% ty3)∧(type_of% ty5)∧(type_of% ty54):=⟨ty3,ty5,ty54⟩
theorem tys201:(type_of% ty3)∧(type_of% ty5)∧(type_of% ty54):=⟨ty3,ty5,ty54⟩
theorem tys202:(type_of% ty4)∧(type_of% ty5)∧(type_of% ty24)∧(type_of% ty54):=⟨ty4,ty5,ty24,ty54⟩
theorem tys203:(type_of% ty4)∧(type_of% ty5)∧(type_of% ty54):=⟨ty4,ty5,ty54⟩
theorem tys204:(type_of% ty4)∧(type_of% ty5)∧(type_of% ty117):=⟨ty4,ty5,ty117⟩
theorem tys206:(type_of% ty3)∧(type_of% ty4)∧(type_of% ty5)∧(type_of% ty30)∧(type_of% ty262)∧(type_of% ty266):=⟨ty3,ty4,ty5,ty30,ty262,ty266⟩
theorem tys207:(type_of% ty5)∧(type_of% ty117):=⟨ty5,ty117⟩
theorem tys208:(type_of% ty3)∧(type_of% ty4)∧(type_of% ty5)∧(type_of% ty262):=⟨ty3,ty4,ty5,ty262⟩
end Go.Proofs.YtgcicholalgbiaaGreat
set_option linter.unusedVariables false
set_option linter.unusedSimpArgs false
set_option maxRecDepth 10000
namespace Go.Proofs.YtgcicholalgbiaaGreat
open Go Go.Tw Go.Proofs
def onceA:Nat→Bool:=fun _=>true
abbrev parV (k r c w:Int):AV := .agg [intV k,intV r,intV c,intV w]
def mayB (k r c w:Int):Bool:=decide (1≤k∧k≤12∧0≤r∧r≤4∧8≤c∧c≤64∧8≤w∧w≤256∧32≤k*c)
theorem wrap_id {n:Int} (h : -9223372036854775808≤n) (h2:n≤9223372036854775807):IntKind.i64.wrap n=n:=by
 simp only [IntKind.wrap,IntKind.bits,IntKind.signed]
 simp
 split <;> omega
theorem mul_bounds {k c:Int} (h1:1≤k) (h2:k≤12) (h3:8≤c) (h4:c≤64):8≤k*c∧k*c≤768:=by
 have a:1*8≤k*c:=Int.mul_le_mul h1 h3 (by omega) (by omega)
 have b:k*c≤12*64:=Int.mul_le_mul h2 h4 (by omega) (by omega)
 omega
theorem mayB_of {k r c w:Int}:mayB k r c w=true↔(1≤k∧k≤12∧0≤r∧r≤4∧8≤c∧c≤64∧8≤w∧w≤256∧32≤k*c):=by simp [mayB]
theorem may_w {k r c w:Int} (h:mayB k r c w=true):32≤k*c∧k*c≤768:=by
 rw [mayB_of] at h
 have:=mul_bounds h.1 h.2.1 h.2.2.2.2.1 h.2.2.2.2.2.1
 omega
def wI (k c:Int):Int:=k*c
def dI (k c:Int):Int:=(k*c - 7) / 6
def lI (k c:Int):Int:=k*c / 6
def mI (k c:Int):Int:=min 32768 (dI k c*lI k c*(k*c))
theorem layout_check (k r c w:Int):FSpec Tryz.prog 74 [parV k r c w] ⟨intV (if mayB k r c w then 0 else 2),[]⟩:=by
 refine fspec_of_body follows Tryz.func74 (by unfold Tryz.f74;rfl) (by unfold Tryz.f74;simp) onceA (by unfold Tryz.f74;simp) (by kernel_rfl) ?_;unfold Tryz.f74
 by_cases hb:1≤k∧k≤12∧8≤c∧c≤64
 ·have hw:IntKind.i64.wrap (k*c)=k*c:=wrap_id (by have:=mul_bounds hb.1 hb.2.1 hb.2.2.1 hb.2.2.2;omega) (by have:=mul_bounds hb.1 hb.2.1 hb.2.2.1 hb.2.2.2;omega)
  replace hb:=Hid.mk hb
  simp only [↓pre,simprocAttr,parV,sx,tys74,hw,onceA];repeat' ((first | refine guard_dec (fun _ => ?_) (fun _ => ?_) | refine cond_dec (fun _ => ?_) (fun _ => ?_) | refine guard_ndec (fun _ => ?_) (fun _ => ?_) | refine cond_ndec (fun _ => ?_) (fun _ => ?_) | refine guard_split (fun _ => ?_) (fun _ => ?_) | refine cond_split (fun _ => ?_) (fun _ => ?_)) <;> simp only [↓pre,simprocAttr,parV,sx,tys74,hw,onceA, *])
  all_goals skip
  all_goals have hb:=hb.out
  all_goals (first | (exfalso;omega) | (rw [if_neg (by rw [mayB_of];omega)];done) | (rw [if_pos (by rw [mayB_of];omega)];done))
 ·replace hb:=Hid.mk hb
  simp only [↓pre,simprocAttr,parV,sx,tys74,onceA];repeat' ((first | refine guard_dec (fun _ => ?_) (fun _ => ?_) | refine cond_dec (fun _ => ?_) (fun _ => ?_) | refine guard_ndec (fun _ => ?_) (fun _ => ?_) | refine cond_ndec (fun _ => ?_) (fun _ => ?_) | refine guard_split (fun _ => ?_) (fun _ => ?_) | refine cond_split (fun _ => ?_) (fun _ => ?_)) <;> simp only [↓pre,simprocAttr,parV,sx,tys74,onceA, *])
  all_goals skip
  all_goals have hb:=hb.out
  all_goals (first | (exfalso;omega) | (rw [if_neg (by rw [mayB_of];omega)];done))
theorem ref06_may (k r c w:Int):FSpec Tryz.prog 36 [parV k r c w] ⟨boolV (mayB k r c w),[]⟩:=by
 refine fspec_of_body follows Tryz.func36 (by unfold Tryz.f36;rfl) (by unfold Tryz.f36;simp) onceA (by unfold Tryz.f36;simp) (by kernel_rfl) ?_;unfold Tryz.f36
 by_cases hb:1≤k∧k≤12∧8≤c∧c≤64
 ·have hw:IntKind.i64.wrap (k*c)=k*c:=wrap_id (by have:=mul_bounds hb.1 hb.2.1 hb.2.2.1 hb.2.2.2;omega) (by have:=mul_bounds hb.1 hb.2.1 hb.2.2.1 hb.2.2.2;omega)
  replace hb:=Hid.mk hb
  simp only [↓pre,simprocAttr,parV,sx,tys36,hw,onceA];repeat' ((first | refine guard_dec (fun _ => ?_) (fun _ => ?_) | refine cond_dec (fun _ => ?_) (fun _ => ?_) | refine guard_ndec (fun _ => ?_) (fun _ => ?_) | refine cond_ndec (fun _ => ?_) (fun _ => ?_) | refine guard_split (fun _ => ?_) (fun _ => ?_) | refine cond_split (fun _ => ?_) (fun _ => ?_)) <;> simp only [↓pre,simprocAttr,parV,sx,tys36,hw,onceA, *])
  all_goals refine bool_fin ?_
  all_goals simp only [decide_eq_true_eq,decide_eq_false_iff_not,mayB_of,reduceCtorEq,false_iff,true_iff]
  all_goals have hb:=hb.out
  all_goals omega
 ·replace hb:=Hid.mk hb
  simp only [↓pre,simprocAttr,parV,sx,tys36,onceA];repeat' ((first | refine guard_dec (fun _ => ?_) (fun _ => ?_) | refine cond_dec (fun _ => ?_) (fun _ => ?_) | refine guard_ndec (fun _ => ?_) (fun _ => ?_) | refine cond_ndec (fun _ => ?_) (fun _ => ?_) | refine guard_split (fun _ => ?_) (fun _ => ?_) | refine cond_split (fun _ => ?_) (fun _ => ?_)) <;> simp only [↓pre,simprocAttr,parV,sx,tys36,onceA, *])
  all_goals refine bool_fin ?_
  all_goals simp only [decide_eq_true_eq,decide_eq_false_iff_not,mayB_of,reduceCtorEq,false_iff,true_iff]
  all_goals have hb:=hb.out
  all_goals omega
theorem layout_width (k r c w:Int) (h:mayB k r c w=true):FSpec Tryz.prog 142 [parV k r c w] ⟨intV (wI k c),[]⟩:=by
 refine fspec_of_body follows Tryz.func142 (by unfold Tryz.f142;rfl) (by unfold Tryz.f142;simp) onceA (by unfold Tryz.f142;simp) (by kernel_rfl) ?_;unfold Tryz.f142
 have hw:IntKind.i64.wrap (k*c)=k*c:=wrap_id (by have:=may_w h;omega) (by have:=may_w h;omega)
 simp only [↓pre,simprocAttr,parV,sx,tys142,hw,onceA,wI]
theorem tdiv_pos {a b:Int} (h:0≤a):a.tdiv b=a / b:=Int.tdiv_eq_ediv_of_nonneg h
theorem d_bounds {x:Int} (h:32≤x) (h2:x≤768):4≤(x - 7) / 6∧(x - 7) / 6≤126:=by omega
theorem l_bounds {x:Int} (h:32≤x) (h2:x≤768):5≤x / 6∧x / 6≤128:=by omega
theorem m_bounds {x:Int} (h:32≤x) (h2:x≤768):20≤(x - 7) / 6*(x / 6)∧(x - 7) / 6*(x / 6)≤16128∧640≤(x - 7) / 6*(x / 6)*x∧(x - 7) / 6*(x / 6)*x≤12386304:=by
 have hd:=d_bounds h h2
 have hl:=l_bounds h h2
 have a:4*5≤(x - 7) / 6*(x / 6):=Int.mul_le_mul hd.1 hl.1 (by omega) (by omega)
 have b:(x - 7) / 6*(x / 6)≤126*128:=Int.mul_le_mul hd.2 hl.2 (by omega) (by omega)
 have c:20*32≤(x - 7) / 6*(x / 6)*x:=Int.mul_le_mul (by omega) h (by omega) (by omega)
 have d:(x - 7) / 6*(x / 6)*x≤16128*768:=Int.mul_le_mul (by omega) h2 (by omega) (by omega)
 omega
theorem layout_direct (k r c w:Int) (h:mayB k r c w=true):FSpec Tryz.prog 144 [parV k r c w] ⟨intV (dI k c),[]⟩:=by
 refine fspec_of_body follows Tryz.func144 (by unfold Tryz.f144;rfl) (by unfold Tryz.f144;simp) onceA (by unfold Tryz.f144;simp) (by kernel_rfl) ?_;unfold Tryz.f144
 have hw:=may_w h
 simp only [↓pre,simprocAttr,parV,sx,tys144,onceA]
 (first | refine call_plain (layout_width _ _ _ _ h) rfl ?_ | refine call_pure (layout_width _ _ _ _ h) rfl (by intro k;first | rfl | simp only [sq,sr, *]) ?_)
 simp only [↓pre,simprocAttr,parV,sx,tys144,onceA,wI,wrap_id (show -9223372036854775808≤k*c - 7 by omega) (by omega),tdiv_pos (show 0≤k*c - 7 by omega),wrap_id (show -9223372036854775808≤(k*c - 7) / 6 by omega) (by omega),dI]
theorem layout_leaf (k r c w:Int) (h:mayB k r c w=true):FSpec Tryz.prog 120 [parV k r c w] ⟨intV (lI k c),[]⟩:=by
 refine fspec_of_body follows Tryz.func120 (by unfold Tryz.f120;rfl) (by unfold Tryz.f120;simp) onceA (by unfold Tryz.f120;simp) (by kernel_rfl) ?_;unfold Tryz.f120
 have hw:=may_w h
 simp only [↓pre,simprocAttr,parV,sx,tys120,onceA]
 (first | refine call_plain (layout_width _ _ _ _ h) rfl ?_ | refine call_pure (layout_width _ _ _ _ h) rfl (by intro k;first | rfl | simp only [sq,sr, *]) ?_)
 simp only [↓pre,simprocAttr,parV,sx,tys120,onceA,wI,tdiv_pos (show 0≤k*c by omega),wrap_id (show -9223372036854775808≤(k*c) / 6 by omega) (by omega),lI]
theorem m_of (k c:Int):min (dI k c*lI k c*wI k c) 32768=mI k c:=by unfold mI wI;omega
theorem wrap_dl {k r c w:Int} (h:mayB k r c w=true):IntKind.i64.wrap (dI k c*lI k c)=dI k c*lI k c:=by
 have hw:=may_w h
 have:=m_bounds hw.1 hw.2
 unfold dI lI
 exact wrap_id (by omega) (by omega)
theorem wrap_dlw {k r c w:Int} (h:mayB k r c w=true):IntKind.i64.wrap (dI k c*lI k c*wI k c)=dI k c*lI k c*wI k c:=by
 have hw:=may_w h
 have:=m_bounds hw.1 hw.2
 unfold dI lI wI
 exact wrap_id (by omega) (by omega)
theorem layout_most (k r c w:Int) (h:mayB k r c w=true):FSpec Tryz.prog 112 [parV k r c w] ⟨intV (mI k c),[]⟩:=by
 refine fspec_of_body follows Tryz.func112 (by unfold Tryz.f112;rfl) (by unfold Tryz.f112;simp) onceA (by unfold Tryz.f112;simp) (by kernel_rfl) ?_;unfold Tryz.f112
 simp only [↓pre,simprocAttr,parV,sx,tys112,onceA]
 (first | refine call_plain (layout_direct _ _ _ _ h) rfl ?_ | refine call_pure (layout_direct _ _ _ _ h) rfl (by intro k;first | rfl | simp only [sq,sr, *]) ?_)
 simp only [↓pre,simprocAttr,parV,sx,tys112,onceA]
 (first | refine call_plain (layout_leaf _ _ _ _ h) rfl ?_ | refine call_pure (layout_leaf _ _ _ _ h) rfl (by intro k;first | rfl | simp only [sq,sr, *]) ?_)
 simp only [↓pre,simprocAttr,parV,sx,tys112,onceA]
 (first | refine call_plain (layout_width _ _ _ _ h) rfl ?_ | refine call_pure (layout_width _ _ _ _ h) rfl (by intro k;first | rfl | simp only [sq,sr, *]) ?_)
 simp only [↓pre,simprocAttr,parV,sx,tys112,onceA,wrap_dl h,wrap_dlw h,m_of]
def upI (a b:Int):Int:=(a+b - 1) / b
theorem layout_up (a b:Int) (ha:0≤a) (ha2:a≤1000000) (hb:1≤b) (hb2:b≤1000000):FSpec Tryz.prog 151 [intV a,intV b] ⟨intV (upI a b),[]⟩:=by
 refine fspec_of_body follows Tryz.func151 (by unfold Tryz.f151;rfl) (by unfold Tryz.f151;simp) onceA (by unfold Tryz.f151;simp) (by kernel_rfl) ?_;unfold Tryz.f151
 have h1:IntKind.i64.wrap (b - 1)=b - 1:=wrap_id (by omega) (by omega)
 have h2:IntKind.i64.wrap (a+(b - 1))=a+(b - 1):=wrap_id (by omega) (by omega)
 have h3:(a+(b - 1)).tdiv b=upI a b:=by rw [tdiv_pos (by omega)];unfold upI;congr 1;omega
 have h4:0≤upI a b:=by unfold upI;exact Int.ediv_nonneg (by omega) (by omega)
 have h5:upI a b≤2000000:=by unfold upI;exact Int.le_trans (Int.ediv_le_self _ (by omega)) (by omega)
 have h6:IntKind.i64.wrap (upI a b)=upI a b:=wrap_id (by omega) (by omega)
 have hb0:b≠0:=by omega
 simp only [↓pre,simprocAttr,parV,sx,tys151,onceA,h1,h2,h3,h6,hb0]
def sI (k c n:Int):Int:=upI n (wI k c)
def fI (k c n:Int):Int:=if sI k c n≤dI k c then 0 else upI (sI k c n) (lI k c)
theorem up_bounds {a b:Int} (ha:0≤a) (ha2:a≤32768) (hb:1≤b) (hb2:b≤1000):0≤upI a b∧upI a b≤33768:=by
 unfold upI
 exact ⟨Int.ediv_nonneg (by omega) (by omega),Int.le_trans (Int.ediv_le_self _ (by omega)) (by omega)⟩
theorem m_le (k c:Int):mI k c≤32768:=by unfold mI;omega
theorem layout_of (k r c w n:Int) (g:FuncId) (hg:mayB k r c w=true→FSpec Tryz.prog g [parV k r c w] ⟨intV n,[]⟩):FSpec Tryz.prog 106 [parV k r c w,.clo g []] ⟨.tup [intV (if mayB k r c w then n else 0),intV (if mayB k r c w then 0 else 2)],[]⟩:=by
 refine fspec_of_body follows Tryz.func106 (by unfold Tryz.f106;rfl) (by unfold Tryz.f106;simp) onceA (by unfold Tryz.f106;simp) (by kernel_rfl) ?_;unfold Tryz.f106
 cases h:mayB k r c w with
 | false=>simp only [↓pre,simprocAttr,parV,sx,tys106,onceA,h];repeat' ((first | refine guard_dec (fun _ => ?_) (fun _ => ?_) | refine cond_dec (fun _ => ?_) (fun _ => ?_) | refine guard_ndec (fun _ => ?_) (fun _ => ?_) | refine cond_ndec (fun _ => ?_) (fun _ => ?_) | refine guard_split (fun _ => ?_) (fun _ => ?_) | refine cond_split (fun _ => ?_) (fun _ => ?_) | refine call_plain (layout_check _ _ _ _) (by first | rfl | simp only [parV,plQ, *]) ?_ | refine call_pure (layout_check _ _ _ _) (by first | rfl | simp only [parV,plQ, *]) (by intro k;first | rfl | simp only [sq,sr, *]) ?_) <;> simp only [↓pre,simprocAttr,parV,sx,tys106,onceA,h, *])
 | true=>simp only [↓pre,simprocAttr,parV,sx,tys106,onceA,h];repeat' ((first | refine guard_dec (fun _ => ?_) (fun _ => ?_) | refine cond_dec (fun _ => ?_) (fun _ => ?_) | refine guard_ndec (fun _ => ?_) (fun _ => ?_) | refine cond_ndec (fun _ => ?_) (fun _ => ?_) | refine guard_split (fun _ => ?_) (fun _ => ?_) | refine cond_split (fun _ => ?_) (fun _ => ?_) | refine call_plain (layout_check _ _ _ _) (by first | rfl | simp only [parV,plQ, *]) ?_ | refine call_plain (hg h) (by first | rfl | simp only [parV,plQ, *]) ?_ | refine call_pure (layout_check _ _ _ _) (by first | rfl | simp only [parV,plQ, *]) (by intro k;first | rfl | simp only [sq,sr, *]) ?_ | refine call_pure (hg h) (by first | rfl | simp only [parV,plQ, *]) (by intro k;first | rfl | simp only [sq,sr, *]) ?_) <;> simp only [↓pre,simprocAttr,parV,sx,tys106,onceA,h, *])
theorem may_n {k r c w:Int} (h:mayB k r c w=true):1≤k+r∧k+r≤16∧8≤c∧c≤64∧1≤k∧0≤r:=by
 rw [mayB_of] at h
 omega
theorem layout_drives (k r c w:Int) (h:mayB k r c w=true):FSpec Tryz.prog 107 [parV k r c w] ⟨intV (k+r),[]⟩:=by
 have hn:=may_n h
 have w1:IntKind.i64.wrap (k+r)=k+r:=wrap_id (by omega) (by omega)
 refine fspec_of_body follows Tryz.func107 (by unfold Tryz.f107;rfl) (by unfold Tryz.f107;simp) onceA (by unfold Tryz.f107;simp) (by kernel_rfl) ?_;unfold Tryz.f107
 simp only [↓pre,simprocAttr,parV,sx,tys107,onceA,w1]
theorem layout_Drives (k r c w:Int):FSpec Tryz.prog 68 [parV k r c w] ⟨.tup [intV (if mayB k r c w then k+r else 0),intV (if mayB k r c w then 0 else 2)],[]⟩:=by
 refine fspec_of_body follows Tryz.func68 (by unfold Tryz.f68;rfl) (by unfold Tryz.f68;simp) onceA (by unfold Tryz.f68;simp) (by kernel_rfl) ?_;unfold Tryz.f68
 simp only [↓pre,simprocAttr,parV,sx,tys68,onceA];repeat' ((first | refine guard_dec (fun _ => ?_) (fun _ => ?_) | refine cond_dec (fun _ => ?_) (fun _ => ?_) | refine guard_ndec (fun _ => ?_) (fun _ => ?_) | refine cond_ndec (fun _ => ?_) (fun _ => ?_) | refine guard_split (fun _ => ?_) (fun _ => ?_) | refine cond_split (fun _ => ?_) (fun _ => ?_) | refine call_plain (layout_of _ _ _ _ _ _ (layout_drives k r c w)) (by first | rfl | simp only [parV,plQ, *]) ?_ | refine call_pure (layout_of _ _ _ _ _ _ (layout_drives k r c w)) (by first | rfl | simp only [parV,plQ, *]) (by intro k;first | rfl | simp only [sq,sr, *]) ?_) <;> simp only [↓pre,simprocAttr,parV,sx,tys68,onceA, *])
def sizeI (k r c:Int):Int:=12+4*(k+r)+c
theorem slot_Size (k r c w:Int):FSpec Tryz.prog 70 [parV k r c w] ⟨.tup [intV (if mayB k r c w then sizeI k r c else 0),intV (if mayB k r c w then 0 else 2)],[]⟩:=by
 refine fspec_of_body follows Tryz.func70 (by unfold Tryz.f70;rfl) (by unfold Tryz.f70;simp) onceA (by unfold Tryz.f70;simp) (by kernel_rfl) ?_;unfold Tryz.f70
 cases h:mayB k r c w with
 | false=>simp only [↓pre,simprocAttr,parV,sx,tys70,onceA,h,Bool.false_eq_true];repeat' ((first | refine guard_dec (fun _ => ?_) (fun _ => ?_) | refine cond_dec (fun _ => ?_) (fun _ => ?_) | refine guard_ndec (fun _ => ?_) (fun _ => ?_) | refine cond_ndec (fun _ => ?_) (fun _ => ?_) | refine guard_split (fun _ => ?_) (fun _ => ?_) | refine cond_split (fun _ => ?_) (fun _ => ?_) | refine call_plain (layout_Drives _ _ _ _) (by first | rfl | simp only [parV,plQ, *]) ?_ | refine call_pure (layout_Drives _ _ _ _) (by first | rfl | simp only [parV,plQ, *]) (by intro k;first | rfl | simp only [sq,sr, *]) ?_) <;> simp only [↓pre,simprocAttr,parV,sx,tys70,onceA,h,Bool.false_eq_true, *])
 | true =>
  have hn:=may_n h
  have w1:IntKind.i64.wrap (4*(k+r))=4*(k+r):=wrap_id (by omega) (by omega)
  have w2:IntKind.i64.wrap (12+4*(k+r))=12+4*(k+r):=wrap_id (by omega) (by omega)
  have w3:IntKind.i64.wrap (12+4*(k+r)+c)=12+4*(k+r)+c:=wrap_id (by omega) (by omega)
  replace hn:=Hid.mk hn
  simp only [↓pre,simprocAttr,parV,sx,tys70,onceA,h,w1,w2,w3,sizeI];repeat' ((first | refine guard_dec (fun _ => ?_) (fun _ => ?_) | refine cond_dec (fun _ => ?_) (fun _ => ?_) | refine guard_ndec (fun _ => ?_) (fun _ => ?_) | refine cond_ndec (fun _ => ?_) (fun _ => ?_) | refine guard_split (fun _ => ?_) (fun _ => ?_) | refine cond_split (fun _ => ?_) (fun _ => ?_) | refine call_plain (layout_Drives _ _ _ _) (by first | rfl | simp only [parV,plQ, *]) ?_ | refine call_pure (layout_Drives _ _ _ _) (by first | rfl | simp only [parV,plQ, *]) (by intro k;first | rfl | simp only [sq,sr, *]) ?_) <;> simp only [↓pre,simprocAttr,parV,sx,tys70,onceA,h,w1,w2,w3,sizeI, *])
theorem ref06_N (k r c w:Int) (h:mayB k r c w=true):FSpec Tryz.prog 37 [parV k r c w] ⟨intV (k+r),[]⟩:=by
 have hn:=may_n h
 have w1:IntKind.i64.wrap (k+r)=k+r:=wrap_id (by omega) (by omega)
 refine fspec_of_body follows Tryz.func37 (by unfold Tryz.f37;rfl) (by unfold Tryz.f37;simp) onceA (by unfold Tryz.f37;simp) (by kernel_rfl) ?_;unfold Tryz.f37
 simp only [↓pre,simprocAttr,parV,sx,tys37,onceA,w1]
def verB (n:Int):Bool:=decide (1≤n∧n≤1073741824)
theorem vector_version (n:Int):FSpec Tryz.prog 163 [intV n] ⟨boolV (verB n),[]⟩:=by
 refine fspec_of_body follows Tryz.func163 (by unfold Tryz.f163;rfl) (by unfold Tryz.f163;simp) onceA (by unfold Tryz.f163;simp) (by kernel_rfl) ?_;unfold Tryz.f163
 simp only [↓pre,simprocAttr,parV,sx,tys163,onceA,boolV];repeat' ((first | refine guard_dec (fun _ => ?_) (fun _ => ?_) | refine cond_dec (fun _ => ?_) (fun _ => ?_) | refine guard_ndec (fun _ => ?_) (fun _ => ?_) | refine cond_ndec (fun _ => ?_) (fun _ => ?_) | refine guard_split (fun _ => ?_) (fun _ => ?_) | refine cond_split (fun _ => ?_) (fun _ => ?_)) <;> simp only [↓pre,simprocAttr,parV,sx,tys163,onceA,boolV, *])
 all_goals refine bool_fin ?_
 all_goals simp [verB]
 all_goals omega
theorem vector_check1 (n:Int):FSpec Tryz.prog 162 [intV n] ⟨boolV (!verB n),[]⟩:=by
 refine fspec_of_body follows Tryz.func162 (by unfold Tryz.f162;rfl) (by unfold Tryz.f162;simp) onceA (by unfold Tryz.f162;simp) (by kernel_rfl) ?_;unfold Tryz.f162
 simp only [↓pre,simprocAttr,parV,sx,tys162,onceA,boolV]
 (first | refine call_plain (vector_version n) (by first | rfl | simp only [parV,plQ, *]) ?_ | refine call_pure (vector_version n) (by first | rfl | simp only [parV,plQ, *]) (by intro k;first | rfl | simp only [sq,sr, *]) ?_);simp only [↓pre,simprocAttr,parV,sx,tys162,onceA,boolV]
def oE (k r c w n:Int):Int:=if mayB k r c w=true then (if n < 0 then 2 else if mI k c < n then 3 else 0) else 2
def oS (k r c w n:Int):Int:=if oE k r c w n=0 then sI k c n else 0
def oF (k r c w n:Int):Int:=if oE k r c w n=0 then fI k c n else 0
theorem layout_object (k r c w n:Int):FSpec Tryz.prog 119 [parV k r c w,intV n] ⟨.tup [intV (oS k r c w n),intV (oF k r c w n),intV (oE k r c w n)],[]⟩:=by
 refine fspec_of_body follows Tryz.func119 (by unfold Tryz.f119;rfl) (by unfold Tryz.f119;simp) onceA (by unfold Tryz.f119;simp) (by kernel_rfl) ?_;unfold Tryz.f119
 simp only [↓pre,simprocAttr,parV,sx,tys119,onceA]
 (first | refine call_plain (layout_check _ _ _ _) rfl ?_ | refine call_pure (layout_check _ _ _ _) rfl (by intro k;first | rfl | simp only [sq,sr, *]) ?_)
 cases h:mayB k r c w with
 | false=>simp only [↓pre,simprocAttr,parV,sx,tys119,onceA,h,oS,oF,oE,Bool.false_eq_true]
 | true =>
  have hw:=may_w h
  have hd:=d_bounds hw.1 hw.2
  have hl:=l_bounds hw.1 hw.2
  have hmm:=m_le k c
  simp only [↓pre,simprocAttr,parV,sx,tys119,onceA]
  refine cond_split (fun hn => ?_) (fun hn => ?_)
  ·have hn:=of_decide_eq_true hn
   simp only [↓pre,simprocAttr,parV,sx,tys119,onceA,h,oS,oF,oE,hn]
  ·have hn:=of_decide_eq_false hn
   simp only [↓pre,simprocAttr,parV,sx,tys119,onceA,oS,oF,oE,h,hn]
   (first | refine call_plain (layout_most _ _ _ _ h) rfl ?_ | refine call_pure (layout_most _ _ _ _ h) rfl (by intro k;first | rfl | simp only [sq,sr, *]) ?_)
   simp only [↓pre,simprocAttr,parV,sx,tys119,onceA]
   refine cond_split (fun hb => ?_) (fun hb => ?_)
   ·have hb:=of_decide_eq_true hb
    simp only [↓pre,simprocAttr,parV,sx,tys119,onceA,hb]
   ·have hb:=of_decide_eq_false hb
    simp only [↓pre,simprocAttr,parV,sx,tys119,onceA]
    (first | refine call_plain (layout_width _ _ _ _ h) rfl ?_ | refine call_pure (layout_width _ _ _ _ h) rfl (by intro k;first | rfl | simp only [sq,sr, *]) ?_)
    simp only [↓pre,simprocAttr,parV,sx,tys119,onceA]
    (first | refine call_plain (layout_up _ _ (by omega) (by omega) (by unfold wI;omega) (by unfold wI;omega)) rfl ?_ | refine call_pure (layout_up _ _ (by omega) (by omega) (by unfold wI;omega) (by unfold wI;omega)) rfl (by intro k;first | rfl | simp only [sq,sr, *]) ?_)
    simp only [↓pre,simprocAttr,parV,sx,tys119,onceA]
    (first | refine call_plain (layout_direct _ _ _ _ h) rfl ?_ | refine call_pure (layout_direct _ _ _ _ h) rfl (by intro k;first | rfl | simp only [sq,sr, *]) ?_)
    simp only [↓pre,simprocAttr,parV,sx,tys119,onceA]
    have hs:=up_bounds (a:=n) (b:=wI k c) (by omega) (by omega) (by unfold wI;omega) (by unfold wI;omega)
    refine cond_split (fun hc => ?_) (fun hc => ?_)
    ·have hc:=of_decide_eq_true hc
     simp only [↓pre,simprocAttr,parV,sx,tys119,onceA]
     (first | refine call_plain (layout_leaf _ _ _ _ h) rfl ?_ | refine call_pure (layout_leaf _ _ _ _ h) rfl (by intro k;first | rfl | simp only [sq,sr, *]) ?_)
     simp only [↓pre,simprocAttr,parV,sx,tys119,onceA]
     (first | refine call_plain (layout_up _ _ hs.1 (by omega) (by unfold lI;omega) (by unfold lI;omega)) rfl ?_ | refine call_pure (layout_up _ _ hs.1 (by omega) (by unfold lI;omega) (by unfold lI;omega)) rfl (by intro k;first | rfl | simp only [sq,sr, *]) ?_)
     simp only [↓pre,simprocAttr,parV,sx,tys119,onceA,hb,fI,sI,show ¬ upI n (wI k c)≤dI k c by omega]
    ·have hc:=of_decide_eq_false hc
     simp only [↓pre,simprocAttr,parV,sx,tys119,onceA,hb,fI,sI,show upI n (wI k c)≤dI k c by omega]
theorem layout_stripes (k r c w n:Int):FSpec Tryz.prog 81 [parV k r c w,intV n] ⟨.tup [intV (oS k r c w n),intV (oE k r c w n)],[]⟩:=by
 refine fspec_of_body follows Tryz.func81 (by unfold Tryz.f81;rfl) (by unfold Tryz.f81;simp) onceA (by unfold Tryz.f81;simp) (by kernel_rfl) ?_;unfold Tryz.f81
 simp only [↓pre,simprocAttr,parV,sx,tys81,onceA]
 (first | refine call_plain (layout_object _ _ _ _ _) rfl ?_ | refine call_pure (layout_object _ _ _ _ _) rfl (by intro k;first | rfl | simp only [sq,sr, *]) ?_)
 simp only [↓pre,simprocAttr,parV,sx,tys81,onceA]
theorem layout_leaves (k r c w n:Int):FSpec Tryz.prog 184 [parV k r c w,intV n] ⟨.tup [intV (oF k r c w n),intV (oE k r c w n)],[]⟩:=by
 refine fspec_of_body follows Tryz.func184 (by unfold Tryz.f184;rfl) (by unfold Tryz.f184;simp) onceA (by unfold Tryz.f184;simp) (by kernel_rfl) ?_;unfold Tryz.f184
 simp only [↓pre,simprocAttr,parV,sx,tys184,onceA]
 (first | refine call_plain (layout_object _ _ _ _ _) rfl ?_ | refine call_pure (layout_object _ _ _ _ _) rfl (by intro k;first | rfl | simp only [sq,sr, *]) ?_)
 simp only [↓pre,simprocAttr,parV,sx,tys184,onceA]
theorem layout_Depth (k r c w n:Int):FSpec Tryz.prog 183 [parV k r c w,intV n] ⟨.tup [intV (min (oF k r c w n) 1),intV (oE k r c w n)],[]⟩:=by
 have h1:=layout_object k r c w n
 refine fspec_of_body follows Tryz.func183 (by unfold Tryz.f183;rfl) (by unfold Tryz.f183;simp) onceA (by unfold Tryz.f183;simp) (by kernel_rfl) ?_;unfold Tryz.f183
 simp only [↓pre,simprocAttr,parV,sx,tys183,onceA]
 (first | refine call_plain (h1) (by first | rfl | simp only [parV,plQ, *]) ?_ | refine call_pure (h1) (by first | rfl | simp only [parV,plQ, *]) (by intro k;first | rfl | simp only [sq,sr, *]) ?_);simp only [↓pre,simprocAttr,parV,sx,tys183,onceA]
theorem layout_Width (k r c w:Int):FSpec Tryz.prog 109 [parV k r c w] ⟨.tup [intV (if mayB k r c w then wI k c else 0),intV (if mayB k r c w then 0 else 2)],[]⟩:=by
 have h1:=layout_of k r c w (wI k c) 142 (fun h=>layout_width k r c w h)
 refine fspec_of_body follows Tryz.func109 (by unfold Tryz.f109;rfl) (by unfold Tryz.f109;simp) onceA (by unfold Tryz.f109;simp) (by kernel_rfl) ?_;unfold Tryz.f109
 simp only [↓pre,simprocAttr,parV,sx,tys109,onceA]
 (first | refine call_plain (h1) (by first | rfl | simp only [parV,plQ, *]) ?_ | refine call_pure (h1) (by first | rfl | simp only [parV,plQ, *]) (by intro k;first | rfl | simp only [sq,sr, *]) ?_);simp only [↓pre,simprocAttr,parV,sx,tys109,onceA]
theorem layout_Leaf (k r c w:Int):FSpec Tryz.prog 82 [parV k r c w] ⟨.tup [intV (if mayB k r c w then lI k c else 0),intV (if mayB k r c w then 0 else 2)],[]⟩:=by
 have h1:=layout_of k r c w (lI k c) 120 (fun h=>layout_leaf k r c w h)
 refine fspec_of_body follows Tryz.func82 (by unfold Tryz.f82;rfl) (by unfold Tryz.f82;simp) onceA (by unfold Tryz.f82;simp) (by kernel_rfl) ?_;unfold Tryz.f82
 simp only [↓pre,simprocAttr,parV,sx,tys82,onceA]
 (first | refine call_plain (h1) (by first | rfl | simp only [parV,plQ, *]) ?_ | refine call_pure (h1) (by first | rfl | simp only [parV,plQ, *]) (by intro k;first | rfl | simp only [sq,sr, *]) ?_);simp only [↓pre,simprocAttr,parV,sx,tys82,onceA]
theorem layout_Most (k r c w:Int):FSpec Tryz.prog 76 [parV k r c w] ⟨.tup [intV (if mayB k r c w then mI k c else 0),intV (if mayB k r c w then 0 else 2)],[]⟩:=by
 have h1:=layout_of k r c w (mI k c) 112 (fun h=>layout_most k r c w h)
 refine fspec_of_body follows Tryz.func76 (by unfold Tryz.f76;rfl) (by unfold Tryz.f76;simp) onceA (by unfold Tryz.f76;simp) (by kernel_rfl) ?_;unfold Tryz.f76
 simp only [↓pre,simprocAttr,parV,sx,tys76,onceA]
 (first | refine call_plain (h1) (by first | rfl | simp only [parV,plQ, *]) ?_ | refine call_pure (h1) (by first | rfl | simp only [parV,plQ, *]) (by intro k;first | rfl | simp only [sq,sr, *]) ?_);simp only [↓pre,simprocAttr,parV,sx,tys76,onceA]
def intsA (l:List Int):List AV:=l.map intV
theorem int_at {l:List Int} {x:List AV} {i:Nat} {n:Int} (h:l[i]? = some n):(intsA l++x)[i]? = some (.val (.int .i64 n)):=by
 have hi:=(List.getElem?_eq_some_iff.1 h).1
 rw [List.getElem?_append_left (by simpa [intsA] using hi)]
 simp [intsA,h,intV]
def idxI (p:Int→Bool) (l:List Int):Int:=match l.findIdx? p with
 | some i=>(i:Nat)
 | none => -1
theorem idxI_some {p:Int→Bool} {l:List Int} {i:Nat} {n:Int} (h:l[i]? = some n) (hp:p n=true) (hb:∀ (j:Nat) (m:Int),j < i→l[j]? = some m→p m=false):idxI p l=(i:Nat):=by
 obtain ⟨hi1,hi2⟩:=(List.getElem?_eq_some_iff.1 h)
 have:l.findIdx? p=some i:=by
  rw [List.findIdx?_eq_some_iff_getElem]
  refine ⟨hi1,by rw [hi2];exact hp,fun j hj => ?_⟩
  simpa using hb j _ hj (List.getElem?_eq_getElem (Nat.lt_trans hj hi1))
 rw [idxI,this]
theorem idxI_none {p:Int→Bool} {l:List Int} (hb:∀ (j:Nat) (m:Int),l[j]? = some m→p m=false):idxI p l = -1:=by
 have:l.findIdx? p=none:=by
  rw [List.findIdx?_eq_none_iff]
  intro m hm
  obtain ⟨j,hj,rfl⟩:=List.getElem_of_mem hm
  exact hb j _ (List.getElem?_eq_getElem hj)
 rw [idxI,this]
theorem idxI_any (p:Int→Bool) (l:List Int):decide (0≤idxI p l)=l.any p:=by
 unfold idxI
 cases h:l.findIdx? p with
 | none =>
  rw [List.findIdx?_eq_none_iff] at h
  have:l.any p=false:=by rw [List.any_eq_false];intro m hm;rw [h m hm];decide
  rw [this];rfl
 | some i =>
  obtain ⟨hi,hp,_⟩:=List.findIdx?_eq_some_iff_getElem.1 h
  have:l.any p=true:=List.any_eq_true.2 ⟨_,List.getElem_mem hi,hp⟩
  rw [this]
  simp
theorem index_func (v:AV) (l:List Int) (x:List AV) (g:FuncId) (caps:List AV) (p:Int→Bool) (hv:RdSl v l.length (intsA l++x)) (hn:l.length≤1000000000000) (hc:plains caps=true) (hg:∀ n∈l,FSpec Tryz.prog g (intV n::caps) ⟨boolV (p n),[]⟩):FSpec Tryz.prog 134 [v,.clo g caps] ⟨intV (idxI p l),[]⟩:=by
 refine fspec_of_body follows Tryz.func134 (by unfold Tryz.f134;rfl) (by unfold Tryz.f134;simp) onceA (by unfold Tryz.f134;simp) (by kernel_rfl) ?_;unfold Tryz.f134
 have hpl:=hv.plain
 simp only [↓pre,simprocAttr,parV,sx,tys134,onceA,postU,hv.len']
 rw [codeW_loop]
 refine loop_intro (fun n e m=>∃ i,n+i=l.length∧e 0=v∧e 1 = .clo g caps∧e 7=intV (l.length:Nat)∧e 8=intV (i:Nat)∧∀ (j:Nat) (m:Int),j < i→l[j]? = some m→p m=false) l.length ⟨0,by omega, ?_⟩ ?_
 ·simp [Env.set,entryE,intV]
 ·rintro n e m ⟨i,hi,e0,e1,e7,e8,hpre⟩
  replace hpre:=Hid.mk hpre
  by_cases hlt:i < l.length
  ·have hlt':(i:Int) < (l.length:Nat):=by omega
   obtain ⟨a,ha⟩:∃ a,l[i]? = some a:=⟨_,List.getElem?_eq_getElem hlt⟩
   have a1:=int_at (x:=x) ha
   have w1:=wrap_succ (n:=i) (by omega)
   have hga:=hg a (List.mem_of_getElem? ha)
   replace ha:=Hid.mk ha
   simp only [↓pre,simprocAttr,parV,sx,tys134,onceA,postU,e0,e1,e7,e8,hlt',hv.addr',hlt,Nat.mul_one,a1,w1]
   cases hp:p a with
   | true =>
    have hx:=idxI_some ha.out hp hpre.out
    rw [hp] at hga
    (first | refine call_plain hga (by simp only [plains,plain,intV,hc,Bool.and_true,Bool.and_self]) ?_ | refine call_pure hga (by simp only [plains,plain,intV,hc,Bool.and_true,Bool.and_self]) (by intro k;first | rfl | simp only [sq,sr, *]) ?_)
    simp only [↓pre,simprocAttr,parV,sx,tys134,onceA,postU,e0,e1,e7,e8,boolV,hx]
   | false =>
    rw [hp] at hga
    (first | refine call_plain hga (by simp only [plains,plain,intV,hc,Bool.and_true,Bool.and_self]) ?_ | refine call_pure hga (by simp only [plains,plain,intV,hc,Bool.and_true,Bool.and_self]) (by intro k;first | rfl | simp only [sq,sr, *]) ?_)
    simp only [↓pre,simprocAttr,parV,sx,tys134,onceA,postU,e0,e1,e7,e8,boolV,w1]
    refine ⟨n - 1,by omega,i+1,by omega,rfl,fun j m hj hm => ?_⟩
    by_cases hji:j=i
    ·subst hji
     rw [ha.out] at hm
     cases hm
     exact hp
    ·exact hpre.out j m (by omega) hm
  ·have hlt':¬ (i:Int) < (l.length:Nat):=by omega
   have hx:=idxI_none (p:=p) (l:=l) fun j m hj=>hpre.out j m (by have:=(List.getElem?_eq_some_iff.1 hj).1;omega) hj
   simp only [↓pre,simprocAttr,parV,sx,tys134,onceA,postU,e0,e1,e7,e8,hlt',decide_false,cond_f,hx]
theorem contains_func (v:AV) (l:List Int) (x:List AV) (g:FuncId) (caps:List AV) (p:Int→Bool) (hv:RdSl v l.length (intsA l++x)) (hn:l.length≤1000000000000) (hc:plains caps=true) (hg:∀ n∈l,FSpec Tryz.prog g (intV n::caps) ⟨boolV (p n),[]⟩):FSpec Tryz.prog 92 [v,.clo g caps] ⟨boolV (l.any p),[]⟩:=by
 have h1:=index_func v l x g caps p hv hn hc hg
 have h2:=idxI_any p l
 have hpl:=hv.plain
 refine fspec_of_body follows Tryz.func92 (by unfold Tryz.f92;rfl) (by unfold Tryz.f92;simp) onceA (by unfold Tryz.f92;simp) (by kernel_rfl) ?_;unfold Tryz.f92
 simp only [↓pre,simprocAttr,parV,sx,tys92,onceA,boolV]
 (first | refine call_plain h1 (by simp only [plains,plain,hpl,hc,Bool.and_true,Bool.and_self]) ?_ | refine call_pure h1 (by simp only [plains,plain,hpl,hc,Bool.and_true,Bool.and_self]) (by intro k;first | rfl | simp only [sq,sr, *]) ?_)
 simp only [↓pre,simprocAttr,parV,sx,tys92,onceA,boolV,h2]
def vecE (k r c w:Int) (l:List Int):Int:=if mayB k r c w=true then (if (l.length:Int)=k+r then (if l.any (fun n => !verB n)=true then 70 else 0) else 70) else 2
theorem vector_Check (k r c w:Int) (v:AV) (l:List Int) (x:List AV) (hv:RdSl v l.length (intsA l++x)) (hn:l.length≤1000000000000):FSpec Tryz.prog 141 [parV k r c w,v] ⟨intV (vecE k r c w l),[]⟩:=by
 have hc:=contains_func v l x 162 [] (fun n => !verB n) hv hn rfl (fun n _=>vector_check1 n)
 have hp:=hv.plain
 refine fspec_of_body follows Tryz.func141 (by unfold Tryz.f141;rfl) (by unfold Tryz.f141;simp) onceA (by unfold Tryz.f141;simp) (by kernel_rfl) ?_;unfold Tryz.f141
 cases h:mayB k r c w with
 | false =>
  have he:vecE k r c w l=2:=by simp [vecE,h]
  simp only [↓pre,simprocAttr,parV,sx,tys141,onceA,h,Bool.false_eq_true,he];repeat' ((first | refine guard_dec (fun _ => ?_) (fun _ => ?_) | refine cond_dec (fun _ => ?_) (fun _ => ?_) | refine guard_ndec (fun _ => ?_) (fun _ => ?_) | refine cond_ndec (fun _ => ?_) (fun _ => ?_) | refine guard_split (fun _ => ?_) (fun _ => ?_) | refine cond_split (fun _ => ?_) (fun _ => ?_) | refine call_plain (layout_Drives _ _ _ _) (by first | rfl | simp only [parV,plQ, *]) ?_ | refine call_pure (layout_Drives _ _ _ _) (by first | rfl | simp only [parV,plQ, *]) (by intro k;first | rfl | simp only [sq,sr, *]) ?_) <;> simp only [↓pre,simprocAttr,parV,sx,tys141,onceA,h,Bool.false_eq_true,he, *])
 | true =>
  by_cases hl:(l.length:Int)=k+r
  ·cases ha:l.any (fun n => !verB n) with
   | true =>
    have he:vecE k r c w l=70:=by rw [vecE,if_pos h,if_pos hl,if_pos ha]
    rw [ha] at hc
    simp only [↓pre,simprocAttr,parV,sx,tys141,onceA,postU,h,hv.len',hl,he,boolV];repeat' ((first | refine guard_dec (fun _ => ?_) (fun _ => ?_) | refine cond_dec (fun _ => ?_) (fun _ => ?_) | refine guard_ndec (fun _ => ?_) (fun _ => ?_) | refine cond_ndec (fun _ => ?_) (fun _ => ?_) | refine guard_split (fun _ => ?_) (fun _ => ?_) | refine cond_split (fun _ => ?_) (fun _ => ?_) | refine call_plain (layout_Drives _ _ _ _) (by first | rfl | simp only [parV,plQ, *]) ?_ | refine call_plain (hc) (by first | rfl | simp only [parV,plQ, *]) ?_ | refine call_pure (layout_Drives _ _ _ _) (by first | rfl | simp only [parV,plQ, *]) (by intro k;first | rfl | simp only [sq,sr, *]) ?_ | refine call_pure (hc) (by first | rfl | simp only [parV,plQ, *]) (by intro k;first | rfl | simp only [sq,sr, *]) ?_) <;> simp only [↓pre,simprocAttr,parV,sx,tys141,onceA,postU,h,hv.len',hl,he,boolV, *])
   | false =>
    have he:vecE k r c w l=0:=by rw [vecE,if_pos h,if_pos hl,if_neg (by rw [ha];decide)]
    rw [ha] at hc
    simp only [↓pre,simprocAttr,parV,sx,tys141,onceA,postU,h,hv.len',hl,he,boolV];repeat' ((first | refine guard_dec (fun _ => ?_) (fun _ => ?_) | refine cond_dec (fun _ => ?_) (fun _ => ?_) | refine guard_ndec (fun _ => ?_) (fun _ => ?_) | refine cond_ndec (fun _ => ?_) (fun _ => ?_) | refine guard_split (fun _ => ?_) (fun _ => ?_) | refine cond_split (fun _ => ?_) (fun _ => ?_) | refine call_plain (layout_Drives _ _ _ _) (by first | rfl | simp only [parV,plQ, *]) ?_ | refine call_plain (hc) (by first | rfl | simp only [parV,plQ, *]) ?_ | refine call_pure (layout_Drives _ _ _ _) (by first | rfl | simp only [parV,plQ, *]) (by intro k;first | rfl | simp only [sq,sr, *]) ?_ | refine call_pure (hc) (by first | rfl | simp only [parV,plQ, *]) (by intro k;first | rfl | simp only [sq,sr, *]) ?_) <;> simp only [↓pre,simprocAttr,parV,sx,tys141,onceA,postU,h,hv.len',hl,he,boolV, *])
  ·have he:vecE k r c w l=70:=by rw [vecE,if_pos h,if_neg hl]
   simp only [↓pre,simprocAttr,parV,sx,tys141,onceA,postU,h,hv.len',hl,he,boolV];repeat' ((first | refine guard_dec (fun _ => ?_) (fun _ => ?_) | refine cond_dec (fun _ => ?_) (fun _ => ?_) | refine guard_ndec (fun _ => ?_) (fun _ => ?_) | refine cond_ndec (fun _ => ?_) (fun _ => ?_) | refine guard_split (fun _ => ?_) (fun _ => ?_) | refine cond_split (fun _ => ?_) (fun _ => ?_) | refine call_plain (layout_Drives _ _ _ _) (by first | rfl | simp only [parV,plQ, *]) ?_ | refine call_pure (layout_Drives _ _ _ _) (by first | rfl | simp only [parV,plQ, *]) (by intro k;first | rfl | simp only [sq,sr, *]) ?_) <;> simp only [↓pre,simprocAttr,parV,sx,tys141,onceA,postU,h,hv.len',hl,he,boolV, *])
def lastI (l:List Int):Int:=l.foldl max 0
theorem last_take {l:List Int} {i:Nat} {n:Int} (h:l[i]? = some n):lastI (l.take (i+1))=max (lastI (l.take i)) n:=by
 rw [List.take_add_one,h]
 simp [lastI]
theorem vector_Last (k r c w:Int) (v:AV) (l:List Int) (x:List AV) (hv:RdSl v l.length (intsA l++x)) (hn:l.length≤1000000000000):FSpec Tryz.prog 108 [parV k r c w,v] ⟨.tup [intV (if vecE k r c w l=0 then lastI l else 0),intV (vecE k r c w l)],[]⟩:=by
 have hc:=vector_Check k r c w v l x hv hn
 have hp:=hv.plain
 refine fspec_of_body follows Tryz.func108 (by unfold Tryz.f108;rfl) (by unfold Tryz.f108;simp) onceA (by unfold Tryz.f108;simp) (by kernel_rfl) ?_;unfold Tryz.f108
 simp only [↓pre,simprocAttr,parV,sx,tys108,onceA,postU]
 (first | refine call_plain hc (by simp only [plains,plain,parV,intV,hp,Bool.and_true,Bool.and_self]) ?_ | refine call_pure hc (by simp only [plains,plain,parV,intV,hp,Bool.and_true,Bool.and_self]) (by intro k;first | rfl | simp only [sq,sr, *]) ?_)
 by_cases he:vecE k r c w l=0
 ·simp only [↓pre,simprocAttr,parV,sx,tys108,onceA,postU,he,hv.len',eq_self]
  rw [codeW_loop]
  refine loop_intro (fun n e m=>∃ i,n+i=l.length∧e 16=v∧e 17=intV (l.length:Nat)∧e 18=intV (i:Nat)∧e 7=intV (lastI (l.take i))) l.length ⟨0,by omega, ?_⟩ ?_
  ·simp [Env.set,entryE,intV,lastI]
  ·rintro n e m ⟨i,hi,e16,e17,e18,e7⟩
   by_cases hlt:i < l.length
   ·have hlt':(i:Int) < (l.length:Nat):=by omega
    obtain ⟨a,ha⟩:∃ a,l[i]? = some a:=⟨_,List.getElem?_eq_getElem hlt⟩
    have a1:=int_at (x:=x) ha
    have a2:=last_take ha
    have w1:=wrap_succ (n:=i) (by omega)
    simp only [↓pre,simprocAttr,parV,sx,tys108,onceA,postU,e16,e17,e18,e7,hlt',hv.addr',hlt,Nat.mul_one,a1,w1]
    exact ⟨n - 1,by omega,i+1,by omega,rfl,by rw [a2]⟩
   ·have hlt':¬ (i:Int) < (l.length:Nat):=by omega
    have ht:l.take i=l:=List.take_of_length_le (by omega)
    rw [ht] at e7
    simp only [↓pre,simprocAttr,parV,sx,tys108,onceA,postU,e16,e17,e18,e7,hlt',decide_false,cond_f]
 ·simp only [↓pre,simprocAttr,parV,sx,tys108,onceA,postU,he]

theorem rd_fz {v:AV} {n:Nat} {cs:List AV} (h:RdSl v n cs) (m:Mem):fz m v=some (v,m):=by
 rcases h.form with ⟨rfl,_⟩ | ⟨_,_,rfl,_⟩ | ⟨_,_,rfl,_⟩ <;> rfl
theorem rd_one {v:AV} {n:Nat} {cs:List AV} (h:RdSl v n cs):oneA v=true:=by
 rcases h.form with ⟨rfl,_⟩ | ⟨_,_,rfl,_⟩ | ⟨_,_,rfl,_⟩ <;> rfl
def slotV (kd ix ce st:Int) (vv dv:AV):AV := .agg [.val (.int .u8 kd),intV ix,intV ce,intV st,vv,dv]
def mayS (k r c w kd ix ce st:Int) (l:List Int) (dn:Nat):Bool :=
 decide (vecE k r c w l=0) && (decide (st=lastI l) && (decide (0≤ix∧ix < l.length) && ((decide (kd=1) || decide (kd=2)) && (decide (l[ix.toNat]? = some ce) && decide ((dn:Int)=c)))))
theorem slot_may (k r c w kd ix ce st:Int) (vv dv:AV) (l:List Int) (x:List AV) (dn:Nat) (y:List AV) (hv:RdSl vv l.length (intsA l++x)) (hd:RdSl dv dn y) (hn:l.length≤1000000000000):FSpec Tryz.prog 72 [parV k r c w,slotV kd ix ce st vv dv] ⟨boolV (mayS k r c w kd ix ce st l dn),[]⟩:=by
 have hc:=vector_Last k r c w vv l x hv hn
 have hp:=hv.plain
 have f1:=rd_fz hv
 have f2:=rd_fz hd
 have o1:=rd_one hv
 have o2:=rd_one hd
 refine fspec_of_body follows Tryz.func72 (by unfold Tryz.f72;rfl) (by unfold Tryz.f72;simp) onceA (by unfold Tryz.f72;simp) (by kernel_rfl) ?_;unfold Tryz.f72
 unfold slotV
 simp only [↓pre,simprocAttr,parV,sx,tys72,onceA,postU,f1,f2,o1,o2,hv.len',hd.len']
 (first | refine call_plain hc (by simp only [plains,plain,parV,intV,hp,Bool.and_true,Bool.and_self]) ?_ | refine call_pure hc (by simp only [plains,plain,parV,intV,hp,Bool.and_true,Bool.and_self]) (by intro k;first | rfl | simp only [sq,sr, *]) ?_)
 by_cases he:vecE k r c w l=0
 ·by_cases hst:st=lastI l
  ·subst hst
   by_cases h0:ix < 0
   ·have hx:mayS k r c w kd ix ce (lastI l) l dn=false:=by
     have:¬ (0≤ix∧ix < l.length):=by omega
     rw [mayS,decide_eq_false this];simp
    simp only [↓pre,simprocAttr,parV,sx,tys72,onceA,postU,he,hv.len',h0,hx,boolV,eq_self]
   ·obtain ⟨i,rfl⟩:∃ i:Nat,ix=(i:Nat):=⟨ix.toNat,by omega⟩
    by_cases h1:i < l.length
    ·have hlt:¬ ((l.length:Nat):Int)≤(i:Int):=by omega
     obtain ⟨a,ha⟩:∃ a,l[i]? = some a:=⟨_,List.getElem?_eq_getElem h1⟩
     have a1:=int_at (x:=x) ha
     have hm:mayS k r c w kd (i:Nat) ce (lastI l) l dn=((decide (kd=1) || decide (kd=2)) && (decide (a=ce) && decide ((dn:Int)=c))):=by
      have:(0:Int)≤(i:Nat)∧((i:Nat):Int) < (l.length:Nat):=by omega
      rw [mayS,decide_eq_true he,decide_eq_true (rfl:lastI l=lastI l),decide_eq_true this,Int.toNat_natCast,ha]
      simp
     rw [hm]
     replace ha:=Hid.mk ha
     replace hm:=Hid.mk hm
     simp only [↓pre,simprocAttr,parV,sx,tys72,onceA,postU,he,hv.len',hd.len',hv.addr',h0,hlt,h1,Nat.mul_one,a1,boolV,eq_self];repeat' ((first | refine guard_dec (fun _ => ?_) (fun _ => ?_) | refine cond_dec (fun _ => ?_) (fun _ => ?_) | refine guard_ndec (fun _ => ?_) (fun _ => ?_) | refine cond_ndec (fun _ => ?_) (fun _ => ?_) | refine guard_split (fun _ => ?_) (fun _ => ?_) | refine cond_split (fun _ => ?_) (fun _ => ?_)) <;> simp only [↓pre,simprocAttr,parV,sx,tys72,onceA,postU,he,hv.len',hd.len',hv.addr',h0,hlt,h1,Nat.mul_one,a1,boolV,eq_self, *])
     all_goals (first | rfl | (refine bool_fin ?_;simp_all;done) | (rename_i hh;have h2:¬ a=ce:=fun e=>hh e.symm;rw [decide_eq_false h2];simp;done))
    ·have hge:((l.length:Nat):Int)≤(i:Int):=by omega
     have hx:mayS k r c w kd (i:Nat) ce (lastI l) l dn=false:=by
      have:¬ ((0:Int)≤(i:Nat)∧((i:Nat):Int) < (l.length:Nat)):=by omega
      rw [mayS,decide_eq_false this];simp
     simp only [↓pre,simprocAttr,parV,sx,tys72,onceA,postU,he,hv.len',h0,hge,hx,boolV,eq_self]
  ·have hx:mayS k r c w kd ix ce st l dn=false:=by simp [mayS,hst]
   simp only [↓pre,simprocAttr,parV,sx,tys72,onceA,postU,he,hst,hx,boolV,eq_self]
 ·have hx:mayS k r c w kd ix ce st l dn=false:=by simp [mayS,he]
  simp only [↓pre,simprocAttr,parV,sx,tys72,onceA,postU,he,hx,boolV,eq_self]
def bytesA (l:List UInt8):List AV:=l.map byteV
theorem byte_at {bs:List UInt8} {x:List AV} {i:Nat} {a:UInt8} (h:bs[i]? = some a):(bytesA bs++x)[i]? = some (.val (.int .u8 a.toNat)):=by
 have hi:=(List.getElem?_eq_some_iff.1 h).1
 rw [List.getElem?_append_left (by simpa [bytesA] using hi)]
 simp [bytesA,h,byteV]
theorem bytesA_drop (bs:List UInt8) (x:List AV) (k:Nat) (hk:k≤bs.length):(bytesA bs++x).drop k=bytesA (bs.drop k)++x:=by
 rw [List.drop_append_of_le_length (by simpa [bytesA] using hk)]
 simp [bytesA,List.map_drop]
theorem rd_cut3 {P:Program} {t:TypeId} {v:AV} {n k:Nat} {cs:List AV} (h:RdSl v n cs) (h1:((elE P t).bind (szE P)).isSome=true) (hk:0 < k) (hkn:k≤n):∃ v',sliceE P t none (some k) (some k) v=some v'∧RdSl v' k cs:=by
 obtain ⟨sz,hsz⟩:=Option.isSome_iff_exists.1 h1
 obtain ⟨el,hel,hsz⟩:=Option.bind_eq_some_iff.1 hsz
 rcases h.form with ⟨rfl,h0⟩ | ⟨_,_,rfl,h0⟩ | ⟨c,f,rfl,hc⟩
 ·omega
 ·omega
 ·refine ⟨.tree k k cs true, ?_,⟨.inr (.inr ⟨k,true,rfl,Nat.le_refl _⟩)⟩⟩
  simp only [sliceE,hel,hsz,cutE,Option.isSome_some,Option.isNone_some,Bool.and_false,Bool.false_eq_true,if_false,Option.bind_some,Option.getD_some,Option.getD_none]
  rw [if_pos (by omega),if_neg (by omega)]
  simp
def beN (l:List UInt8):Nat:=l.foldl (fun n b=>n*256+b.toNat) 0
theorem be_take {l:List UInt8} {i:Nat} {a:UInt8} (h:l[i]? = some a):beN (l.take (i+1))=beN (l.take i)*256+a.toNat:=by
 rw [List.take_add_one,h]
 simp [beN]
theorem be_le:∀ (i:Nat) (l:List UInt8),beN (l.take i) < 256 ^ i
 | 0,l=>by simp [beN]
 | i+1,l=>by
  by_cases h:i < l.length
  ·have ih:=be_le i l
   have hb:=be_take (List.getElem?_eq_getElem h)
   have ha:=(l[i]).toNat_lt
   rw [hb,Nat.pow_succ]
   omega
  ·have ih:=be_le i l
   have e:l.take (i+1)=l.take i:=by rw [List.take_of_length_le (by omega),List.take_of_length_le (by omega)]
   rw [e,Nat.pow_succ]
   omega
theorem rd_canon {P:Program} {m:Mem} {v:AV} {n:Nat} {cs:List AV} (h:RdSl v n cs) (d:Nat) (ids:List (Nat×Nat)) (rows:List (TypeId×List AV)):canon P m d ids rows v=some (v,ids,rows):=by
 rcases h.form with ⟨rfl,_⟩ | ⟨_,_,rfl,_⟩ | ⟨_,_,rfl,_⟩ <;> (try unfold nilS) <;> (cases d <;> (unfold canon;rfl))
theorem slot_take (v:AV) (bs:List UInt8) (x:List AV) (hv:RdSl v bs.length (bytesA bs++x)) (h4:4≤bs.length):∃ v',RdSl v' (bs.drop 4).length (bytesA (bs.drop 4)++x)∧FSpec Tryz.prog 71 [v] ⟨.tup [intV (beN (bs.take 4):Nat),v'],[]⟩:=by
 obtain ⟨v1,s1,r1⟩:=rd_cut3 (P:=Tryz.prog) (t:=54) (k:=4) hv (by kernel_rfl) (by decide) h4
 obtain ⟨v2,s2,r2⟩:=hv.slice (P:=Tryz.prog) (t:=54) (sz:=1) (lo:=some 4) (hi:=none) (by kernel_rfl) (by simpa using h4) (by simp)
 simp only [Option.getD_some,Option.getD_none,Nat.mul_one] at r2
 rw [bytesA_drop bs x 4 h4,←List.length_drop] at r2
 refine ⟨v2,r2, ?_⟩
 have hp:=hv.plain
 refine fspec_of_body follows Tryz.func71 (by unfold Tryz.f71;rfl) (by unfold Tryz.f71;simp) onceA (by unfold Tryz.f71;simp) (by kernel_rfl) ?_;unfold Tryz.f71
 have nt4:natOf (.val (.int .i64 4))=some 4:=rfl
 simp only [↓pre,simprocAttr,parV,sx,tys71,onceA,postU,postV,postX,hv.slOk,hv.sliceX,s1,s2,nt4,optNat,Option.map_some,Option.map_none,r1.len']
 rw [codeW_loop]
 refine loop_intro (fun n e m=>∃ i,n+i=4∧e 0=v∧e 8=v1∧e 9=intV 4∧e 10=intV (i:Nat)∧e 4=intV (beN (bs.take i):Nat)) 4 ⟨0,by omega, ?_⟩ ?_
 ·simp [Env.set,entryE,intV,beN]
 ·rintro n e m ⟨i,hi,e0,e8,e9,e10,e4⟩
  by_cases hlt:i < 4
  ·have hlt':(i:Int) < 4:=by omega
   obtain ⟨a,ha⟩:∃ a,bs[i]? = some a:=⟨_,List.getElem?_eq_getElem (by omega)⟩
   have a1:=byte_at (x:=x) ha
   have a2:=be_take ha
   have hle:=be_le i bs
   have ha256:=a.toNat_lt
   have w1:=wrap_succ (n:=i) (by omega)
   simp only [↓pre,simprocAttr,parV,sx,tys71,onceA,postU,postV,postX,e0,e8,e9,e10,e4,hlt',r1.addr',hlt,Nat.mul_one,a1,w1]
   have hpow:256 ^ i≤256 ^ 3:=Nat.pow_le_pow_right (by decide) (by omega)
   have h3:256 ^ 3=16777216:=by decide
   have w5:IntKind.i64.wrap (a.toNat:Int)=(a.toNat:Int):=wrap_nat (by omega)
   have w7:IntKind.i64.wrap (((beN (bs.take i):Nat):Int)*2 ^ min 8 IntKind.i64.bits)=((beN (bs.take i)*256:Nat):Int):=by
    rw [show (((beN (bs.take i):Nat):Int)*2 ^ min 8 IntKind.i64.bits)=((beN (bs.take i)*256:Nat):Int) by simp [IntKind.bits]]
    exact wrap_nat (by omega)
   have w8:borI .i64 ((beN (bs.take i)*256:Nat):Int) (a.toNat:Int)=((beN (bs.take i)*256+a.toNat:Nat):Int):=by
    rw [borI_i64 (by omega) (by omega),or_add (by omega)]
   exact ⟨n - 1,by omega,i+1,by omega,rfl,by rw [w7,w5,w8,a2]⟩
  ·have hlt':¬ (i:Int) < 4:=by omega
   have hi4:i=4:=by omega
   subst hi4
   simp only [↓pre,simprocAttr,parV,sx,tys71,onceA,postU,postV,postX,e0,e8,e9,e10,e4,hlt',decide_false,cond_f,hv.slOk,hv.sliceX,s2,nt4,optNat,Option.map_some,Option.map_none,rd_canon r2]




theorem census_held1 (z kd ix ce st:Int) (vv dv:AV):FSpec Tryz.prog 93 [intV z,.tptr 0 [.val (.int .u8 kd),intV ix,intV ce,intV st,vv,dv]] ⟨boolV (!decide (z=ce)),[]⟩:=by
 refine fspec_of_body follows Tryz.func93 (by unfold Tryz.f93;rfl) (by unfold Tryz.f93;simp) onceA (by unfold Tryz.f93;simp) (by kernel_rfl) ?_;unfold Tryz.f93
 simp only [↓pre,simprocAttr,parV,sx,tys93,onceA,boolV]
def once4:Nat→Bool:=fun d=>d != 4
def slot0:AV:=slotV 0 0 0 0 nilS nilS
theorem slot_Parse_not (k r c w:Int) (v:AV) (bs:List UInt8) (x:List AV) (hv:RdSl v bs.length (bytesA bs++x)) (hm:mayB k r c w=false):FSpec Tryz.prog 44 [parV k r c w,v] ⟨.tup [slot0,boolV false,intV 2],[]⟩:=by
 have hp:=hv.plain
 refine fspec_of_body follows Tryz.func44 (by unfold Tryz.f44;rfl) (by unfold Tryz.f44;simp) once4 (by unfold Tryz.f44;simp) (by kernel_rfl) ?_;unfold Tryz.f44
 simp only [↓pre,simprocAttr,parV,sx,tys44,once4,Option.getD_some,bne,postU,postV,allocE,storeE,eq_self,put_at,push_at]
 (first | refine call_plain (slot_Size k r c w) (by first | rfl | simp only [parV,plQ, *]) ?_ | refine call_pure (slot_Size k r c w) (by first | rfl | simp only [parV,plQ, *]) (by intro k;first | rfl | simp only [sq,sr, *]) ?_);simp only [↓pre,simprocAttr,parV,sx,tys44,once4,Option.getD_some,bne,postU,postV,allocE,storeE,eq_self,put_at,push_at,hm,Bool.false_eq_true]
 rfl
theorem slot_Parse_nil (k r c w:Int) (v:AV) (bs:List UInt8) (x:List AV) (hv:RdSl v bs.length (bytesA bs++x)) (hm:mayB k r c w=true) (hb:(bs.length:Int)=0):FSpec Tryz.prog 44 [parV k r c w,v] ⟨.tup [slot0,boolV false,intV 0],[]⟩:=by
 have hp:=hv.plain
 refine fspec_of_body follows Tryz.func44 (by unfold Tryz.f44;rfl) (by unfold Tryz.f44;simp) once4 (by unfold Tryz.f44;simp) (by kernel_rfl) ?_;unfold Tryz.f44
 simp only [↓pre,simprocAttr,parV,sx,tys44,once4,Option.getD_some,bne,postU,postV,allocE,storeE,eq_self,put_at,push_at]
 (first | refine call_plain (slot_Size k r c w) (by first | rfl | simp only [parV,plQ, *]) ?_ | refine call_pure (slot_Size k r c w) (by first | rfl | simp only [parV,plQ, *]) (by intro k;first | rfl | simp only [sq,sr, *]) ?_);simp only [↓pre,simprocAttr,parV,sx,tys44,once4,Option.getD_some,bne,postU,postV,allocE,storeE,eq_self,put_at,push_at,hm,hv.len',hb]
 rfl
theorem slot_Parse_len (k r c w:Int) (v:AV) (bs:List UInt8) (x:List AV) (hv:RdSl v bs.length (bytesA bs++x)) (hm:mayB k r c w=true) (hb:¬ (bs.length:Int)=0) (hb2:¬ (bs.length:Int)=sizeI k r c):FSpec Tryz.prog 44 [parV k r c w,v] ⟨.tup [slot0,boolV false,intV 100],[]⟩:=by
 have hp:=hv.plain
 refine fspec_of_body follows Tryz.func44 (by unfold Tryz.f44;rfl) (by unfold Tryz.f44;simp) once4 (by unfold Tryz.f44;simp) (by kernel_rfl) ?_;unfold Tryz.f44
 simp only [↓pre,simprocAttr,parV,sx,tys44,once4,Option.getD_some,bne,postU,postV,allocE,storeE,eq_self,put_at,push_at]
 (first | refine call_plain (slot_Size k r c w) (by first | rfl | simp only [parV,plQ, *]) ?_ | refine call_pure (slot_Size k r c w) (by first | rfl | simp only [parV,plQ, *]) (by intro k;first | rfl | simp only [sq,sr, *]) ?_);simp only [↓pre,simprocAttr,parV,sx,tys44,once4,Option.getD_some,bne,postU,postV,allocE,storeE,eq_self,put_at,push_at,hm,hv.len',hb,hb2]
 rfl
theorem slot_Parse_magic (k r c w:Int) (v:AV) (bs:List UInt8) (x:List AV) (hv:RdSl v bs.length (bytesA bs++x)) (hm:mayB k r c w=true) (hb2:(bs.length:Int)=sizeI k r c) {a b:UInt8} (ha:bs[0]? = some a) (hb:bs[1]? = some b) (hne:¬ ((a.toNat:Int)=84∧(b.toNat:Int)=50)):FSpec Tryz.prog 44 [parV k r c w,v] ⟨.tup [slot0,boolV false,intV 0],[]⟩:=by
 have hp:=hv.plain
 have hmn:=may_n hm
 have a0:=byte_at (x:=x) ha
 have a1:=byte_at (x:=x) hb
 have l0:0 < bs.length:=by unfold sizeI at hb2;omega
 have l1:1 < bs.length:=by unfold sizeI at hb2;omega
 have hb1:¬ sizeI k r c=0:=by rw [←hb2];omega
 replace hmn:=Hid.mk hmn
 refine fspec_of_body follows Tryz.func44 (by unfold Tryz.f44;rfl) (by unfold Tryz.f44;simp) once4 (by unfold Tryz.f44;simp) (by kernel_rfl) ?_;unfold Tryz.f44
 simp only [↓pre,simprocAttr,parV,sx,tys44,once4,Option.getD_some,bne,postU,postV,allocE,storeE,eq_self,put_at,push_at]
 by_cases h1:(a.toNat:Int)=84
 ·have h2:¬ (b.toNat:Int)=50:=fun h=>hne ⟨h1,h⟩
  (first | refine call_plain (slot_Size k r c w) (by first | rfl | simp only [parV,plQ, *]) ?_ | refine call_pure (slot_Size k r c w) (by first | rfl | simp only [parV,plQ, *]) (by intro k;first | rfl | simp only [sq,sr, *]) ?_);simp only [↓pre,simprocAttr,parV,sx,tys44,once4,Option.getD_some,bne,postU,postV,allocE,storeE,eq_self,put_at,push_at,hm,hv.len',hb2,hb1,hv.addr',l0,l1,Nat.mul_one,a0,a1,h1,h2]
  rfl
 ·(first | refine call_plain (slot_Size k r c w) (by first | rfl | simp only [parV,plQ, *]) ?_ | refine call_pure (slot_Size k r c w) (by first | rfl | simp only [parV,plQ, *]) (by intro k;first | rfl | simp only [sq,sr, *]) ?_);simp only [↓pre,simprocAttr,parV,sx,tys44,once4,Option.getD_some,bne,postU,postV,allocE,storeE,eq_self,put_at,push_at,hm,hv.len',hb2,hb1,hv.addr',l0,l1,Nat.mul_one,a0,a1,h1]
  rfl
def numAt (bs:List UInt8) (o:Nat):Int:=((beN ((bs.drop o).take 4):Nat):Int)
def numsI (bs:List UInt8) (n:Nat):List Int:=(List.range n).map fun j=>numAt bs (12+4*j)
theorem numsI_succ (bs:List UInt8) (n:Nat):numsI bs (n+1)=numsI bs n++[numAt bs (12+4*n)]:=by simp [numsI,List.range_succ]
theorem numsI_len (bs:List UInt8) (n:Nat):(numsI bs n).length=n:=by simp [numsI]
theorem intsA_append (a b:List Int):intsA (a++b)=intsA a++intsA b:=by simp [intsA]
def parseR (kd ix:Int) (bs:List UInt8) (N C:Nat):Bool→Res
 | true=>⟨.tup [slotV kd ix (numAt bs 4) (numAt bs 8) (.sl 0 0 N N false) (.sl 1 0 C C false),boolV true,intV 0],[(3,intsA (numsI bs N)),(5,bytesA (bs.drop (12+4*N)))]⟩
 | false=>⟨.tup [slot0,boolV false,intV 0],[]⟩
theorem slot_Parse_main (k r c w:Int) (v:AV) (bs:List UInt8) (x:List AV) (hv:RdSl v bs.length (bytesA bs++x)) (hm:mayB k r c w=true) (hb2:(bs.length:Int)=sizeI k r c) {a2 a3:UInt8} (h0:bs[0]? = some 84) (h1:bs[1]? = some 50) (h2:bs[2]? = some a2) (h3:bs[3]? = some a3):FSpec Tryz.prog 44 [parV k r c w,v] (parseR a2.toNat a3.toNat bs (k+r).toNat c.toNat (mayS k r c w a2.toNat a3.toNat (numAt bs 4) (numAt bs 8) (numsI bs (k+r).toNat) c.toNat)):=by
 have hp:=hv.plain
 have hmn:=may_n hm
 have b0:=byte_at (x:=x) h0
 have b1:=byte_at (x:=x) h1
 have b2:=byte_at (x:=x) h2
 have b3:=byte_at (x:=x) h3
 have l12:12≤bs.length:=by unfold sizeI at hb2;omega
 have l0:0 < bs.length:=by omega
 have l1:1 < bs.length:=by omega
 have l2:2 < bs.length:=by omega
 have l3:3 < bs.length:=by omega
 have hb1:¬ sizeI k r c=0:=by rw [←hb2];omega
 have c84:(((84:UInt8).toNat:Nat):Int)=84:=rfl
 have c50:(((50:UInt8).toNat:Nat):Int)=50:=rfl
 have w5:IntKind.i64.wrap (a3.toNat:Int)=(a3.toNat:Int):=wrap_nat (by have:=a3.toNat_lt;omega)
 have nt4:natOf (.val (.int .i64 4))=some 4:=rfl
 replace hmn:=Hid.mk hmn
 replace l12:=Hid.mk l12
 obtain ⟨v1,s1,r1⟩:=hv.slice (P:=Tryz.prog) (t:=54) (sz:=1) (lo:=some 4) (hi:=none) (by kernel_rfl) (by have:=l12.out;simp only [Option.getD_some,Option.getD_none];omega) (by simp)
 simp only [Option.getD_some,Option.getD_none,Nat.mul_one] at r1
 rw [bytesA_drop bs x 4 (by have:=l12.out;omega),←List.length_drop] at r1
 obtain ⟨v2,r2,t1⟩:=slot_take v1 (bs.drop 4) x r1 (by have:=l12.out;rw [List.length_drop];omega)
 obtain ⟨v3,r3,t2⟩:=slot_take v2 ((bs.drop 4).drop 4) x r2 (by have:=l12.out;simp only [List.length_drop];omega)
 have p1:=r1.plain
 have p2:=r2.plain
 have sh1:=rd_shift r1
 have sh2:=rd_shift r2
 have sh3:=rd_shift r3
 rw [List.drop_drop,List.drop_drop] at r3
 obtain ⟨N,hN⟩:∃ N:Nat,k+r=(N:Int):=⟨(k+r).toNat,by have:=hmn.out;omega⟩
 obtain ⟨C,hC⟩:∃ C:Nat,c=(C:Int):=⟨c.toNat,by have:=hmn.out;omega⟩
 have hNN:(k+r).toNat=N:=by omega
 have hCC:c.toNat=C:=by omega
 rw [hNN,hCC]
 generalize hres:parseR _ _ _ _ _ _=res
 have hlen:bs.length=12+4*N+C:=by unfold sizeI at hb2;omega
 have hN16:N≤16∧1≤N∧8≤C∧C≤64:=by have:=hmn.out;omega
 replace hlen:=Hid.mk hlen
 replace hN:=Hid.mk hN
 replace hN16:=Hid.mk hN16
 have bt0:∀ m,buildTreeE Tryz.prog m 54 0 []=some ⟨.tree 0 0 [] true,m,none⟩:=fun m=>buildT_of (el:=5) (sz:=1) (z:=[]) (by kernel_rfl) (by kernel_rfl) (by kernel_rfl) rfl rfl (by decide)
 refine fspec_of_body follows Tryz.func44 (by unfold Tryz.f44;rfl) (by unfold Tryz.f44;simp) once4 (by unfold Tryz.f44;simp) (by kernel_rfl) ?_;unfold Tryz.f44
 simp only [↓pre,simprocAttr,parV,sx,tys44,once4,Option.getD_some,Option.getD_none,bne,postU,postV,allocE,storeE,eq_self,put_at,push_at,Option.map_none,Option.map_some,optNat]
 (first | refine call_plain (slot_Size k r c w) (by first | rfl | simp only [parV,plQ, *]) ?_ | refine call_pure (slot_Size k r c w) (by first | rfl | simp only [parV,plQ, *]) (by intro k;first | rfl | simp only [sq,sr, *]) ?_);simp only [↓pre,simprocAttr,parV,sx,tys44,once4,bne,postU,postV,allocE,storeE,put_at,push_at,Option.map_none,Option.map_some,optNat,hm,hv.len',hb2,hb1,hv.addr',l0,l1,l2,l3,b0,b1,b2,b3,c84,c50,w5,sr]
 refine contW_fixed (by kernel_rfl) ?_
 simp only [↓pre,simprocAttr,parV,sx,tys44,once4,Option.getD_some,Option.getD_none,bne,postU,postV,allocE,storeE,eq_self,put_at,push_at,Option.map_none,Option.map_some,optNat]
 refine contW_fixed (by kernel_rfl) ?_
 simp only [↓pre,simprocAttr,parV,sx,tys44,once4,Option.getD_some,Option.getD_none,bne,postU,postV,allocE,storeE,eq_self,put_at,push_at,Option.map_none,Option.map_some,optNat,hv.slOk,hv.sliceX,s1,nt4]
 (first | refine call_plain (t1) (by first | rfl | simp only [parV,plQ, *]) ?_ | refine call_pure (t1) (by first | rfl | simp only [parV,plQ, *]) (by intro k;first | rfl | simp only [sq,sr, *]) ?_);simp only [↓pre,simprocAttr,parV,sx,tys44,once4,Option.getD_some,Option.getD_none,bne,postU,postV,allocE,storeE,eq_self,put_at,push_at,Option.map_none,Option.map_some,optNat,sh1,sh2,sh3];(first | refine call_plain (t2) (by first | rfl | simp only [parV,plQ, *]) ?_ | refine call_pure (t2) (by first | rfl | simp only [parV,plQ, *]) (by intro k;first | rfl | simp only [sq,sr, *]) ?_);simp only [↓pre,simprocAttr,parV,sx,tys44,once4,Option.getD_some,Option.getD_none,bne,postU,postV,allocE,storeE,eq_self,put_at,push_at,Option.map_none,Option.map_some,optNat,sh1,sh2,sh3]
 rw [codeW_loop]
 refine loop_intro (fun n e m=>∃ i,n+i=N∧e 2 = .tptr 0 [intV k,intV r,intV c,intV w]∧e 4 = .ptr 0 0∧RdSl (e 8) (bs.drop (12+4*i)).length (bytesA (bs.drop (12+4*i))++x)∧0 < m.next∧∃ vv,m.at_ 0=some ⟨[.val (.int .u8 a2.toNat),intV a3.toNat,intV (numAt bs 4),intV (numAt bs 8),vv,nilS],76,.var,true⟩∧Own m 3 1 vv i (intsA (numsI bs i))) N ⟨0,by omega, ?_⟩ ?_
 ·refine ⟨rfl,rfl,by simpa [Env.set] using r3,by simp [put_next,push_next],nilS, ?_,own_nil⟩
  have e9:numAt bs 8=((beN (List.take 4 (List.drop 4 (List.drop 4 bs))):Nat):Int):=by rw [List.drop_drop];rfl
  rw [e9];rfl
 ·rintro n e m ⟨i,hi,e2,e4,r8,hnx,vv,hm0,ho⟩
  by_cases hlt:i < N
  ·have l4:12+4*i+4+C≤bs.length:=by have:=hlen.out;omega
   have g1:((C:Nat):Int) < ((bs.drop (12+4*i)).length:Nat):=by rw [List.length_drop];omega
   obtain ⟨v9,r9,t9⟩:=slot_take (e 8) (bs.drop (12+4*i)) x r8 (by rw [List.length_drop];omega)
   have p8:=r8.plain
   have sh9:=rd_shift r9
   rw [←hC] at g1
   simp only [↓pre,simprocAttr,parV,sx,tys44,once4,Option.getD_some,Option.getD_none,bne,postU,postV,allocE,storeE,eq_self,put_at,push_at,Option.map_none,Option.map_some,optNat,r8.len',e2,e4,g1]
   (first | refine call_plain (t9) (by first | rfl | simp only [parV,plQ, *]) ?_ | refine call_pure (t9) (by first | rfl | simp only [parV,plQ, *]) (by intro k;first | rfl | simp only [sq,sr, *]) ?_);simp only [↓pre,simprocAttr,parV,sx,tys44,once4,Option.getD_some,Option.getD_none,bne,postU,postV,allocE,storeE,eq_self,put_at,push_at,Option.map_none,Option.map_some,optNat,sh9,e4,hm0]
   refine app_keep (sz:=1) (y:=8) (zl:=[.int .i64 0]) (by kernel_rfl) ho (by kernel_rfl) (by kernel_rfl) (by kernel_rfl) rfl srcT1 (by rfl) (by have:=hN16.out;omega) (by have:=hN16.out;omega) ?_
   intro vv' m' ho' hnx' hkeep hbl
   have hm0':=hkeep 0 _ hm0 hnx (ho.ne_kind hm0 (fun h=>by cases h))
   obtain ⟨b',rfl,hb',hlt'⟩:=ho'.sl (by omega)
   simp only [↓pre,simprocAttr,parV,sx,tys44,once4,Option.getD_some,Option.getD_none,bne,postU,postV,allocE,storeE,eq_self,put_at,push_at,Option.map_none,Option.map_some,optNat,e2,e4,hm0']
   refine ⟨n - 1,by omega,i+1,by omega, ?_,by omega,.sl b' 0 (i+1) (i+1) false,rfl, ?_⟩
   ·rw [List.drop_drop] at r9
    exact r9
   ·rw [numsI_succ,intsA_append]
    exact ho'.put_kind hm0' (fun h=>by cases h)
  ·have hiN:i=N:=by omega
   subst hiN
   have hdl:(bs.drop (12+4*i)).length=C:=by have:=hlen.out;rw [List.length_drop];omega
   rw [hdl] at r8
   have g1:¬ ((C:Nat):Int) < ((C:Nat):Int):=by omega
   rw [←hC] at g1
   simp only [↓pre,simprocAttr,parV,sx,tys44,once4,bne,postU,postV,allocE,storeE,put_at,push_at,Option.map_none,Option.map_some,optNat,r8.len',e2,e4,hC.symm,g1,bt0,sr]
   have hsrc:srcE Tryz.prog 5 1 m (e 8)=some (bytesA (bs.drop (12+4*i)),C):=by
    have hq:=r8.src (P:=Tryz.prog) (m:=m) (el:=5) (sz:=1) (by rw [Nat.mul_one,List.length_append];simp [bytesA];have:=hlen.out;omega)
    rw [hq,Nat.mul_one,List.take_left' (by simp [bytesA];have:=hlen.out;omega)]
   rw [app_none (sz:=1) (y:=1) (zl:=[.int .u8 0]) rfl (by kernel_rfl) (by kernel_rfl) (by kernel_rfl) rfl hsrc (by have:=hN16.out;omega) (by have:=hN16.out;omega) (by have:=hN16.out;omega)]
   have h0n:¬ 0=m.next:=by omega
   have h1n:¬ m.next=0:=by omega
   have hbk:=ho.ne_kind hm0 (fun h=>by cases h)
   obtain ⟨b,rfl,hb,hlt⟩:=ho.sl (by have:=hN16.out;omega)
   have hb0:b≠0:=fun h=>hbk (by rw [h];rfl)
   simp only [↓pre,simprocAttr,parV,sx,tys44,once4,Option.getD_some,Option.getD_none,bne,postU,postV,allocE,storeE,eq_self,put_at,push_at,Option.map_none,Option.map_some,optNat,e2,e4,hm0,h0n,h1n]
   generalize hm2:Mem.put _ _ _=m2
   have q0:m2.at_ 0=some ⟨[.val (.int .u8 a2.toNat),intV a3.toNat,intV (numAt bs 4),intV (numAt bs 8),.sl b 0 i i false,.sl m.next 0 C C false],76,.var,true⟩:=by rw [←hm2,put_at,if_pos rfl];rfl
   have q1:m2.at_ b=some ⟨intsA (numsI bs i),3,.flat,true⟩:=by rw [←hm2,put_at,if_neg hb0,push_at,if_neg (by omega)];exact hb
   have q2:m2.at_ m.next=some ⟨bytesA (bs.drop (12+4*i)),5,.flat,true⟩:=by rw [←hm2,put_at,if_neg h1n,push_at,if_pos rfl]
   have hbn:¬ m.next=b:=by omega
   generalize m.next=b2 at *
   have hil:(numsI bs i).length=i:=numsI_len bs i
   refine call_lent (slot_may k r c w a2.toNat a3.toNat (numAt bs 4) (numAt bs 8) (.tree i i (intsA (numsI bs i)) false) (.tree C C (bytesA (bs.drop (12+4*i))) false) (numsI bs i) [] C (bytesA (bs.drop (12+4*i))) ⟨.inr (.inr ⟨i,false,by rw [hil,List.append_nil],by rw [hil];exact Nat.le_refl _⟩)⟩ ⟨.inr (.inr ⟨C,false,rfl,Nat.le_refl _⟩)⟩ (by rw [hil];have:=hN16.out;omega)) (by simp [lends,lend,q1,q2,parV,slotV,intV]) rfl rfl ?_
   rw [←hres]
   cases hms:mayS k r c w a2.toNat a3.toNat (numAt bs 4) (numAt bs 8) (numsI bs i) C
   ·simp only [↓pre,simprocAttr,parV,sx,tys44,once4,bne,postU,postV,allocE,storeE,put_at,push_at,Option.map_none,Option.map_some,optNat,e2,e4,q0,slotV,nilS,sr]
    rfl
   ·have k3:kindT Tryz.prog 3 = .flat:=by kernel_rfl
    have k5:kindT Tryz.prog 5 = .flat:=by kernel_rfl
    have hbn':¬ b=b2:=fun h=>hbn h.symm
    simp only [↓pre,simprocAttr,parV,sx,tys44,once4,bne,postU,postV,allocE,storeE,put_at,push_at,Option.map_none,Option.map_some,optNat,e2,e4,q0,slotV,sr]
    simp only [hb0,h1n,q1,q2,k3,k5,if_false,if_true,Option.bind_some,Option.map_some,List.any_nil,Bool.false_eq_true,ne_eq,not_true_eq_false,or_self,List.any_cons,beq_iff_eq,hbn',hbn,Bool.or_false,List.nil_append,List.drop_zero,beq_eq_false_iff_ne.2 hbn']
    rfl
structure SlotC where
 kd:Int
 ix:Int
 ce:Int
 st:Int
 vec:List Int
 data:List UInt8
def slotC (k r:Int) (bs:List UInt8):SlotC:=⟨(bs.getD 2 0).toNat,(bs.getD 3 0).toNat,numAt bs 4,numAt bs 8,numsI bs (k+r).toNat,bs.drop (12+4*(k+r).toNat)⟩
def SlotC.v (s:SlotC):AV:=slotV s.kd s.ix s.ce s.st (.tree s.vec.length s.vec.length (intsA s.vec) false) (.tree s.data.length s.data.length (bytesA s.data) false)
def maySC (k r c w:Int) (s:SlotC):Bool:=mayS k r c w s.kd s.ix s.ce s.st s.vec s.data.length
def isSlot (k r c w:Int) (bs:List UInt8):Bool:=decide ((bs.length:Int)=sizeI k r c) && (decide (bs[0]? = some 84) && (decide (bs[1]? = some 50) && maySC k r c w (slotC k r bs)))
def parseV (k r c w:Int) (bs:List UInt8):AV:=if mayB k r c w=true∧isSlot k r c w bs=true then .tup [(slotC k r bs).v,boolV true,intV 0] else .tup [slot0,boolV false,intV (if mayB k r c w=false then 2 else if (bs.length:Int)=0 then 0 else if (bs.length:Int)=sizeI k r c then 0 else 100)]
theorem slot_Parse (k r c w:Int) (v:AV) (bs:List UInt8) (x:List AV) (hv:RdSl v bs.length (bytesA bs++x)):FSpec Tryz.prog 44 [parV k r c w,v] ⟨parseV k r c w bs,[]⟩:=by
 cases hm:mayB k r c w with
 | false =>
  have:=slot_Parse_not k r c w v bs x hv hm
  simpa [parseV,hm] using this
 | true =>
  have hmn:=may_n hm
  by_cases hl:(bs.length:Int)=0
  ·have h1:isSlot k r c w bs=false:=by
    have:¬ (bs.length:Int)=sizeI k r c:=by rw [hl];unfold sizeI;omega
    unfold isSlot;rw [decide_eq_false this];rfl
   have:=slot_Parse_nil k r c w v bs x hv hm hl
   simpa [parseV,hm,h1,hl] using this
  ·by_cases hs:(bs.length:Int)=sizeI k r c
   ·have l12:12≤bs.length:=by unfold sizeI at hs;omega
    obtain ⟨a0,h0⟩:∃ a,bs[0]? = some a:=⟨_,List.getElem?_eq_getElem (by omega)⟩
    obtain ⟨a1,h1⟩:∃ a,bs[1]? = some a:=⟨_,List.getElem?_eq_getElem (by omega)⟩
    obtain ⟨a2,h2⟩:∃ a,bs[2]? = some a:=⟨_,List.getElem?_eq_getElem (by omega)⟩
    obtain ⟨a3,h3⟩:∃ a,bs[3]? = some a:=⟨_,List.getElem?_eq_getElem (by omega)⟩
    by_cases hmg:a0=84∧a1=50
    ·obtain ⟨rfl,rfl⟩:=hmg
     have hq:=slot_Parse_main k r c w v bs x hv hm hs h0 h1 h2 h3
     have hvl:(slotC k r bs).vec.length=(k+r).toNat:=numsI_len _ _
     have hdl:(slotC k r bs).data.length=c.toNat:=by simp only [slotC,List.length_drop];unfold sizeI at hs;omega
     have e2:(bs.getD 2 0)=a2:=by rw [List.getD_eq_getElem?_getD,h2];rfl
     have e3:(bs.getD 3 0)=a3:=by rw [List.getD_eq_getElem?_getD,h3];rfl
     have hmay:maySC k r c w (slotC k r bs)=mayS k r c w a2.toNat a3.toNat (numAt bs 4) (numAt bs 8) (numsI bs (k+r).toNat) c.toNat:=by
      unfold maySC;rw [hdl];simp only [slotC,e2,e3]
     have hsl:isSlot k r c w bs=maySC k r c w (slotC k r bs):=by unfold isSlot;rw [decide_eq_true hs,decide_eq_true h0,decide_eq_true h1];rfl
     rw [←hmay] at hq
     cases hb:maySC k r c w (slotC k r bs) with
     | false =>
      rw [hb] at hq
      simpa [parseV,hm,hsl,hb,hl,hs,parseR] using hq
     | true =>
      rw [hb] at hq
      have k3:kindT Tryz.prog 3 = .flat:=by kernel_rfl
      have k5:kindT Tryz.prog 5 = .flat:=by kernel_rfl
      have:=fspec_frozen 1 hq (by simp [parseR,fzOk,fzOks,slotV,intV,boolV,k3,k5])
      have hv2:parseV k r c w bs=fzV Tryz.prog (parseR a2.toNat a3.toNat bs (k+r).toNat c.toNat true).rows 1 (parseR a2.toNat a3.toNat bs (k+r).toNat c.toNat true).v:=by
       unfold parseV
       rw [if_pos ⟨hm,by rw [hsl,hb]⟩]
       simp [parseR,fzV,fzVs,slotV,intV,boolV,k3,k5,SlotC.v,hvl,hdl]
       simp [slotC,h2,h3]
      rw [hv2]
      exact this
    ·have hne:¬ ((a0.toNat:Int)=84∧(a1.toNat:Int)=50):=by
      rintro ⟨h3,h4⟩
      exact hmg ⟨UInt8.toNat_inj.1 (by simp;omega),UInt8.toNat_inj.1 (by simp;omega)⟩
     have hsl:isSlot k r c w bs=false:=by
      unfold isSlot
      rw [h0,h1]
      by_cases h5:a0=84
      ·have h6:¬ a1=50:=fun h=>hmg ⟨h5,h⟩
       simp [h6]
      ·simp [h5]
     have:=slot_Parse_magic k r c w v bs x hv hm hs h0 h1 hne
     simpa [parseV,hm,hsl,hl,hs] using this
   ·have h1:isSlot k r c w bs=false:=by unfold isSlot;rw [decide_eq_false hs];rfl
    have:=slot_Parse_len k r c w v bs x hv hm hl hs
    have hne:bs≠[]:=by rintro rfl;exact hl rfl
    simpa [parseV,hm,h1,hne,hs] using this

theorem me0:Mem.empty.next=0:=rfl
def isOf (k r c w:Int) (bs:List UInt8) (ix:Int):Bool:=isSlot k r c w bs && decide ((slotC k r bs).ix=ix)
def lenB (k r c:Int) (n:Nat):Bool:=decide ((n:Int)=0) || decide ((n:Int)=sizeI k r c)
def pairB (k r c:Int) (n n':Nat):Bool:=lenB k r c n && lenB k r c n'
abbrev PairB:=List UInt8×List UInt8
structure RowV (v:AV) (ps:List PairB) (cells:List AV):Prop where
 rd:RdSl v ps.length cells
 at_:∀ i p,ps[i]? = some p→∃ a b xa xb,cells[i*2]? = some a∧cells[i*2+1]? = some b∧RdSl a p.1.length (bytesA p.1++xa)∧RdSl b p.2.length (bytesA p.2++xb)
theorem take2 {cells:List AV} {i:Nat} {a b:AV} (h:cells[i]? = some a) (h':cells[i+1]? = some b):(cells.drop i).take 2=[a,b]∧i+2≤cells.length:=by
 have h1:=(List.getElem?_eq_some_iff.1 h')
 obtain ⟨h1,h2⟩:=h1
 obtain ⟨h3,h4⟩:=List.getElem?_eq_some_iff.1 h
 refine ⟨?_,by omega⟩
 rw [List.drop_eq_getElem_cons h3,List.drop_eq_getElem_cons h1,h4,h2]
 rfl
def rowB (k r c:Int) (ps:List PairB):Bool:=decide ((ps.length:Int)=k+r) && ps.all (fun p=>pairB k r c p.1.length p.2.length)
def chkI (k r c w:Int) (ps:List PairB):Int:=if mayB k r c w=true then (if rowB k r c ps=true then 0 else 120) else 2
def heldB (k r c w:Int) (bs:List UInt8) (ix:Int):Bool:=isOf k r c w bs ix && (decide ((slotC k r bs).kd=2) && (slotC k r bs).vec.all (fun n=>decide (n=(slotC k r bs).ce)))
def heldI (k r c w:Int) (bs:List UInt8) (ix:Int):Int:=if heldB k r c w bs ix=true then (slotC k r bs).ce else 0
def heldsP (k r c w:Int) (ps:List PairB):List (Int×Int):=ps.mapIdx fun i p=>(heldI k r c w p.1 i,heldI k r c w p.2 i)
def inH (hs:List (Int×Int)) (v:Int):Prop:=∃ (i:Nat) (x:Int×Int),hs[i]? = some x∧(x.1=v∨x.2=v)
def holdsAt (hs:List (Int×Int)) (i:Nat) (v:Int):Bool:=match hs[i]? with
 | some x=>decide (x.1=v) || decide (x.2=v)
 | none=>false
def cellsN (hs:List (Int×Int)) (v:Int) (n:Nat):List Int:=(List.range n).filterMap fun i=>if holdsAt hs i v=true then some (i:Int) else none
theorem cellsN_succ (hs:List (Int×Int)) (v:Int) (n:Nat):cellsN hs v (n+1)=cellsN hs v n++(if holdsAt hs n v=true then [(n:Int)] else []):=by
 unfold cellsN
 rw [List.range_succ,List.filterMap_append]
 cases h:holdsAt hs n v <;> simp [h]
theorem cellsN_le (hs:List (Int×Int)) (v:Int) (n:Nat):(cellsN hs v n).length≤n:=by
 have:=List.length_filterMap_le (fun i:Nat=>if holdsAt hs i v=true then some (i:Int) else none) (List.range n)
 rw [List.length_range] at this
 exact this
structure Falls (hs:List (Int×Int)) (top:Int) (T:List Int):Prop where
 pw:T.Pairwise (· > ·)
 mem:∀ v,v∈T↔0 < v∧top≤v∧inH hs v
theorem falls_one {hs:List (Int×Int)} {top:Int}:∀ {T T':List Int},T.Pairwise (· > ·)→T'.Pairwise (· > ·)→(∀ v,v∈T↔v∈T')→T=T'
 | [],[],_,_,_=>rfl
 | [],b::T',_,_,h=>by have:=(h b).2 (by simp);cases this
 | a::T,[],_,_,h=>by have:=(h a).1 (by simp);cases this
 | a::T,b::T',h1,h2,h=>by
  rw [List.pairwise_cons] at h1 h2
  have hab:a=b:=by
   have ha:=(h a).1 (by simp)
   have hb:=(h b).2 (by simp)
   rw [List.mem_cons] at ha hb
   rcases ha with ha | ha
   ·exact ha
   ·rcases hb with hb | hb
    ·exact hb.symm
    ·have:=h1.1 b hb
     have:=h2.1 a ha
     omega
  subst hab
  rw [falls_one (hs:=hs) (top:=top) h1.2 h2.2 fun v => ?_]
  have:=h v
  rw [List.mem_cons,List.mem_cons] at this
  constructor
  ·intro hv
   rcases this.1 (.inr hv) with h3 | h3
   ·have:=h1.1 v hv;omega
   ·exact h3
  ·intro hv
   rcases this.2 (.inr hv) with h3 | h3
   ·have:=h2.1 v hv;omega
   ·exact h3
def insF (v:Int):List Int→List Int
 | []=>[v]
 | a::l=>if a < v then v::a::l else if v < a then a::insF v l else a::l
theorem insF_mem (v:Int):∀ (l:List Int) (x:Int),x∈insF v l↔x=v∨x∈l
 | [],x=>by simp [insF]
 | a::l,x=>by
  unfold insF
  split
  ·simp
  ·split
   ·simp only [List.mem_cons,insF_mem v l x]
    constructor
    ·rintro (h | h | h) <;> simp [h]
    ·rintro (h | h | h) <;> simp [h]
   ·rename_i h1 h2
    have:v=a:=by omega
    subst this
    simp
theorem insF_pw (v:Int):∀ (l:List Int),l.Pairwise (· > ·)→(insF v l).Pairwise (· > ·)
 | [],_=>List.pairwise_singleton _ _
 | a::l,h=>by
  unfold insF
  split
  ·rename_i h1
   rw [List.pairwise_cons]
   refine ⟨fun x hx => ?_,h⟩
   rw [List.mem_cons] at hx
   rcases hx with rfl | hx
   ·exact h1
   ·have:=(List.pairwise_cons.1 h).1 x hx;omega
  ·split
   ·rename_i h1 h2
    rw [List.pairwise_cons] at h ⊢
    refine ⟨fun x hx => ?_,insF_pw v l h.2⟩
    rw [insF_mem] at hx
    rcases hx with rfl | hx
    ·exact h2
    ·exact h.1 x hx
   ·exact h
def versF (hs:List (Int×Int)):List Int:=hs.foldr (fun x l=>(if 0 < x.1 then insF x.1 else id) ((if 0 < x.2 then insF x.2 else id) l)) []
theorem versF_falls:∀ (hs:List (Int×Int)),Falls hs 1 (versF hs)
 | []=>⟨.nil,fun v=>⟨fun h=>(by cases h),fun ⟨_,_,i,x,h,_⟩=>by simp at h⟩⟩
 | x::hs=>by
  have ih:=versF_falls hs
  have e:versF (x::hs)=(if 0 < x.1 then insF x.1 else id) ((if 0 < x.2 then insF x.2 else id) (versF hs)):=rfl
  have hin:∀ v,inH (x::hs) v↔(x.1=v∨x.2=v)∨inH hs v:=by
   intro v
   constructor
   ·rintro ⟨i,y,h,h2⟩
    cases i with
    | zero=>simp at h;subst h;exact .inl h2
    | succ i=>exact .inr ⟨i,y,by simpa using h,h2⟩
   ·rintro (h | ⟨i,y,h,h2⟩)
    ·exact ⟨0,x,rfl,h⟩
    ·exact ⟨i+1,y,by simpa using h,h2⟩
  have one:∀ (z:Int) (l:List Int),l.Pairwise (· > ·)→(((if 0 < z then insF z else id) l).Pairwise (· > ·))∧∀ v,v∈(if 0 < z then insF z else id) l↔(0 < z∧v=z)∨v∈l:=by
   intro z l hl
   split
   ·rename_i hz;exact ⟨insF_pw z l hl,fun v=>by rw [insF_mem];simp [hz]⟩
   ·rename_i hz;exact ⟨hl,fun v=>by simp [hz]⟩
  rw [e]
  obtain ⟨p1,m1⟩:=one x.2 _ ih.pw
  obtain ⟨p2,m2⟩:=one x.1 _ p1
  refine ⟨p2,fun v => ?_⟩
  rw [m2,m1,ih.mem,hin]
  constructor
  ·rintro (⟨h1,rfl⟩ | ⟨h1,rfl⟩ | h1)
   ·exact ⟨h1,by omega,.inl (.inl rfl)⟩
   ·exact ⟨h1,by omega,.inl (.inr rfl)⟩
   ·exact ⟨h1.1,h1.2.1,.inr h1.2.2⟩
  ·rintro ⟨h1,h2,(h3 | h3) | h3⟩
   ·exact .inl ⟨by omega,h3.symm⟩
   ·exact .inr (.inl ⟨by omega,h3.symm⟩)
   ·exact .inr (.inr ⟨h1,h2,h3⟩)
theorem falls_vers {hs:List (Int×Int)} {T:List Int} (h:Falls hs 1 T):T=versF hs:=falls_one (hs:=hs) (top:=1) h.pw (versF_falls hs).pw fun v=>by rw [h.mem,(versF_falls hs).mem]
def tCell (hs:List (Int×Int)) (v:Int):AV:=treeR (cellsN hs v hs.length).length (intsA (cellsN hs v hs.length))
def tCells (hs:List (Int×Int)) (T:List Int):List AV:=T.flatMap fun v=>[intV v,tCell hs v]
theorem tCells_at (hs:List (Int×Int)):∀ (T:List Int) (i:Nat) (v:Int),T[i]? = some v→(tCells hs T)[i*2]? = some (intV v)∧(tCells hs T)[i*2+1]? = some (tCell hs v)
 | [],i,v,h=>by simp at h
 | a::T,0,v,h=>by
  simp at h;subst h
  exact ⟨rfl,rfl⟩
 | a::T,i+1,v,h=>by
  have ih:=tCells_at hs T i v (by simpa using h)
  have e:tCells hs (a::T)=intV a::tCell hs a::tCells hs T:=rfl
  rw [e,show (i+1)*2=i*2+1+1 by omega]
  simpa using ih
theorem vec_le {k r c w:Int} {l:List Int} (h:vecE k r c w l=0):∀ n∈l,1≤n∧n≤1073741824:=by
 unfold vecE at h
 split at h
 ·split at h
  ·split at h
   ·omega
   ·rename_i ha
    intro n hn
    have h2:verB n=true:=by
     cases hq:verB n with
     | true=>rfl
     | false=>exact absurd (List.any_eq_true.2 ⟨n,hn,by simp [hq]⟩) ha
    simpa [verB] using h2
  ·omega
 ·omega
theorem held_le (k r c w:Int) (bs:List UInt8) (ix:Int):heldI k r c w bs ix=0∨(1≤heldI k r c w bs ix∧heldI k r c w bs ix≤1073741824):=by
 unfold heldI
 split
 ·rename_i h
  right
  unfold heldB isOf isSlot maySC mayS at h
  simp only [Bool.and_eq_true,decide_eq_true_eq] at h
  obtain ⟨⟨⟨_,_,_,h1,h2,h3,h4,h5,h6⟩,_⟩,_⟩:=h
  exact vec_le h1 _ (List.mem_of_getElem? h5)
 ·exact .inl rfl
theorem helds_at {k r c w:Int} {ps:List PairB} {i:Nat} {p:PairB} (h:ps[i]? = some p):(heldsP k r c w ps)[i]? = some (heldI k r c w p.1 i,heldI k r c w p.2 i):=by
 unfold heldsP
 rw [List.getElem?_mapIdx,h]
 rfl
theorem helds_len (k r c w:Int) (ps:List PairB):(heldsP k r c w ps).length=ps.length:=by simp [heldsP]
theorem helds_lt {k r c w:Int} {ps:List PairB}:∀ v,inH (heldsP k r c w ps) v→v < 1073741825:=by
 rintro v ⟨i,x,hx,hh⟩
 have hl:=(List.getElem?_eq_some_iff.1 hx).1
 rw [helds_len] at hl
 have:=helds_at (k:=k) (r:=r) (c:=c) (w:=w) (List.getElem?_eq_getElem hl)
 rw [this] at hx
 cases hx
 have h1:=held_le k r c w (ps[i].1) i
 have h2:=held_le k r c w (ps[i].2) i
 simp only at hh
 rcases hh with rfl | rfl <;> omega
theorem holds_at {k r c w:Int} {ps:List PairB} {i:Nat} {p:PairB} (h:ps[i]? = some p) (v:Int):holdsAt (heldsP k r c w ps) i v=(decide (heldI k r c w p.1 i=v) || decide (heldI k r c w p.2 i=v)):=by
 unfold holdsAt
 rw [helds_at h]

def flatH (hs:List (Int×Int)):List Int:=hs.flatMap fun x=>[x.1,x.2]
theorem flatH_len (hs:List (Int×Int)):(flatH hs).length=hs.length*2:=by
 induction hs with
 | nil=>rfl
 | cons a hs ih=>simp only [flatH,List.flatMap_cons,List.length_append,List.length_cons,List.length_nil] at ih ⊢;omega
theorem flatH_at:∀ (hs:List (Int×Int)) (i:Nat) (x:Int×Int),hs[i]? = some x→(flatH hs)[i*2]? = some x.1∧(flatH hs)[i*2+1]? = some x.2
 | [],i,x,h=>by simp at h
 | a::hs,0,x,h=>by simp at h;subst h;exact ⟨rfl,rfl⟩
 | a::hs,i+1,x,h=>by
  have ih:=flatH_at hs i x (by simpa using h)
  have e:flatH (a::hs)=a.1::a.2::flatH hs:=rfl
  rw [e,show (i+1)*2=i*2+1+1 by omega]
  simpa using ih
def fillC (l:List Int) (p:Nat):List AV:=intsA (l.take p)++List.replicate (l.length - p) (.val (.int .i64 0))
theorem fillC_len (l:List Int) (p:Nat) (h:p≤l.length):(fillC l p).length=l.length:=by simp [fillC,intsA];omega
theorem fillC_zero (l:List Int) (p:Nat) (h:l[p]? = some 0):fillC l (p+1)=fillC l p:=by
 have hl:=(List.getElem?_eq_some_iff.1 h).1
 unfold fillC
 rw [List.take_add_one,h]
 simp only [Option.toList_some,intsA,List.map_append,List.map_cons,List.map_nil,List.append_assoc]
 rw [show l.length - p=(l.length - (p+1))+1 by omega,List.replicate_succ]
 rfl
theorem fillC_put (l:List Int) (p:Nat) (z:Int) (h:l[p]? = some z):splice (fillC l p) p [.val (.int .i64 z)]=fillC l (p+1):=by
 have hl:=(List.getElem?_eq_some_iff.1 h).1
 have h1:(intsA (l.take p)).length=p:=by simp [intsA];omega
 unfold splice fillC
 rw [List.take_left' h1,List.take_add_one,h]
 rw [List.drop_append,List.drop_of_length_le (by rw [h1];omega),h1]
 simp only [Option.toList_some,intsA,List.map_append,List.map_cons,List.map_nil,List.nil_append,List.length_cons,List.length_nil,List.drop_replicate]
 rw [show l.length - p - (p+(0+1) - p)=l.length - (p+1) by omega]
 rfl
theorem fillC_full (l:List Int):fillC l l.length=intsA l:=by simp [fillC]
theorem zeros_two (n:Nat):zerosE Tryz.prog 113 n=some (List.replicate (n*2) (.val (.int .i64 0))):=by
 have h1:szE Tryz.prog 113=some 2:=by kernel_rfl
 have h2:zeroE Tryz.prog 113=some [.int .i64 0,.int .i64 0]:=by kernel_rfl
 by_cases h:n*2=0
 ·have:n=0:=by omega
  subst this;simp [zerosE,h1]
 ·simp only [zerosE,h1,Option.bind_some,h2,if_neg h]
  rw [if_pos (show [Value.int .i64 0,Value.int .i64 0].length=2 from rfl)]
  congr 1
  apply List.ext_getElem
  ·simp
  ·intro i h1 h2
   simp only [List.getElem_map,List.getElem_range,List.getElem_replicate]
   have:i % 2=0∨i % 2=1:=by omega
   rcases this with e | e <;> rw [e] <;> rfl
theorem make_two (m:Mem) (n:Nat) (hn:n≤1000000):makeE Tryz.prog m 109 n n=some ⟨.sl m.next 0 n n true,m.push ⟨List.replicate (n*2) (.val (.int .i64 0)),113,.flat,true⟩,none⟩:=by
 have h1:elE Tryz.prog 109=some 113:=by kernel_rfl
 have h2:szE Tryz.prog 113=some 2:=by kernel_rfl
 have h3:byE Tryz.prog 113=some 16:=by kernel_rfl
 have h4:kindT Tryz.prog 113 = .flat:=by kernel_rfl
 simp only [makeE,h1,h2,h3,h4,zeros_two,Option.bind_some]
 rw [if_pos (by omega)]
 simp [outV]
def heldR (k r c w:Int) (ps:List PairB):Res:=if chkI k r c w ps=0 then ⟨.tup [.sl 0 0 ps.length ps.length true,intV 0],[(113,intsA (flatH (heldsP k r c w ps)))]⟩ else ⟨.tup [nilS,intV (chkI k r c w ps)],[]⟩
def heldV (k r c w:Int) (ps:List PairB):AV:=if chkI k r c w ps=0 then .tup [.tree ps.length ps.length (intsA (flatH (heldsP k r c w ps))) true,intV 0] else .tup [nilS,intV (chkI k r c w ps)]
theorem census_held_own (k r c w:Int) (v:AV) (ps:List PairB) (cells:List AV) (hv:RowV v ps cells):FSpec Tryz.prog 63 [parV k r c w,v] (heldR k r c w ps):=by
 have hp:=hv.rd.plain
 have hd:=layout_Drives k r c w
 cases hm:mayB k r c w with
 | false =>
  have hc:chkI k r c w ps=2:=by unfold chkI;rw [hm];rfl
  unfold heldR
  rw [hc,if_neg (by decide)]
  simp only [hm,Bool.false_eq_true,if_false] at hd
  refine fspec_of_body follows Tryz.func63 (by unfold Tryz.f63;rfl) (by unfold Tryz.f63;simp) onceA (by unfold Tryz.f63;simp) (by kernel_rfl) ?_;unfold Tryz.f63
  simp only [↓pre,simprocAttr,parV,sx,tys63,onceA,postU]
  (first | refine call_plain (hd) (by first | rfl | simp only [parV,plQ, *]) ?_ | refine call_pure (hd) (by first | rfl | simp only [parV,plQ, *]) (by intro k;first | rfl | simp only [sq,sr, *]) ?_);simp only [↓pre,simprocAttr,parV,sx,tys63,onceA,postU,nilS]
 | true =>
  have hmn:=may_n hm
  simp only [hm,if_true] at hd
  by_cases hl:(ps.length:Int)=k+r
  ·obtain ⟨N,hN⟩:∃ N:Nat,k+r=(N:Int):=⟨(k+r).toNat,by omega⟩
   have hpn:ps.length=N:=by omega
   have hN16:N≤16:=by omega
   have hlF:(flatH (heldsP k r c w ps)).length=N*2:=by rw [flatH_len,helds_len,hpn]
   have hmk:=make_two Mem.empty N (by omega)
   have f0:List.replicate (N*2) (AV.val (.int .i64 0))=fillC (flatH (heldsP k r c w ps)) 0:=by simp [fillC,hlF,intsA]
   rw [f0] at hmk
   generalize hhs:heldsP k r c w ps=hs at *
   generalize hres:heldR k r c w ps=res
   replace hhs:=Hid.mk hhs
   replace hmn:=Hid.mk hmn
   replace hN16:=Hid.mk hN16
   replace hpn:=Hid.mk hpn
   replace hres:=Hid.mk hres
   refine fspec_of_body follows Tryz.func63 (by unfold Tryz.f63;rfl) (by unfold Tryz.f63;simp) onceA (by unfold Tryz.f63;simp) (by kernel_rfl) ?_;unfold Tryz.f63
   simp only [↓pre,simprocAttr,parV,sx,tys63,onceA,postU]
   (first | refine call_plain (hd) (by first | rfl | simp only [parV,plQ, *]) ?_ | refine call_pure (hd) (by first | rfl | simp only [parV,plQ, *]) (by intro k;first | rfl | simp only [sq,sr, *]) ?_);simp only [↓pre,simprocAttr,parV,sx,tys63,onceA,postU,hv.rd.len',hl,hN,hmk]
   rw [codeW_loop]
   refine loop_intro (fun q e m=>∃ i,q+i=N∧e 2 = .tptr 0 [intV k,intV r,intV c,intV w]∧e 8 = .sl 0 0 N N true∧e 30=v∧e 31=intV (N:Nat)∧e 32=intV (i:Nat)∧m.at_ 0=some ⟨fillC (flatH hs) (i*2),113,.flat,true⟩∧Hid (0 < m.next∧∀ j p,j < i→ps[j]? = some p→pairB k r c p.1.length p.2.length=true)) N ⟨0,by omega,rfl,rfl,rfl,rfl,rfl,rfl,⟨Nat.lt_succ_self 0,fun j p h=>by omega⟩⟩ ?_
   rintro q e m ⟨i,hqi,e2,e8,e30,e31,e32,hm0,hJ⟩
   have hb0:¬ 0=m.next:=by have:=hJ.out.1;omega
   replace hqi:=Hid.mk hqi
   by_cases hlt:i < N
   ·have hlt':((i:Nat):Int) < ((N:Nat):Int):=by omega
    have hltp:i < ps.length:=by have:=hpn.out;omega
    have hltL:i < ps.length:=hltp
    obtain ⟨p,hpi⟩:∃ p,ps[i]? = some p:=⟨_,List.getElem?_eq_getElem hltp⟩
    obtain ⟨ua,ub,xa,xb,ha,hub,hra,hrb⟩:=hv.at_ i p hpi
    obtain ⟨ht,htl⟩:=take2 ha hub
    have hsi:=helds_at (k:=k) (r:=r) (c:=c) (w:=w) hpi
    rw [hhs.out] at hsi
    obtain ⟨hF1,hF2⟩:=flatH_at _ _ _ hsi
    have w1:=wrap_succ (n:=i) (by have:=hN16.out;omega)
    have f1:=rd_fz hra
    have f2:=rd_fz hrb
    have o1:=rd_one hra
    have o2:=rd_one hrb
    replace hpi:=Hid.mk hpi
    replace hsi:=Hid.mk hsi
    replace hltL:=Hid.mk hltL
    simp only [↓pre,simprocAttr,parV,sx,tys63,onceA,postU,postA,allocE,storeE,eq_self,put_at,push_at,Nat.mul_one,hb0,e2,e8,e30,e31,e32,hlt',hv.rd.addr',hltp,ht,htl,f1,f2,o1,o2]
    rw [codeW_loop]
    refine loop_intro (fun q e m=>∃ kk,q+kk=2∧e 2 = .tptr 0 [intV k,intV r,intV c,intV w]∧e 8 = .sl 0 0 N N true∧e 9=intV (i:Nat)∧e 30=v∧e 31=intV (N:Nat)∧e 32=intV (i:Nat)∧e 37 = .agg [ua,ub]∧e 38=intV (kk:Nat)∧m.at_ 0=some ⟨fillC (flatH hs) (i*2+kk),113,.flat,true⟩∧Hid (0 < m.next∧(1≤kk→lenB k r c p.1.length=true)∧(2≤kk→lenB k r c p.2.length=true))) 2 ⟨0,by omega,e2,e8,rfl,e30,e31,e32,rfl,rfl, ?_,⟨?_,by omega,by omega⟩⟩ ?_
    ·rw [put_at,if_neg hb0,push_at,if_neg hb0]
     exact hm0
    ·rw [put_next,push_next];omega
    rintro q2 e m2 ⟨kk,hqk,e2,e8,e9,e30,e31,e32,e37,e38,hm0,hJ2⟩
    replace hqk:=Hid.mk hqk
    have hb0:¬ 0=m2.next:=by have:=hJ2.out.1;omega
    by_cases hkk:kk < 2
    ·have hkk':((kk:Nat):Int) < 2:=by omega
     have w2:=wrap_succ (n:=kk) (by omega)
     obtain ⟨u,bu,xu,z,hu,hru,hz,hFz,hlb⟩:∃ u bu xu z,[ua,ub][kk]? = some u∧RdSl u bu.length (bytesA bu++xu)∧heldI k r c w bu i=z∧(flatH hs)[i*2+kk]? = some z∧bu=(if kk=0 then p.1 else p.2):=by
      match kk,hkk with
      | 0,_=>exact ⟨ua,p.1,xa,_,rfl,hra,rfl,hF1,rfl⟩
      | 1,_=>exact ⟨ub,p.2,xb,_,rfl,hrb,rfl,hF2,rfl⟩
     have ou:=rd_one hru
     have pu:=hru.plain
     have hpar:=slot_Parse k r c w u bu xu hru
     have hFp:=fillC_put _ _ _ hFz
     have hF0:=fillC_zero (flatH hs) (i*2+kk)
     have hfl:=fillC_len (flatH hs) (i*2+kk) (by have:=(List.getElem?_eq_some_iff.1 hFz).1;omega)
     replace hlb:=Hid.mk hlb
     replace hz:=Hid.mk hz
     replace hFz:=Hid.mk hFz
     replace hF0:=Hid.mk hF0
     have lbF:lenB k r c bu.length=true→(1≤kk+1→lenB k r c p.1.length=true)∧(2≤kk+1→lenB k r c p.2.length=true):=by
      intro h
      have h1:=hlb.out
      constructor
      ·intro _
       by_cases h0:kk=0
       ·rw [if_pos h0] at h1;rw [←h1];exact h
       ·exact hJ2.out.2.1 (by omega)
      ·intro h2
       rw [if_neg (by omega)] at h1;rw [←h1];exact h
     replace lbF:=Hid.mk lbF
     cases hsl:isSlot k r c w bu with
     | false =>
      have hz0:z=0:=by
       rw [←hz.out]
       unfold heldI heldB isOf
       rw [hsl];rfl
      subst hz0
      cases hlB:lenB k r c bu.length with
      | false =>
       have hpv:parseV k r c w bu = .tup [slot0,boolV false,intV 100]:=by
        unfold lenB at hlB
        simp only [Bool.or_eq_false_iff,decide_eq_false_iff_not] at hlB
        unfold parseV
        rw [hsl,hm,if_neg (by rintro ⟨_,h⟩;cases h),if_neg (by decide),if_neg hlB.1,if_neg hlB.2]
       have hrf:rowB k r c ps=false:=by
        have:pairB k r c p.1.length p.2.length=false:=by
         unfold pairB
         have h1:=hlb.out
         split at h1
         ·rw [←h1,hlB];rfl
         ·rw [←h1,hlB,Bool.and_false]
        unfold rowB
        rw [Bool.and_eq_false_iff]
        right
        rw [List.all_eq_false]
        exact ⟨p,List.mem_of_getElem? hpi.out,by rw [this];decide⟩
       have hck:chkI k r c w ps=120:=by unfold chkI;rw [hm,hrf];rfl
       have hrs:res=⟨.tup [nilS,intV 120],[]⟩:=by
        rw [←hres.out]
        unfold heldR
        rw [hck,if_neg (by decide)]
       rw [hpv] at hpar
       unfold slot0 slotV at hpar
       simp only [↓pre,simprocAttr,parV,sx,tys63,onceA,postU,postA,allocE,storeE,eq_self,put_at,push_at,Nat.mul_one,hb0,e2,e8,e9,e30,e31,e32,e37,e38,hkk',hkk,hu]
       (first | refine call_plain (hpar) (by first | rfl | simp only [parV,plQ, *]) ?_ | refine call_pure (hpar) (by first | rfl | simp only [parV,plQ, *]) (by intro k;first | rfl | simp only [sq,sr, *]) ?_);simp only [↓pre,simprocAttr,parV,sx,tys63,onceA,postU,postA,allocE,storeE,eq_self,put_at,push_at,Nat.mul_one,hb0,e2,e8,e9,e30,e31,e32,e37,e38,boolV,nilS]
       rw [hrs];rfl
      | true =>
       have hpv:parseV k r c w bu = .tup [slot0,boolV false,intV 0]:=by
        unfold lenB at hlB
        simp only [Bool.or_eq_true,decide_eq_true_eq] at hlB
        unfold parseV
        rw [hsl,hm,if_neg (by rintro ⟨_,h⟩;cases h),if_neg (by decide)]
        rcases hlB with h | h
        ·rw [if_pos h]
        ·split
         ·rfl
         ·first | rfl | rw [if_pos h]
       obtain ⟨hl1,hl2⟩:=lbF.out hlB
       replace hl1:=Hid.mk hl1
       replace hl2:=Hid.mk hl2
       rw [hpv] at hpar
       unfold slot0 slotV at hpar
       simp only [↓pre,simprocAttr,parV,sx,tys63,onceA,postU,postA,allocE,storeE,eq_self,put_at,push_at,Nat.mul_one,hb0,e2,e8,e9,e30,e31,e32,e37,e38,hkk',hkk,hu]
       (first | refine call_plain (hpar) (by first | rfl | simp only [parV,plQ, *]) ?_ | refine call_pure (hpar) (by first | rfl | simp only [parV,plQ, *]) (by intro k;first | rfl | simp only [sq,sr, *]) ?_);simp only [↓pre,simprocAttr,parV,sx,tys63,onceA,postU,postA,allocE,storeE,eq_self,put_at,push_at,Nat.mul_one,hb0,e2,e8,e9,e30,e31,e32,e37,e38,boolV,nilS,w2]
       exact ⟨q2 - 1,by have:=hqk.out;omega,kk+1,by have:=hqk.out;omega,rfl,by rw [←Nat.add_assoc,hF0.out hFz.out];exact hm0,⟨by omega,hl1.out,hl2.out⟩⟩
     | true =>
      have hlB:lenB k r c bu.length=true:=by
       unfold isSlot at hsl
       simp only [Bool.and_eq_true] at hsl
       unfold lenB
       rw [hsl.1,Bool.or_true]
      obtain ⟨hl1,hl2⟩:=lbF.out hlB
      replace hl1:=Hid.mk hl1
      replace hl2:=Hid.mk hl2
      have hpv:parseV k r c w bu = .tup [(slotC k r bu).v,boolV true,intV 0]:=by
       unfold parseV
       rw [if_pos ⟨hm,hsl⟩]
      rw [hpv] at hpar
      have hz2:z=if (decide ((slotC k r bu).ix=(i:Int)) && (decide ((slotC k r bu).kd=2) && (slotC k r bu).vec.all (fun n=>decide (n=(slotC k r bu).ce))))=true then (slotC k r bu).ce else 0:=by
       rw [←hz.out]
       unfold heldI heldB isOf
       rw [hsl,Bool.true_and]
      have hvl:(slotC k r bu).vec.length≤16:=by have h1:=numsI_len bu (k+r).toNat;have:=hmn.out;simp only [slotC];omega
      generalize slotC k r bu=s at *
      have hvv:RdSl (.tree s.vec.length s.vec.length (intsA s.vec) false) s.vec.length (intsA s.vec++[]):=⟨.inr (.inr ⟨_,false,by rw [List.append_nil],Nat.le_refl _⟩)⟩
      have hcf:=contains_func _ s.vec [] 93 [.tptr 0 [.val (.int .u8 s.kd),intV s.ix,intV s.ce,intV s.st,.tree s.vec.length s.vec.length (intsA s.vec) false,.tree s.data.length s.data.length (bytesA s.data) false]] (fun n => !decide (n=s.ce)) hvv (by omega) rfl (fun n _=>census_held1 n s.kd s.ix s.ce s.st _ _)
      unfold SlotC.v slotV at hpar
      by_cases hkd:s.kd=2
      ·by_cases hix:s.ix=(i:Int)
       ·cases hall:s.vec.all (fun n=>decide (n=s.ce)) with
        | true =>
         have hany:s.vec.any (fun n => !decide (n=s.ce))=false:=by
          rw [List.any_eq_false]
          intro n hn
          have:=List.all_eq_true.1 hall n hn
          rw [this];decide
         have hzc:z=s.ce:=by rw [hz2,decide_eq_true hix,decide_eq_true hkd,hall];rfl
         rw [hany] at hcf
         replace hz2:=Hid.mk hz2
         replace hall:=Hid.mk hall
         replace hany:=Hid.mk hany
         rw [hzc] at hFp
         replace hzc:=Hid.mk hzc
         simp only [↓pre,simprocAttr,parV,sx,tys63,onceA,postU,postA,allocE,storeE,eq_self,put_at,push_at,Nat.mul_one,hb0,e2,e8,e9,e30,e31,e32,e37,e38,hkk',hkk,hu]
         rw [hkd,hix] at hpar hcf
         have hpl:i*2+kk+1≤(flatH hs).length:=(List.getElem?_eq_some_iff.1 hFz.out).1
         (first | refine call_plain (hpar) (by first | rfl | simp only [parV,plQ, *]) ?_ | refine call_pure (hpar) (by first | rfl | simp only [parV,plQ, *]) (by intro k;first | rfl | simp only [sq,sr, *]) ?_);simp only [↓pre,simprocAttr,parV,sx,tys63,onceA,postU,postA,allocE,storeE,eq_self,put_at,push_at,Nat.mul_one,hb0,e2,e8,e9,e30,e31,e32,e37,e38,boolV,nilS,w2,Array.size_empty,List.size_toArray];(first | refine call_plain (hcf) (by first | rfl | simp only [parV,plQ, *]) ?_ | refine call_pure (hcf) (by first | rfl | simp only [parV,plQ, *]) (by intro k;first | rfl | simp only [sq,sr, *]) ?_);simp only [↓pre,simprocAttr,parV,sx,tys63,onceA,postU,postA,allocE,storeE,eq_self,put_at,push_at,Nat.mul_one,hb0,e2,e8,e9,e30,e31,e32,e37,e38,boolV,nilS,w2,Array.size_empty,List.size_toArray]
         simp only [↓pre,simprocAttr,parV,sx,tys63,onceA,postU,postA,allocE,storeE,eq_self,put_at,push_at,Nat.mul_one,hb0,e2,e8,e9,e30,e31,e32,e37,e38,boolV,nilS,w2,hlt,hkk,hm0,hfl,hpl]
         refine contW_fixed (by kernel_rfl) ?_
         simp only [↓pre,simprocAttr,parV,sx,tys63,onceA,postU,postA,allocE,storeE,eq_self,put_at,push_at,Nat.mul_one,hb0,e2,e8,e9,e30,e31,e32,e37,e38,boolV,nilS,w2,hlt,hkk,hm0,hfl,hpl]
         refine ⟨q2 - 1,by have:=hqk.out;omega,kk+1,by have:=hqk.out;omega,rfl, ?_,⟨by omega,hl1.out,hl2.out⟩⟩
         rw [←Nat.add_assoc,←hFp]
         rfl
        | false =>
         have hany:s.vec.any (fun n => !decide (n=s.ce))=true:=by
          rw [List.all_eq_false] at hall
          obtain ⟨n,hn,h⟩:=hall
          rw [List.any_eq_true]
          exact ⟨n,hn,by simpa using h⟩
         have hzc:z=0:=by rw [hz2,hall];simp
         rw [hany] at hcf
         subst hzc
         replace hz2:=Hid.mk hz2
         replace hall:=Hid.mk hall
         replace hany:=Hid.mk hany
         simp only [↓pre,simprocAttr,parV,sx,tys63,onceA,postU,postA,allocE,storeE,eq_self,put_at,push_at,Nat.mul_one,hb0,e2,e8,e9,e30,e31,e32,e37,e38,hkk',hkk,hu]
         rw [hkd,hix] at hpar hcf
         (first | refine call_plain (hpar) (by first | rfl | simp only [parV,plQ, *]) ?_ | refine call_pure (hpar) (by first | rfl | simp only [parV,plQ, *]) (by intro k;first | rfl | simp only [sq,sr, *]) ?_);simp only [↓pre,simprocAttr,parV,sx,tys63,onceA,postU,postA,allocE,storeE,eq_self,put_at,push_at,Nat.mul_one,hb0,e2,e8,e9,e30,e31,e32,e37,e38,boolV,nilS,w2,Array.size_empty,List.size_toArray];(first | refine call_plain (hcf) (by first | rfl | simp only [parV,plQ, *]) ?_ | refine call_pure (hcf) (by first | rfl | simp only [parV,plQ, *]) (by intro k;first | rfl | simp only [sq,sr, *]) ?_);simp only [↓pre,simprocAttr,parV,sx,tys63,onceA,postU,postA,allocE,storeE,eq_self,put_at,push_at,Nat.mul_one,hb0,e2,e8,e9,e30,e31,e32,e37,e38,boolV,nilS,w2,Array.size_empty,List.size_toArray]
         exact ⟨q2 - 1,by have:=hqk.out;omega,kk+1,by have:=hqk.out;omega,rfl,by rw [←Nat.add_assoc,hF0.out hFz.out];exact hm0,⟨by omega,hl1.out,hl2.out⟩⟩
       ·have hzc:z=0:=by rw [hz2,decide_eq_false hix];rfl
        subst hzc
        replace hz2:=Hid.mk hz2
        simp only [↓pre,simprocAttr,parV,sx,tys63,onceA,postU,postA,allocE,storeE,eq_self,put_at,push_at,Nat.mul_one,hb0,e2,e8,e9,e30,e31,e32,e37,e38,hkk',hkk,hu]
        rw [hkd] at hpar
        (first | refine call_plain (hpar) (by first | rfl | simp only [parV,plQ, *]) ?_ | refine call_pure (hpar) (by first | rfl | simp only [parV,plQ, *]) (by intro k;first | rfl | simp only [sq,sr, *]) ?_);simp only [↓pre,simprocAttr,parV,sx,tys63,onceA,postU,postA,allocE,storeE,eq_self,put_at,push_at,Nat.mul_one,hb0,e2,e8,e9,e30,e31,e32,e37,e38,boolV,nilS,w2,hix]
        exact ⟨q2 - 1,by have:=hqk.out;omega,kk+1,by have:=hqk.out;omega,rfl,by rw [←Nat.add_assoc,hF0.out hFz.out];exact hm0,⟨by omega,hl1.out,hl2.out⟩⟩
      ·have hzc:z=0:=by rw [hz2,decide_eq_false hkd];simp
       subst hzc
       replace hz2:=Hid.mk hz2
       simp only [↓pre,simprocAttr,parV,sx,tys63,onceA,postU,postA,allocE,storeE,eq_self,put_at,push_at,Nat.mul_one,hb0,e2,e8,e9,e30,e31,e32,e37,e38,hkk',hkk,hu]
       (first | refine call_plain (hpar) (by first | rfl | simp only [parV,plQ, *]) ?_ | refine call_pure (hpar) (by first | rfl | simp only [parV,plQ, *]) (by intro k;first | rfl | simp only [sq,sr, *]) ?_);simp only [↓pre,simprocAttr,parV,sx,tys63,onceA,postU,postA,allocE,storeE,eq_self,put_at,push_at,Nat.mul_one,hb0,e2,e8,e9,e30,e31,e32,e37,e38,boolV,nilS,w2,hkd]
       exact ⟨q2 - 1,by have:=hqk.out;omega,kk+1,by have:=hqk.out;omega,rfl,by rw [←Nat.add_assoc,hF0.out hFz.out];exact hm0,⟨by omega,hl1.out,hl2.out⟩⟩
    ·have hkk':¬ ((kk:Nat):Int) < 2:=by omega
     have:kk=2:=by have:=hqk.out;omega
     subst this
     simp only [↓pre,simprocAttr,parV,sx,tys63,onceA,postU,postA,allocE,storeE,eq_self,put_at,push_at,Nat.mul_one,hb0,e2,e8,e9,e30,e31,e32,e37,e38,hkk',cond_f,w1]
     refine ⟨q - 1,by have:=hqi.out;omega,i+1,by have:=hqi.out;omega,rfl,by rw [show (i+1)*2=i*2+2 by omega];exact hm0,⟨hJ2.out.1,fun j p' hj hp' => ?_⟩⟩
     by_cases hji:j=i
     ·subst hji
      rw [hpi.out] at hp'
      cases hp'
      unfold pairB
      rw [hJ2.out.2.1 (by omega),hJ2.out.2.2 (by omega)]
      rfl
     ·exact hJ.out.2 j p' (by omega) hp'
   ·have hlt':¬ ((i:Nat):Int) < ((N:Nat):Int):=by omega
    have hiN:i=N:=by have:=hqi.out;omega
    subst hiN
    have hrt:rowB k r c ps=true:=by
     unfold rowB
     rw [decide_eq_true hl,Bool.true_and,List.all_eq_true]
     intro p hp
     obtain ⟨j,hj⟩:=List.getElem?_of_mem hp
     have:=(List.getElem?_eq_some_iff.1 hj).1
     have:=hpn.out
     exact hJ.out.2 j p (by omega) hj
    have hck:chkI k r c w ps=0:=by unfold chkI;rw [hm,hrt];rfl
    rw [←hlF,fillC_full] at hm0
    simp only [↓pre,simprocAttr,parV,sx,tys63,onceA,postU,e2,e8,e30,e31,e32,hlt',cond_f]
    have k9:kindT Tryz.prog 113 = .flat:=by kernel_rfl
    simp only [hm0,k9,Option.bind_some,if_true,List.any_nil,Bool.false_eq_true,ne_eq,not_true_eq_false,or_self,if_false,Option.map_some]
    rw [←hres.out]
    unfold heldR
    rw [if_pos hck,hpn.out,hhs.out]
    rfl
  ·have hr:rowB k r c ps=false:=by unfold rowB;rw [decide_eq_false hl];rfl
   have hc:chkI k r c w ps=120:=by unfold chkI;rw [hm,hr];rfl
   unfold heldR
   rw [hc,if_neg (by decide)]
   refine fspec_of_body follows Tryz.func63 (by unfold Tryz.f63;rfl) (by unfold Tryz.f63;simp) onceA (by unfold Tryz.f63;simp) (by kernel_rfl) ?_;unfold Tryz.f63
   simp only [↓pre,simprocAttr,parV,sx,tys63,onceA,postU]
   (first | refine call_plain (hd) (by first | rfl | simp only [parV,plQ, *]) ?_ | refine call_pure (hd) (by first | rfl | simp only [parV,plQ, *]) (by intro k;first | rfl | simp only [sq,sr, *]) ?_);simp only [↓pre,simprocAttr,parV,sx,tys63,onceA,postU,nilS,hv.rd.len',hl]
theorem census_held (k r c w:Int) (v:AV) (ps:List PairB) (cells:List AV) (hv:RowV v ps cells):FSpec Tryz.prog 63 [parV k r c w,v] ⟨heldV k r c w ps,[]⟩:=by
 have h:=census_held_own k r c w v ps cells hv
 have k9:kindT Tryz.prog 113 = .flat:=by kernel_rfl
 have h2:=fspec_frozen 1 h (by unfold heldR;split <;> simp [fzOk,fzOks,nilS,intV,k9])
 have e:fzV Tryz.prog (heldR k r c w ps).rows 1 (heldR k r c w ps).v=heldV k r c w ps:=by
  unfold heldR heldV
  split <;> simp [fzV,fzVs,nilS,intV,k9]
 rw [e] at h2
 exact h2
def ownE (el:TypeId) (n:Nat) (cells:List AV) (e:Int):Res:=⟨.tup [(ownR el n cells).v,intV e],(ownR el n cells).rows⟩
theorem frozen_ownE {f:FuncId} {args:List AV} {el:TypeId} {n:Nat} {cells:List AV} {e:Int} (hk:kindT Tryz.prog el = .flat) (h:FSpec Tryz.prog f args (ownE el n cells e)):FSpec Tryz.prog f args ⟨.tup [treeR n cells,intV e],[]⟩:=by
 have h2:=fspec_frozen 1 h (by unfold ownE ownR;split <;> simp [fzOk,fzOks,nilS,intV,hk])
 have e2:fzV Tryz.prog (ownE el n cells e).rows 1 (ownE el n cells e).v = .tup [treeR n cells,intV e]:=by
  unfold ownE ownR treeR
  split <;> simp [fzV,fzVs,nilS,intV,hk]
 rw [e2] at h2
 exact h2
def missN (hs:List (Int×Int)) (v:Int) (n:Nat):List Int:=(List.range n).filterMap fun i=>if holdsAt hs i v=true then none else some (i:Int)
def missE (k r c w ver:Int) (ps:List PairB):Int:=if chkI k r c w ps=0 then (if 1≤ver∧ver≤1073741824 then 0 else 2) else chkI k r c w ps
def missL (k r c w ver:Int) (ps:List PairB):List Int:=if missE k r c w ver ps=0 then missN (heldsP k r c w ps) ver ps.length else []
theorem chk_ok {k r c w:Int} {ps:List PairB} (h:chkI k r c w ps=0):mayB k r c w=true∧rowB k r c ps=true∧(ps.length:Int)=k+r∧ps.length≤16:=by
 unfold chkI at h
 cases hm:mayB k r c w with
 | false=>rw [hm] at h;simp at h
 | true =>
  rw [hm] at h
  cases hr:rowB k r c ps with
  | false=>rw [hr] at h;simp at h
  | true =>
   have hmn:=may_n hm
   have:(ps.length:Int)=k+r:=by
    unfold rowB at hr
    simp only [Bool.and_eq_true,decide_eq_true_eq] at hr
    exact hr.1
   exact ⟨rfl,rfl,this,by omega⟩
abbrev Ents:=List (Int×List Int)
def zipM (E:Ents) (A:List AV):List (Value×AV):=List.zipWith (fun e a=>(Value.int .i64 e.1,a)) E A
def idxE (v:Int):Ents→Option Nat
 | []=>none
 | e::E=>if v=e.1 then some 0 else (idxE v E).map (·+1)
theorem find_zip (v:Int):∀ (E:Ents) (A:List AV),A.length=E.length→findM (.int .i64) (.int .i64 v) (zipM E A)=some (idxE v E)
 | [],A,h=>by cases A <;> rfl
 | e::E,[],h=>by simp at h
 | e::E,a::A,h=>by
  have ih:=find_zip v E A (by simpa using h)
  have e1:zipM (e::E) (a::A)=(Value.int .i64 e.1,a)::zipM E A:=rfl
  rw [e1]
  unfold findM idxE
  by_cases hv:v=e.1
  ·simp [Instr.sameNow,hv]
  ·have hb:(v == e.1)=false:=by simpa using hv
   simp [Instr.sameNow,hv,ih,hb]
theorem idxE_some {v:Int}:∀ {E:Ents} {j:Nat},idxE v E=some j→∃ e,E[j]? = some e∧e.1=v
 | [],j,h=>by simp [idxE] at h
 | e::E,j,h=>by
  unfold idxE at h
  split at h
  ·rename_i hv;cases h;exact ⟨e,rfl,hv.symm⟩
  ·obtain ⟨i,hi,rfl⟩:=Option.map_eq_some_iff.1 h
   obtain ⟨e',h1,h2⟩:=idxE_some hi
   exact ⟨e',by simpa using h1,h2⟩
theorem idxE_none {v:Int}:∀ {E:Ents},idxE v E=none→∀ e∈E,e.1≠v
 | [],_,e,h=>by cases h
 | e::E,h,e',he=>by
  unfold idxE at h
  split at h
  ·cases h
  ·rename_i hv
   rw [Option.map_eq_none_iff] at h
   rcases List.mem_cons.1 he with rfl | he
   ·exact fun h'=>hv h'.symm
   ·exact idxE_none h e' he
def addE (v i:Int) (E:Ents):Ents:=match idxE v E with
 | some j=>E.set j (v,((E[j]?).map (·.2)).getD []++[i])
 | none=>E++[(v,[i])]
def cellsK (hs:List (Int×Int)) (v:Int) (i kk:Nat):List Int:=cellsN hs v i++(match hs[i]? with
 | some x=>if (1≤kk∧x.1=v)∨(2≤kk∧x.2=v) then [(i:Int)] else []
 | none=>[])
structure EI (hs:List (Int×Int)) (i kk:Nat) (E:Ents):Prop where
 nd:(E.map (·.1)).Nodup
 is:∀ e∈E,0 < e.1∧e.2=cellsK hs e.1 i kk∧e.2≠[]
 all:∀ v,0 < v→cellsK hs v i kk≠[]→∃ e∈E,e.1=v
theorem ei_start (hs:List (Int×Int)):EI hs 0 0 []:=⟨List.nodup_nil,fun e h=>(by cases h),fun v h1 h2=>by
 exfalso
 apply h2
 unfold cellsK
 have:cellsN hs v 0=[]:=rfl
 rw [this]
 cases h:hs[0]? with
 | none=>rfl
 | some x=>simp⟩
theorem cellsK_next {hs:List (Int×Int)} {v:Int} {i:Nat} (hi:i < hs.length):cellsK hs v i 2=cellsK hs v (i+1) 0:=by
 have e1:cellsK hs v (i+1) 0=cellsN hs v (i+1):=by
  unfold cellsK
  cases h:hs[i+1]? with
  | none=>simp
  | some x=>simp
 rw [e1,cellsN_succ]
 unfold cellsK holdsAt
 rw [List.getElem?_eq_getElem hi]
 simp
theorem ei_next {hs:List (Int×Int)} {i:Nat} {E:Ents} (hi:i < hs.length) (h:EI hs i 2 E):EI hs (i+1) 0 E :=
 ⟨h.nd,fun e he=>by rw [←cellsK_next hi];exact h.is e he,fun v h1 h2=>h.all v h1 (by rw [cellsK_next hi];exact h2)⟩
theorem ei_skip {hs:List (Int×Int)} {i kk:Nat} {E:Ents} {x:Int×Int} (hx:hs[i]? = some x) (h:EI hs i kk E) (hk:kk < 2) (hs2:∀ v,0 < v→cellsK hs v i (kk+1)=cellsK hs v i kk):EI hs i (kk+1) E :=
 ⟨h.nd,fun e he=>by have:=h.is e he;exact ⟨this.1,by rw [hs2 _ this.1];exact this.2.1,this.2.2⟩,fun v h1 h2=>h.all v h1 (by rw [←hs2 v h1];exact h2)⟩
theorem ei_add {hs:List (Int×Int)} {i kk:Nat} {E:Ents} {z:Int} (h:EI hs i kk E) (hz:0 < z) (h1:cellsK hs z i (kk+1)=cellsK hs z i kk++[(i:Int)]) (h2:∀ v,v≠z→cellsK hs v i (kk+1)=cellsK hs v i kk):EI hs i (kk+1) (addE z i E):=by
 unfold addE
 cases hj:idxE z E with
 | some j =>
  obtain ⟨e,he,hez⟩:=idxE_some hj
  have hjl:=(List.getElem?_eq_some_iff.1 he).1
  have hmem:=List.mem_of_getElem? he
  have hkeys:(E.set j (z,((E[j]?).map (·.2)).getD []++[(i:Int)])).map (·.1)=E.map (·.1):=by
   rw [List.map_set]
   apply List.ext_getElem?
   intro k
   rw [List.getElem?_set]
   split
   ·rename_i hk;subst hk
    have hej:E[j]=e:=(List.getElem?_eq_some_iff.1 he).2
    simp [hjl,hej,hez]
   ·rfl
  refine ⟨by simp only;rw [hkeys];exact h.nd,fun e' he' => ?_,fun v hv hne => ?_⟩
  ·simp only at he'
   obtain ⟨k,hk⟩:=List.getElem?_of_mem he'
   rw [List.getElem?_set] at hk
   split at hk
   ·rename_i hkj
    subst hkj
    first | rw [if_pos hjl] at hk | skip
    cases hk
    rw [he]
    simp only [Option.map_some,Option.getD_some]
    have:=h.is e hmem
    refine ⟨hz, ?_,by simp⟩
    rw [this.2.1,hez,h1]
   ·rename_i hkj
    have hm:=List.mem_of_getElem? hk
    have:=h.is e' hm
    have hne:e'.1≠z:=by
     intro hh
     obtain ⟨hkl,hke⟩:=List.getElem?_eq_some_iff.1 hk
     obtain ⟨_,hje⟩:=List.getElem?_eq_some_iff.1 he
     have hp:=List.pairwise_iff_getElem.1 h.nd
     rcases Nat.lt_trichotomy j k with hlt | hlt | hlt
     ·have:=hp j k (by simpa using hjl) (by simpa using hkl) hlt
      simp [hke,hje,hez,hh] at this
     ·exact hkj hlt
     ·have:=hp k j (by simpa using hkl) (by simpa using hjl) hlt
      simp [hke,hje,hez,hh] at this
    exact ⟨this.1,by rw [h2 _ hne];exact this.2.1,this.2.2⟩
  ·simp only
   by_cases hvz:v=z
   ·subst hvz
    exact ⟨_,List.mem_of_getElem? (i:=j) (by rw [List.getElem?_set];simp [hjl];rfl),rfl⟩
   ·obtain ⟨e',he',hev⟩:=h.all v hv (by rw [←h2 v hvz];exact hne)
    refine ⟨e', ?_,hev⟩
    obtain ⟨k,hk⟩:=List.getElem?_of_mem he'
    have hkj:j≠k:=by
     rintro rfl
     rw [he] at hk
     cases hk
     exact hvz (hev.symm.trans hez)
    exact List.mem_of_getElem? (i:=k) (by rw [List.getElem?_set,if_neg hkj];exact hk)
 | none =>
  have hno:=idxE_none hj
  have hemp:cellsK hs z i kk=[]:=by
   by_cases hc:cellsK hs z i kk=[]
   ·exact hc
   ·obtain ⟨e,he,hez⟩:=h.all z hz hc
    exact absurd hez (hno e he)
  refine ⟨?_,fun e' he' => ?_,fun v hv hne => ?_⟩
  ·simp only [List.map_append,List.map_cons,List.map_nil]
   rw [List.nodup_append]
   refine ⟨h.nd,by simp,fun a ha b hb => ?_⟩
   simp at hb
   subst hb
   obtain ⟨e,he,rfl⟩:=List.mem_map.1 ha
   exact hno e he
  ·rcases List.mem_append.1 he' with he' | he'
   ·have:=h.is e' he'
    exact ⟨this.1,by rw [h2 _ (hno e' he')];exact this.2.1,this.2.2⟩
   ·simp at he'
    subst he'
    exact ⟨hz,by simp only;rw [h1,hemp];rfl,by simp⟩
  ·by_cases hvz:v=z
   ·subst hvz
    exact ⟨(v,[(i:Int)]),by simp,rfl⟩
   ·obtain ⟨e',he',hev⟩:=h.all v hv (by rw [←h2 v hvz];exact hne)
    exact ⟨e',List.mem_append_left _ he',hev⟩
theorem ei_step {hs:List (Int×Int)} {i kk:Nat} {E:Ents} {x:Int×Int} {z:Int} (hx:hs[i]? = some x) (h:EI hs i kk E) (hk:kk < 2) (hz:z=if kk=0 then x.1 else x.2):EI hs i (kk+1) (if 0 < z∧(kk=0∨z≠x.1) then addE z i E else E):=by
 have hc:∀ v k,cellsK hs v i k=cellsN hs v i++(if (1≤k∧x.1=v)∨(2≤k∧x.2=v) then [(i:Int)] else []):=fun v k=>by unfold cellsK;rw [hx]
 have hkk:kk=0∨kk=1:=by omega
 rcases hkk with rfl | rfl
 ·simp only [if_true] at hz
  subst hz
  by_cases h0:0 < x.1
  ·rw [if_pos ⟨h0,.inl rfl⟩]
   refine ei_add h h0 ?_ fun v hv => ?_
   ·rw [hc,hc];simp
   ·rw [hc,hc]
    have:¬ x.1=v:=fun h=>hv h.symm
    simp [this]
  ·rw [if_neg (fun h=>h0 h.1)]
   refine ei_skip hx h hk fun v hv => ?_
   rw [hc,hc]
   have:¬ x.1=v:=by omega
   simp [this]
 ·simp only [Nat.one_ne_zero,if_false,false_or] at hz ⊢
  subst hz
  by_cases h0:0 < x.2∧x.2≠x.1
  ·rw [if_pos h0]
   refine ei_add h h0.1 ?_ fun v hv => ?_
   ·rw [hc,hc]
    have:¬ x.1=x.2:=fun h=>h0.2 h.symm
    simp [this]
   ·rw [hc,hc]
    have:¬ x.2=v:=fun h=>hv h.symm
    simp [this]
  ·rw [if_neg h0]
   refine ei_skip hx h hk fun v hv => ?_
   rw [hc,hc]
   by_cases h1:x.1=v
   ·simp [h1]
   ·have:¬ x.2=v:=by omega
    simp [h1,this]
structure MapI (m:Mem) (g:Nat) (E:Ents) (A:List AV):Prop where
 mp:m.mm.maps g=some (zipM E A)
 len:A.length=E.length
 own:∀ (j:Nat) (e:Int×List Int) (a:AV),E[j]? = some e→A[j]? = some a→Own m 3 1 a e.2.length (intsA e.2)
 apart:∀ (i j:Nat) (a b:AV) (x:Nat),A[i]? = some a→A[j]? = some b→blkOf a=some x→blkOf b=some x→i=j
def lookA (E:Ents) (A:List AV) (v:Int):AV:=match idxE v E with
 | some j=>A.getD j nilS
 | none=>nilS
def lookL (E:Ents) (v:Int):List Int:=match idxE v E with
 | some j=>((E[j]?).map (·.2)).getD []
 | none=>[]
def putA (E:Ents) (A:List AV) (v:Int) (a:AV):List AV:=match idxE v E with
 | some j=>A.set j a
 | none=>A++[a]
theorem mapT_tally:mapT Tryz.prog 194=some (.int .i64,nilS):=by kernel_rfl
theorem zip_at {E:Ents} {A:List AV} (j:Nat):(zipM E A)[j]? = (E[j]?).bind fun e=>(A[j]?).map fun a=>(Value.int .i64 e.1,a):=by
 unfold zipM
 rw [List.getElem?_zipWith]
 cases E[j]? <;> cases A[j]? <;> rfl
theorem MapI.look {m:Mem} {g:Nat} {E:Ents} {A:List AV} (h:MapI m g E A) (v:Int):lookX Tryz.prog m 194 (.val (.map (some g))) (.val (.int .i64 v))=some (lookA E A v):=by
 refine lookX_e ?_
 simp only [lookE,mapT_tally,mapAt,h.mp,toVal,Option.bind_some,Option.map_some,find_zip v E A h.len]
 unfold lookA
 cases hj:idxE v E with
 | none=>rfl
 | some j =>
  obtain ⟨e,he,_⟩:=idxE_some hj
  have hl:=(List.getElem?_eq_some_iff.1 he).1
  have hla:j < A.length:=by rw [h.len];exact hl
  have ha:A[j]? = some A[j]:=List.getElem?_eq_getElem hla
  simp only [zip_at,he,ha,Option.bind_some,Option.map_some,List.getD_eq_getElem?_getD,Option.getD_some]
theorem MapI.own_look {m:Mem} {g:Nat} {E:Ents} {A:List AV} (h:MapI m g E A) (v:Int):Own m 3 1 (lookA E A v) (lookL E v).length (intsA (lookL E v)):=by
 unfold lookA lookL
 cases hj:idxE v E with
 | none=>exact own_nil
 | some j =>
  obtain ⟨e,he,_⟩:=idxE_some hj
  have hl:=(List.getElem?_eq_some_iff.1 he).1
  have hla:j < A.length:=by rw [h.len];exact hl
  have ha:A[j]? = some A[j]:=List.getElem?_eq_getElem hla
  have:=h.own j e _ he ha
  simpa only [he,Option.map_some,Option.getD_some,List.getD_eq_getElem?_getD,ha] using this
theorem MapI.upd {m m' : Mem} {g : Nat} {E : Ents} {A : List AV} (h : MapI m g E A) (v i : Int) {a : AV} (hn : m.next ≤ m'.next) (hkeep : ∀ j k, m.at_ j = some k → j < m.next → blkOf (lookA E A v) ≠ some j → m'.at_ j = some k) (hbl : ∀ j, blkOf a = some j → j = m.next ∨ blkOf (lookA E A v) = some j) (hmm : m'.mm = m.mm) (ho : Own m' 3 1 a ((lookL E v).length + 1) (intsA (lookL E v) ++ [intV i])) :
   updX Tryz.prog m' 194 (.val (.map (some g))) (.val (.int .i64 v)) a = some ⟨undefA, m'.setM (m'.mm.set g (zipM (addE v i E) (putA E A v a))), none⟩ ∧ MapI (m'.setM (m'.mm.set g (zipM (addE v i E) (putA E A v a)))) g (addE v i E) (putA E A v a) := by
 have hmp : m'.mm.maps g = some (zipM E A) := by rw [hmm]; exact h.mp
 have hset : (m'.setM (m'.mm.set g (zipM (addE v i E) (putA E A v a)))).mm.maps g = some (zipM (addE v i E) (putA E A v a)) := by simp [Mem.setM, Maps.set]
 have hoth : ∀ (j : Nat) (e : Int × List Int) (b : AV), E[j]? = some e → A[j]? = some b → (∀ x, blkOf b = some x → blkOf (lookA E A v) ≠ some x) → Own m' 3 1 b e.2.length (intsA e.2) := fun j e b he hb hx => by
   have := h.own j e b he hb
   refine this.keep hn fun x k hbx hk => hkeep x k hk ?_ (hx x hbx)
   rcases this.form with ⟨rfl, _⟩ | ⟨b', rfl, _, hlt, _⟩
   · cases hbx
   · injection hbx with hbx; omega
 have hlt : ∀ (j : Nat) (b : AV) (x : Nat), A[j]? = some b → blkOf b = some x → x < m.next := fun j b x hb hx => by
   have hl := (List.getElem?_eq_some_iff.1 hb).1
   have hle : j < E.length := by rw [← h.len]; exact hl
   rcases (h.own j E[j] b (List.getElem?_eq_getElem hle) hb).form with ⟨rfl, _⟩ | ⟨b', rfl, _, hlt, _⟩
   · cases hx
   · injection hx with hx; omega
 cases hj : idxE v E with
 | none =>
   have hL : lookA E A v = nilS := by unfold lookA; rw [hj]
   have hLl : lookL E v = [] := by unfold lookL; rw [hj]
   have hA' : putA E A v a = A ++ [a] := by unfold putA; rw [hj]
   have hE' : addE v i E = E ++ [(v, [i])] := by unfold addE; rw [hj]
   rw [hL] at hbl hoth hkeep
   rw [hLl] at ho
   have hbn : ∀ x, blkOf a = some x → x = m.next := fun x hx => by
     rcases hbl x hx with h | h
     · exact h
     · cases h
   rw [hA', hE'] at *
   have hz : zipM (E ++ [(v, [i])]) (A ++ [a]) = zipM E A ++ [(Value.int .i64 v, a)] := by
     unfold zipM
     rw [List.zipWith_append (by rw [h.len])]
     rfl
   refine ⟨?_, by simp [Mem.setM, Maps.set], by simp [h.len], fun j e b he hb => ?_, fun i' j a' b' x ha' hb' hax hbx => ?_⟩
   · refine updX_e ?_
     simp only [updE, mapT_tally, mapAt, hmp, toVal, Option.bind_some, Option.map_some, find_zip v E A h.len, hj, hz]
     rfl
   · by_cases hjl : j < E.length
     · rw [List.getElem?_append_left hjl] at he
       rw [List.getElem?_append_left (by rw [h.len]; exact hjl)] at hb
       exact (hoth j e b he hb (fun x _ h => by cases h)).setM _
     · rw [List.getElem?_append_right (by omega)] at he
       rw [List.getElem?_append_right (by rw [h.len]; omega)] at hb
       have hj0 : j - E.length = 0 := by
         have := (List.getElem?_eq_some_iff.1 he).1
         simp at this
         omega
       have hj1 : j - A.length = 0 := by rw [h.len]; exact hj0
       rw [hj0] at he
       rw [hj1] at hb
       cases he
       cases hb
       exact ho.setM _
   · have hsp : ∀ (k : Nat) (c : AV), (A ++ [a])[k]? = some c → A[k]? = some c ∨ (k = A.length ∧ c = a) := fun k c hc => by
       by_cases hk : k < A.length
       · rw [List.getElem?_append_left hk] at hc; exact .inl hc
       · rw [List.getElem?_append_right (by omega)] at hc
         have := (List.getElem?_eq_some_iff.1 hc).1
         simp at this
         have hk0 : k - A.length = 0 := by omega
         rw [hk0] at hc
         cases hc
         exact .inr ⟨by omega, rfl⟩
     rcases hsp i' a' ha' with h1 | ⟨h1, rfl⟩ <;> rcases hsp j b' hb' with h2 | ⟨h2, rfl⟩
     · exact h.apart i' j a' b' x h1 h2 hax hbx
     · have := hlt i' a' x h1 hax; have := hbn x hbx; omega
     · have := hlt j b' x h2 hbx; have := hbn x hax; omega
     · omega
 | some j0 =>
   obtain ⟨e0, he0, hev⟩ := idxE_some hj
   have hl := (List.getElem?_eq_some_iff.1 he0).1
   have hla : j0 < A.length := by rw [h.len]; exact hl
   have ha0 : A[j0]? = some A[j0] := List.getElem?_eq_getElem hla
   have hL : lookA E A v = A[j0] := by unfold lookA; simp only [hj, List.getD_eq_getElem?_getD, ha0, Option.getD_some]
   have hLl : lookL E v = e0.2 := by unfold lookL; simp only [hj, he0, Option.map_some, Option.getD_some]
   have hA' : putA E A v a = A.set j0 a := by unfold putA; rw [hj]
   have hE' : addE v i E = E.set j0 (v, e0.2 ++ [i]) := by unfold addE; simp only [hj, he0, Option.map_some, Option.getD_some]
   rw [hL] at hbl hoth hkeep
   rw [hLl] at ho
   rw [hA', hE'] at *
   have hz : zipM (E.set j0 (v, e0.2 ++ [i])) (A.set j0 a) = (zipM E A).set j0 (Value.int .i64 v, a) := by
     apply List.ext_getElem?
     intro k
     rw [zip_at, List.getElem?_set, List.getElem?_set, List.getElem?_set, zip_at]
     by_cases hk : j0 = k
     · subst hk
       have h3 : j0 < (zipM E A).length := by unfold zipM; rw [List.length_zipWith]; omega
       simp [hl, h.len, h3]
     · simp [hk]
   refine ⟨?_, by simp [Mem.setM, Maps.set], by simp [h.len], fun j e b he hb => ?_, fun i' j a' b' x ha' hb' hax hbx => ?_⟩
   · refine updX_e ?_
     simp only [updE, mapT_tally, mapAt, hmp, toVal, Option.bind_some, Option.map_some, find_zip v E A h.len, hj, hz]
     rfl
   · rw [List.getElem?_set] at he hb
     by_cases hjj : j0 = j
     · subst hjj
       simp [hl] at he
       simp [h.len, hl] at hb
       subst he
       subst hb
       have : Own m' 3 1 a (e0.2 ++ [i]).length (intsA (e0.2 ++ [i])) := by
         rw [List.length_append, intsA_append]; exact ho
       exact this.setM _
     · rw [if_neg hjj] at he hb
       refine (hoth j e b he hb (fun x hx h2 => ?_)).setM _
       exact hjj (h.apart j0 j _ b x ha0 hb h2 hx)
   · have hsp : ∀ (k : Nat) (c : AV), (A.set j0 a)[k]? = some c → (k ≠ j0 ∧ A[k]? = some c) ∨ (k = j0 ∧ c = a) := fun k c hc => by
       rw [List.getElem?_set] at hc
       by_cases hk : j0 = k
       · subst hk
         simp [h.len, hl] at hc
         exact .inr ⟨rfl, hc.symm⟩
       · rw [if_neg hk] at hc; exact .inl ⟨fun h => hk h.symm, hc⟩
     rcases hsp i' a' ha' with ⟨h0, h1⟩ | ⟨h1, rfl⟩ <;> rcases hsp j b' hb' with ⟨h3, h2⟩ | ⟨h2, rfl⟩
     · exact h.apart i' j a' b' x h1 h2 hax hbx
     · exfalso
       rcases hbl x hbx with h4 | h4
       · have := hlt i' a' x h1 hax; omega
       · exact h0 (h.apart i' j0 a' _ x h1 ha0 hax h4)
     · exfalso
       rcases hbl x hax with h4 | h4
       · have := hlt j b' x h2 hbx; omega
       · exact h3 (h.apart j j0 b' _ x h2 ha0 hbx h4)
     · omega
def pairsA (L:List (Int×AV)):List AV:=L.flatMap fun x=>[intV x.1,x.2]
theorem pairsA_append (a b:List (Int×AV)):pairsA (a++b)=pairsA a++pairsA b:=by simp [pairsA]
def insP (x:Int×AV):List (Int×AV)→List (Int×AV)
 | []=>[x]
 | y::l=>if y.1 < x.1 then x::y::l else y::insP x l
def sortL (L:List (Int×AV)):List (Int×AV):=L.foldr insP []
theorem insP_perm (x:Int×AV):∀ l,(insP x l).Perm (x::l)
 | [] => .refl _
 | y::l=>by
  unfold insP
  split
  ·exact .refl _
  ·exact ((insP_perm x l).cons y).trans (.swap x y l)
theorem sortL_perm:∀ L,(sortL L).Perm L
 | [] => .refl _
 | x::L=>(insP_perm x (sortL L)).trans ((sortL_perm L).cons x)
theorem insP_pw (x:Int×AV):∀ l,l.Pairwise (fun a b=>b.1 < a.1)→(∀ y∈l,y.1≠x.1)→(insP x l).Pairwise (fun a b=>b.1 < a.1)
 | [],_,_=>List.pairwise_singleton _ _
 | y::l,h,hn=>by
  unfold insP
  rw [List.pairwise_cons] at h
  split
  ·rename_i hlt
   rw [List.pairwise_cons]
   refine ⟨fun z hz => ?_,List.pairwise_cons.2 h⟩
   rcases List.mem_cons.1 hz with rfl | hz
   ·exact hlt
   ·have:=h.1 z hz;omega
  ·rename_i hlt
   rw [List.pairwise_cons]
   refine ⟨fun z hz => ?_,insP_pw x l h.2 fun z hz=>hn z (by simp [hz])⟩
   rw [(insP_perm x l).mem_iff,List.mem_cons] at hz
   rcases hz with rfl | hz
   ·have:=hn y (by simp);omega
   ·exact h.1 z hz
theorem sortL_pw:∀ L:List (Int×AV),(L.map (·.1)).Nodup→(sortL L).Pairwise (fun a b=>b.1 < a.1)
 | [],_ => .nil
 | x::L,h=>by
  simp only [List.map_cons,List.nodup_cons] at h
  refine insP_pw x _ (sortL_pw L h.2) fun y hy => ?_
  have hy:y∈sortL L:=hy
  rw [(sortL_perm L).mem_iff] at hy
  intro e
  exact h.1 (List.mem_map.2 ⟨y,hy,e⟩)
abbrev Trip:=Int×Nat×List Int
def tripA (x:Trip):Int×AV:=(x.1,.sl x.2.1 0 x.2.2.length x.2.2.length false)
def nestO:Nat→List Trip→List AV
 | _,[]=>[]
 | n,x::X=>intV x.1 :: .sl n 0 x.2.2.length x.2.2.length false::nestO (n+1) X
def nestR (X:List Trip):List (TypeId×List AV):=X.map fun x=>(3,intsA x.2.2)
theorem nest_canon (m : Mem) (k : Nat) : ∀ (X : List Trip) (ids : List (Nat × Nat)) (rows : List (TypeId × List AV)), (∀ x ∈ X, m.at_ x.2.1 = some ⟨intsA x.2.2, 3, .flat, true⟩) → (X.map (·.2.1)).Nodup → (∀ x ∈ X, ∀ i ∈ ids, i.1 ≠ x.2.1) →
   canons Tryz.prog m k ids rows (pairsA (X.map tripA)) = some (nestO rows.length X, ids ++ X.map (fun x => (x.2.1, 0)), rows ++ nestR X)
 | [], ids, rows, _, _, _ => by
   have : pairsA (([] : List Trip).map tripA) = [] := rfl
   rw [this]
   cases k <;> (unfold canons; simp [nestO, nestR])
 | x :: X, ids, rows, h1, h2, h3 => by
   have k3 : kindT Tryz.prog 3 = .flat := by kernel_rfl
   simp only [List.map_cons, List.nodup_cons] at h2
   have e : pairsA ((x :: X).map tripA) = intV x.1 :: .sl x.2.1 0 x.2.2.length x.2.2.length false :: pairsA (X.map tripA) := rfl
   have ha := h1 x (by simp)
   have hids : ids.any (fun i => i.1 == x.2.1) = false := by
     rw [List.any_eq_false]
     intro i hi
     simpa using h3 x (by simp) i hi
   have ih := nest_canon m k X (ids ++ [(x.2.1, 0)]) (rows ++ [(3, intsA x.2.2)]) (fun y hy => h1 y (by simp [hy])) h2.2 (fun y hy i hi => by
     rcases List.mem_append.1 hi with hi | hi
     · exact h3 y (by simp [hy]) i hi
     · simp at hi
       subst hi
       intro e
       exact h2.1 (List.mem_map.2 ⟨y, hy, e.symm⟩))
   have hv : canon Tryz.prog m k ids rows (intV x.1) = some (intV x.1, ids, rows) := still_val _ m k ids rows
   have hs : canon Tryz.prog m k ids rows (.sl x.2.1 0 x.2.2.length x.2.2.length false) = some (.sl rows.length 0 x.2.2.length x.2.2.length false, ids ++ [(x.2.1, 0)], rows ++ [(3, intsA x.2.2)]) := by
     cases k <;> (unfold canon; simp only [ha, hids, k3, Option.bind_some, if_true, List.drop_zero, Bool.false_eq_true, ne_eq, not_true_eq_false, or_self, if_false])
   rw [e]
   have hc : ∀ (c : AV) (cs : List AV) (i : List (Nat × Nat)) (r : List (TypeId × List AV)), canons Tryz.prog m k i r (c :: cs) = (canon Tryz.prog m k i r c).bind fun r => (canons Tryz.prog m k r.2.1 r.2.2 cs).map fun s => (r.1 :: s.1, s.2) := by
     intro c cs i r
     cases k <;> (rw [canons])
   rw [hc, hv, Option.bind_some]
   simp only
   rw [hc, hs, Option.bind_some]
   simp only
   rw [ih]
   simp [nestO, nestR, List.append_assoc]
theorem fzVs_cons {P:Program} {rows:List (TypeId×List AV)} {d:Nat} {c:AV} {cs:List AV}:fzVs P rows d (c::cs)=fzV P rows d c::fzVs P rows d cs:=by
 cases d <;> (rw [fzVs])
theorem fzOks_cons {P:Program} {rows:List (TypeId×List AV)} {d:Nat} {c:AV} {cs:List AV}:fzOks P rows d (c::cs)=(fzOk P rows d c && fzOks P rows d cs):=by
 cases d <;> (rw [fzOks])
theorem nest_fz (P0:List (TypeId×List AV)) (d:Nat):∀ (X:List Trip) (n:Nat),(∀ j x,X[j]? = some x→P0[n+j]? = some (3,intsA x.2.2))→fzVs Tryz.prog P0 d (nestO n X)=X.flatMap (fun x=>[intV x.1,.tree x.2.2.length x.2.2.length (intsA x.2.2) false])∧fzOks Tryz.prog P0 d (nestO n X)=true
 | [],n,_=>by
  cases d <;> (unfold nestO fzVs fzOks;exact ⟨rfl,rfl⟩)
 | x::X,n,h=>by
  have k3:kindT Tryz.prog 3 = .flat:=by kernel_rfl
  have ih:=nest_fz P0 d X (n+1) fun j y hy=>by
   have:=h (j+1) y (by simpa using hy)
   rw [←this];congr 1;omega
  have h0:=h 0 x rfl
  rw [Nat.add_zero] at h0
  have hg:P0.getD n (0,[])=(3,intsA x.2.2):=by rw [List.getD_eq_getElem?_getD,h0];rfl
  have e1:fzV Tryz.prog P0 d (intV x.1)=intV x.1:=by cases d <;> (unfold intV fzV;rfl)
  have e2:fzV Tryz.prog P0 d (.sl n 0 x.2.2.length x.2.2.length false) = .tree x.2.2.length x.2.2.length (intsA x.2.2) false:=by
   cases d <;> (unfold fzV;simp only [hg,k3,if_true,List.drop_zero])
  have e3:fzOk Tryz.prog P0 d (intV x.1)=true:=by cases d <;> (unfold intV fzOk;rfl)
  have e4:fzOk Tryz.prog P0 d (.sl n 0 x.2.2.length x.2.2.length false)=true:=by
   cases d <;> (unfold fzOk;simp [h0,k3])
  constructor
  ·have:fzVs Tryz.prog P0 d (nestO n (x::X))=fzV Tryz.prog P0 d (intV x.1)::fzV Tryz.prog P0 d (.sl n 0 x.2.2.length x.2.2.length false)::fzVs Tryz.prog P0 d (nestO (n+1) X):=by
    show fzVs Tryz.prog P0 d (intV x.1 :: .sl n 0 x.2.2.length x.2.2.length false::nestO (n+1) X)=_
    rw [fzVs_cons,fzVs_cons]
   rw [this,e1,e2,ih.1]
   rfl
  ·have:fzOks Tryz.prog P0 d (nestO n (x::X))=(fzOk Tryz.prog P0 d (intV x.1) && (fzOk Tryz.prog P0 d (.sl n 0 x.2.2.length x.2.2.length false) && fzOks Tryz.prog P0 d (nestO (n+1) X))):=by
    show fzOks Tryz.prog P0 d (intV x.1 :: .sl n 0 x.2.2.length x.2.2.length false::nestO (n+1) X)=_
    rw [fzOks_cons,fzOks_cons]
   rw [this,e3,e4,ih.2]
   rfl
def insT (x:Trip):List Trip→List Trip
 | []=>[x]
 | y::l=>if y.1 < x.1 then x::y::l else y::insT x l
def sortT (L:List Trip):List Trip:=L.foldr insT []
theorem insT_map (x:Trip):∀ l:List Trip,insP (tripA x) (l.map tripA)=(insT x l).map tripA
 | []=>rfl
 | y::l=>by
  have ih:=insT_map x l
  unfold insT
  show (if (tripA y).1 < (tripA x).1 then _ else tripA y::insP (tripA x) (l.map tripA))=_
  rw [ih]
  show (if y.1 < x.1 then _ else _)=_
  split <;> rfl
theorem sortT_map:∀ L:List Trip,sortL (L.map tripA)=(sortT L).map tripA
 | []=>rfl
 | x::L=>by
  have ih:=sortT_map L
  show insP (tripA x) (sortL (L.map tripA))=_
  rw [ih,insT_map]
  rfl
theorem insT_perm (x:Trip):∀ l,(insT x l).Perm (x::l)
 | [] => .refl _
 | y::l=>by
  unfold insT
  split
  ·exact .refl _
  ·exact ((insT_perm x l).cons y).trans (.swap x y l)
theorem sortT_perm:∀ L,(sortT L).Perm L
 | [] => .refl _
 | x::L=>(insT_perm x (sortT L)).trans ((sortT_perm L).cons x)
def slB:AV→Nat
 | .sl b _ _ _ _=>b
 | _=>0
def trip (E:Ents) (A:List AV) (j:Nat):Trip:=((E.getD j (0,[])).1,slB (A.getD j nilS),(E.getD j (0,[])).2)
theorem tally_end {m : Mem} {g : Nat} {E : Ents} {A : List AV} {hs : List (Int × Int)} {N : Nat} {S : List Nat} (hM : MapI m g E A) (hE : EI hs N 0 E) (hN : hs.length = N) (hnd : S.Nodup) (hlt : ∀ j ∈ S, j < E.length) (hall : ∀ j, j < E.length → j ∈ S) :
   ((S.map fun j => ((E.getD j (0, [])).1, A.getD j nilS)).map (·.1)).Nodup ∧ (∀ x ∈ S.map fun j => ((E.getD j (0, [])).1, A.getD j nilS), oneA x.2 = true) ∧ ∃ X : List Trip, sortL (S.map fun j => ((E.getD j (0, [])).1, A.getD j nilS)) = X.map tripA ∧ (∀ x ∈ X, m.at_ x.2.1 = some ⟨intsA x.2.2, 3, .flat, true⟩ ∧ x.2.1 < m.next) ∧ (X.map (·.2.1)).Nodup ∧ X.map (fun x => (x.1, x.2.2)) = (versF hs).map (fun v => (v, cellsN hs v N)) := by
 have hat : ∀ j, j < E.length → ∃ ev b, E[j]? = some ev ∧ A[j]? = some (.sl b 0 ev.2.length ev.2.length false) ∧ m.at_ b = some ⟨intsA ev.2, 3, .flat, true⟩ ∧ b < m.next ∧ 0 < ev.1 ∧ ev.2 = cellsN hs ev.1 N ∧ ev.2 ≠ [] := by
   intro j hj
   have hja : j < A.length := by rw [hM.len]; exact hj
   have he : E[j]? = some E[j] := List.getElem?_eq_getElem hj
   have hi := hE.is _ (List.mem_of_getElem? he)
   have hck : cellsK hs E[j].1 N 0 = cellsN hs E[j].1 N := by
     unfold cellsK
     rw [List.getElem?_eq_none (by omega)]
     simp
   rw [hck] at hi
   obtain ⟨b, hb, h2, h3⟩ := (hM.own j _ _ he (List.getElem?_eq_getElem hja)).sl (List.length_pos_iff.2 hi.2.2)
   exact ⟨E[j], b, he, by rw [List.getElem?_eq_getElem hja, hb], h2, h3, hi.1, hi.2.1, hi.2.2⟩
 have htr : ∀ j, j < E.length → ((E.getD j (0, [])).1, A.getD j nilS) = tripA (trip E A j) := by
   intro j hj
   obtain ⟨ev, b, h1, h2, _⟩ := hat j hj
   simp only [trip, tripA, List.getD_eq_getElem?_getD, h1, h2, Option.getD_some, slB]
 have hL : (S.map fun j => ((E.getD j (0, [])).1, A.getD j nilS)) = (S.map (trip E A)).map tripA := by
   rw [List.map_map]
   exact List.map_congr_left fun j hj => htr j (hlt j hj)
 have hkeys : ((S.map fun j => ((E.getD j (0, [])).1, A.getD j nilS)).map (·.1)).Nodup := by
   rw [List.map_map]
   refine List.pairwise_map.2 (hnd.imp_of_mem fun {a b} ha hb hab he => ?_)
   have h1 := hlt a ha
   have h2 := hlt b hb
   simp only [Function.comp, List.getD_eq_getElem?_getD, List.getElem?_eq_getElem h1, List.getElem?_eq_getElem h2, Option.getD_some] at he
   have hp := List.pairwise_iff_getElem.1 hE.nd
   rcases Nat.lt_trichotomy a b with hh | hh | hh
   · exact hp a b (by simpa using h1) (by simpa using h2) hh (by simpa using he)
   · exact hab hh
   · exact hp b a (by simpa using h2) (by simpa using h1) hh (by simpa using he.symm)
 have hpw := sortL_pw _ hkeys
 have hperm := sortT_perm (S.map (trip E A))
 have hX : ∀ x ∈ sortT (S.map (trip E A)), ∃ j, j < E.length ∧ x = trip E A j := by
   intro x hx
   rw [hperm.mem_iff, List.mem_map] at hx
   obtain ⟨j, hj, rfl⟩ := hx
   exact ⟨j, hlt j hj, rfl⟩
 have hXs : ∀ x ∈ sortT (S.map (trip E A)), m.at_ x.2.1 = some ⟨intsA x.2.2, 3, .flat, true⟩ ∧ x.2.1 < m.next ∧ 0 < x.1 ∧ x.2.2 = cellsN hs x.1 N ∧ x.2.2 ≠ [] := by
   intro x hx
   obtain ⟨j, hj, rfl⟩ := hX x hx
   obtain ⟨ev, b, h1, h2, h3, h4, h5, h6, h7⟩ := hat j hj
   simp only [trip, List.getD_eq_getElem?_getD, h1, h2, Option.getD_some, slB]
   exact ⟨h3, h4, h5, h6, h7⟩
 refine ⟨hkeys, fun x hx => ?_, sortT (S.map (trip E A)), by rw [hL, sortT_map], fun x hx => ⟨(hXs x hx).1, (hXs x hx).2.1⟩, ?_, ?_⟩
 · rw [hL, List.mem_map] at hx
   obtain ⟨y, _, rfl⟩ := hx
   rfl
 · refine (hperm.map (·.2.1)).nodup_iff.2 ?_
   rw [List.map_map]
   refine List.pairwise_map.2 (hnd.imp_of_mem fun {a b} ha hb hab he => ?_)
   obtain ⟨ev, b1, h1, h2, _⟩ := hat a (hlt a ha)
   obtain ⟨ev', b2, h1', h2', _⟩ := hat b (hlt b hb)
   simp only [Function.comp, trip, List.getD_eq_getElem?_getD, h2, h2', Option.getD_some, slB] at he
   exact hab (hM.apart a b _ _ b1 h2 h2' rfl (by rw [he]; rfl))
 · have hvers : (sortT (S.map (trip E A))).map (·.1) = versF hs := by
     refine falls_vers ⟨?_, fun v => ?_⟩
     · rw [hL, sortT_map] at hpw
       rw [List.pairwise_map] at hpw ⊢
       exact hpw
     · constructor
       · intro hv
         obtain ⟨x, hx, rfl⟩ := List.mem_map.1 hv
         obtain ⟨_, _, h5, h6, h7⟩ := hXs x hx
         refine ⟨h5, by omega, ?_⟩
         rw [h6] at h7
         obtain ⟨c, hc⟩ := List.exists_mem_of_ne_nil _ h7
         unfold cellsN at hc
         obtain ⟨i, _, hi⟩ := List.mem_filterMap.1 hc
         split at hi
         · rename_i hh
           unfold holdsAt at hh
           cases hx2 : hs[i]? with
           | none => rw [hx2] at hh; simp at hh
           | some y =>
             rw [hx2] at hh
             simp only [Bool.or_eq_true, decide_eq_true_eq] at hh
             exact ⟨i, y, hx2, hh⟩
         · cases hi
       · rintro ⟨h1, _, i, y, hy, hh⟩
         have hil := (List.getElem?_eq_some_iff.1 hy).1
         have hne : cellsK hs v N 0 ≠ [] := by
           have : (i : Int) ∈ cellsN hs v N := by
             unfold cellsN
             rw [List.mem_filterMap]
             refine ⟨i, by rw [List.mem_range]; omega, ?_⟩
             have : holdsAt hs i v = true := by
               unfold holdsAt
               rw [hy]
               simpa using hh
             rw [if_pos this]
           intro h0
           unfold cellsK at h0
           rw [List.append_eq_nil_iff] at h0
           rw [h0.1] at this
           cases this
         obtain ⟨e, he, rfl⟩ := hE.all v h1 hne
         obtain ⟨j, hj⟩ := List.getElem?_of_mem he
         have hjl := (List.getElem?_eq_some_iff.1 hj).1
         refine List.mem_map.2 ⟨trip E A j, ?_, ?_⟩
         · rw [hperm.mem_iff]
           exact List.mem_map.2 ⟨j, hall j hjl, rfl⟩
         · simp only [trip, List.getD_eq_getElem?_getD, hj, Option.getD_some]
   rw [← hvers, List.map_map]
   exact List.map_congr_left fun x hx => by
     simp only [Function.comp]
     rw [← (hXs x hx).2.2.2.1]
theorem nestO_congr:∀ (X Y:List Trip) (n:Nat),X.map (fun x=>(x.1,x.2.2))=Y.map (fun x=>(x.1,x.2.2))→nestO n X=nestO n Y∧nestR X=nestR Y
 | [],[],n,_=>⟨rfl,rfl⟩
 | x::X,y::Y,n,h=>by
  simp only [List.map_cons,List.cons.injEq,Prod.mk.injEq] at h
  obtain ⟨⟨h1,h2⟩,h3⟩:=h
  obtain ⟨i1,i2⟩:=nestO_congr X Y (n+1) h3
  constructor
  ·show intV x.1 :: .sl n 0 x.2.2.length x.2.2.length false::nestO (n+1) X=intV y.1 :: .sl n 0 y.2.2.length y.2.2.length false::nestO (n+1) Y
   rw [h1,h2,i1]
  ·show (3,intsA x.2.2)::nestR X=(3,intsA y.2.2)::nestR Y
   rw [h2,i2]
 | [],_::_,n,h=>by simp at h
 | _::_,[],n,h=>by simp at h
def tX (hs:List (Int×Int)):List Trip:=(versF hs).map fun v=>(v,0,cellsN hs v hs.length)
def tallyR (hs:List (Int×Int)):Res:=if versF hs=[] then ⟨.tup [nilS,intV 0],[]⟩ else ⟨.tup [.sl (versF hs).length 0 (versF hs).length (versF hs).length false,intV 0],nestR (tX hs)++[(146,nestO 0 (tX hs))]⟩
end Go.Proofs.YtgcicholalgbiaaGreat