import Derived.Test.YtaekhhlgnbhnpaaGreatGmG08
import Derived.Test.YtaekhhlgnbhnpaaGreatProg
import Derived.KernelRfl
import Derived.Test.YtaekhhlgnbhnpaaGreatGmG09
import Derived.Test.YtaekhhlgnbhnpaaGreatGmG10
set_option maxRecDepth 4000
open Go Go.Tw
namespace Go.Proofs.YtaekhhlgnbhnpaaGreat
open Go.Proofs
theorem follows : Tryz.prog.follows .mixedOrders = true := by kernel_rfl
theorem ty3 : (szE Tryz.prog 3 = some 1) ∧ (byE Tryz.prog 3 = some 8) ∧ (aggE Tryz.prog 3 = some false) ∧ (elE Tryz.prog 3 = none) ∧ (arrE Tryz.prog 3 = none) ∧ (parE Tryz.prog 3 = none) ∧ (isStr Tryz.prog 3 = false) ∧ (isU8 Tryz.prog 3 = false) ∧ (notInt Tryz.prog 3 = false) ∧ (structE Tryz.prog 3 = false) ∧ (kindE Tryz.prog 3 = some .i64) ∧ (zeroE Tryz.prog 3 = some [.int .i64 0]) ∧ (kindT Tryz.prog 3 = .flat) := ⟨by kernel_rfl, by kernel_rfl, by kernel_rfl, by kernel_rfl, by kernel_rfl, by kernel_rfl, by kernel_rfl, by kernel_rfl, by kernel_rfl, by kernel_rfl, by kernel_rfl, by kernel_rfl, by kernel_rfl⟩
theorem ty4 : (szE Tryz.prog 4 = some 1) ∧ (byE Tryz.prog 4 = some 1) ∧ (aggE Tryz.prog 4 = some false) ∧ (elE Tryz.prog 4 = none) ∧ (arrE Tryz.prog 4 = none) ∧ (parE Tryz.prog 4 = none) ∧ (isStr Tryz.prog 4 = false) ∧ (isU8 Tryz.prog 4 = false) ∧ (notInt Tryz.prog 4 = true) ∧ (structE Tryz.prog 4 = false) ∧ (kindE Tryz.prog 4 = none) ∧ (zeroE Tryz.prog 4 = some [.bool false]) ∧ (kindT Tryz.prog 4 = .flat) := ⟨by kernel_rfl, by kernel_rfl, by kernel_rfl, by kernel_rfl, by kernel_rfl, by kernel_rfl, by kernel_rfl, by kernel_rfl, by kernel_rfl, by kernel_rfl, by kernel_rfl, by kernel_rfl, by kernel_rfl⟩
theorem ty5 : (szE Tryz.prog 5 = some 1) ∧ (byE Tryz.prog 5 = some 1) ∧ (aggE Tryz.prog 5 = some false) ∧ (elE Tryz.prog 5 = none) ∧ (arrE Tryz.prog 5 = none) ∧ (parE Tryz.prog 5 = none) ∧ (isStr Tryz.prog 5 = false) ∧ (isU8 Tryz.prog 5 = true) ∧ (notInt Tryz.prog 5 = false) ∧ (structE Tryz.prog 5 = false) ∧ (kindE Tryz.prog 5 = some .u8) ∧ (zeroE Tryz.prog 5 = some [.int .u8 0]) ∧ (kindT Tryz.prog 5 = .flat) := ⟨by kernel_rfl, by kernel_rfl, by kernel_rfl, by kernel_rfl, by kernel_rfl, by kernel_rfl, by kernel_rfl, by kernel_rfl, by kernel_rfl, by kernel_rfl, by kernel_rfl, by kernel_rfl, by kernel_rfl⟩
theorem ty9 : (szE Tryz.prog 9 = some 1) ∧ (byE Tryz.prog 9 = some 16) ∧ (aggE Tryz.prog 9 = some false) ∧ (elE Tryz.prog 9 = none) ∧ (arrE Tryz.prog 9 = none) ∧ (parE Tryz.prog 9 = none) ∧ (isStr Tryz.prog 9 = true) ∧ (isU8 Tryz.prog 9 = false) ∧ (notInt Tryz.prog 9 = true) ∧ (structE Tryz.prog 9 = false) ∧ (kindE Tryz.prog 9 = none) ∧ (zeroE Tryz.prog 9 = some [.string .empty]) ∧ (kindT Tryz.prog 9 = .flat) := ⟨by kernel_rfl, by kernel_rfl, by kernel_rfl, by kernel_rfl, by kernel_rfl, by kernel_rfl, by kernel_rfl, by kernel_rfl, by kernel_rfl, by kernel_rfl, by kernel_rfl, by kernel_rfl, by kernel_rfl⟩
theorem ty23 : (szE Tryz.prog 23 = some 4) ∧ (byE Tryz.prog 23 = some 32) ∧ (aggE Tryz.prog 23 = some true) ∧ (elE Tryz.prog 23 = none) ∧ (arrE Tryz.prog 23 = none) ∧ (parE Tryz.prog 23 = none) ∧ (isStr Tryz.prog 23 = false) ∧ (isU8 Tryz.prog 23 = false) ∧ (notInt Tryz.prog 23 = true) ∧ (structE Tryz.prog 23 = true) ∧ (kindE Tryz.prog 23 = none) ∧ (fldE Tryz.prog 23 0 = some (0, 3)) ∧ (fldE Tryz.prog 23 1 = some (1, 3)) ∧ (fldE Tryz.prog 23 2 = some (2, 3)) ∧ (fldE Tryz.prog 23 3 = some (3, 3)) ∧ (zeroE Tryz.prog 23 = some [.int .i64 0, .int .i64 0, .int .i64 0, .int .i64 0]) ∧ (kindT Tryz.prog 23 = .flat) := ⟨by kernel_rfl, by kernel_rfl, by kernel_rfl, by kernel_rfl, by kernel_rfl, by kernel_rfl, by kernel_rfl, by kernel_rfl, by kernel_rfl, by kernel_rfl, by kernel_rfl, by kernel_rfl, by kernel_rfl, by kernel_rfl, by kernel_rfl, by kernel_rfl, by kernel_rfl⟩
theorem ty24 : (szE Tryz.prog 24 = some 1) ∧ (byE Tryz.prog 24 = some 24) ∧ (aggE Tryz.prog 24 = some false) ∧ (elE Tryz.prog 24 = some 131) ∧ (arrE Tryz.prog 24 = none) ∧ (parE Tryz.prog 24 = none) ∧ (isStr Tryz.prog 24 = false) ∧ (isU8 Tryz.prog 24 = false) ∧ (notInt Tryz.prog 24 = true) ∧ (structE Tryz.prog 24 = false) ∧ (kindE Tryz.prog 24 = none) ∧ (zeroE Tryz.prog 24 = some [.slice none 0 0]) ∧ (kindT Tryz.prog 24 = .var) := ⟨by kernel_rfl, by kernel_rfl, by kernel_rfl, by kernel_rfl, by kernel_rfl, by kernel_rfl, by kernel_rfl, by kernel_rfl, by kernel_rfl, by kernel_rfl, by kernel_rfl, by kernel_rfl, by kernel_rfl⟩
theorem ty25 : (szE Tryz.prog 25 = some 1) ∧ (byE Tryz.prog 25 = some 24) ∧ (aggE Tryz.prog 25 = some false) ∧ (elE Tryz.prog 25 = some 4) ∧ (arrE Tryz.prog 25 = none) ∧ (parE Tryz.prog 25 = none) ∧ (isStr Tryz.prog 25 = false) ∧ (isU8 Tryz.prog 25 = false) ∧ (notInt Tryz.prog 25 = true) ∧ (structE Tryz.prog 25 = false) ∧ (kindE Tryz.prog 25 = none) ∧ (zeroE Tryz.prog 25 = some [.slice none 0 0]) ∧ (kindT Tryz.prog 25 = .var) := ⟨by kernel_rfl, by kernel_rfl, by kernel_rfl, by kernel_rfl, by kernel_rfl, by kernel_rfl, by kernel_rfl, by kernel_rfl, by kernel_rfl, by kernel_rfl, by kernel_rfl, by kernel_rfl, by kernel_rfl⟩
theorem ty27 : (szE Tryz.prog 27 = some 1) ∧ (byE Tryz.prog 27 = some 24) ∧ (aggE Tryz.prog 27 = some false) ∧ (elE Tryz.prog 27 = some 69) ∧ (arrE Tryz.prog 27 = none) ∧ (parE Tryz.prog 27 = none) ∧ (isStr Tryz.prog 27 = false) ∧ (isU8 Tryz.prog 27 = false) ∧ (notInt Tryz.prog 27 = true) ∧ (structE Tryz.prog 27 = false) ∧ (kindE Tryz.prog 27 = none) ∧ (zeroE Tryz.prog 27 = some [.slice none 0 0]) ∧ (kindT Tryz.prog 27 = .var) := ⟨by kernel_rfl, by kernel_rfl, by kernel_rfl, by kernel_rfl, by kernel_rfl, by kernel_rfl, by kernel_rfl, by kernel_rfl, by kernel_rfl, by kernel_rfl, by kernel_rfl, by kernel_rfl, by kernel_rfl⟩
theorem ty28 : (szE Tryz.prog 28 = some 1) ∧ (byE Tryz.prog 28 = some 8) ∧ (aggE Tryz.prog 28 = some false) ∧ (elE Tryz.prog 28 = none) ∧ (arrE Tryz.prog 28 = none) ∧ (parE Tryz.prog 28 = none) ∧ (isStr Tryz.prog 28 = false) ∧ (isU8 Tryz.prog 28 = false) ∧ (notInt Tryz.prog 28 = false) ∧ (structE Tryz.prog 28 = false) ∧ (kindE Tryz.prog 28 = some .i64) ∧ (zeroE Tryz.prog 28 = some [.int .i64 0]) ∧ (kindT Tryz.prog 28 = .flat) := ⟨by kernel_rfl, by kernel_rfl, by kernel_rfl, by kernel_rfl, by kernel_rfl, by kernel_rfl, by kernel_rfl, by kernel_rfl, by kernel_rfl, by kernel_rfl, by kernel_rfl, by kernel_rfl, by kernel_rfl⟩
theorem ty29 : (szE Tryz.prog 29 = some 1) ∧ (byE Tryz.prog 29 = some 0) ∧ (aggE Tryz.prog 29 = some false) ∧ (elE Tryz.prog 29 = none) ∧ (arrE Tryz.prog 29 = none) ∧ (parE Tryz.prog 29 = none) ∧ (isStr Tryz.prog 29 = false) ∧ (isU8 Tryz.prog 29 = false) ∧ (notInt Tryz.prog 29 = true) ∧ (structE Tryz.prog 29 = false) ∧ (kindE Tryz.prog 29 = none) := ⟨by kernel_rfl, by kernel_rfl, by kernel_rfl, by kernel_rfl, by kernel_rfl, by kernel_rfl, by kernel_rfl, by kernel_rfl, by kernel_rfl, by kernel_rfl, by kernel_rfl⟩
theorem ty31 : (szE Tryz.prog 31 = some 1) ∧ (byE Tryz.prog 31 = some 24) ∧ (aggE Tryz.prog 31 = some false) ∧ (elE Tryz.prog 31 = some 67) ∧ (arrE Tryz.prog 31 = none) ∧ (parE Tryz.prog 31 = none) ∧ (isStr Tryz.prog 31 = false) ∧ (isU8 Tryz.prog 31 = false) ∧ (notInt Tryz.prog 31 = true) ∧ (structE Tryz.prog 31 = false) ∧ (kindE Tryz.prog 31 = none) ∧ (zeroE Tryz.prog 31 = some [.slice none 0 0]) ∧ (kindT Tryz.prog 31 = .var) := ⟨by kernel_rfl, by kernel_rfl, by kernel_rfl, by kernel_rfl, by kernel_rfl, by kernel_rfl, by kernel_rfl, by kernel_rfl, by kernel_rfl, by kernel_rfl, by kernel_rfl, by kernel_rfl, by kernel_rfl⟩
theorem ty33 : (szE Tryz.prog 33 = some 3) ∧ (byE Tryz.prog 33 = some 40) ∧ (aggE Tryz.prog 33 = some true) ∧ (elE Tryz.prog 33 = none) ∧ (arrE Tryz.prog 33 = none) ∧ (parE Tryz.prog 33 = none) ∧ (isStr Tryz.prog 33 = false) ∧ (isU8 Tryz.prog 33 = false) ∧ (notInt Tryz.prog 33 = true) ∧ (structE Tryz.prog 33 = true) ∧ (kindE Tryz.prog 33 = none) ∧ (fldE Tryz.prog 33 0 = some (0, 3)) ∧ (fldE Tryz.prog 33 1 = some (1, 3)) ∧ (fldE Tryz.prog 33 2 = some (2, 31)) ∧ (zeroE Tryz.prog 33 = some [.int .i64 0, .int .i64 0, .slice none 0 0]) ∧ (kindT Tryz.prog 33 = .var) := ⟨by kernel_rfl, by kernel_rfl, by kernel_rfl, by kernel_rfl, by kernel_rfl, by kernel_rfl, by kernel_rfl, by kernel_rfl, by kernel_rfl, by kernel_rfl, by kernel_rfl, by kernel_rfl, by kernel_rfl, by kernel_rfl, by kernel_rfl, by kernel_rfl⟩
theorem ty34 : (szE Tryz.prog 34 = some 1) ∧ (byE Tryz.prog 34 = some 0) ∧ (aggE Tryz.prog 34 = some false) ∧ (elE Tryz.prog 34 = none) ∧ (arrE Tryz.prog 34 = none) ∧ (parE Tryz.prog 34 = none) ∧ (isStr Tryz.prog 34 = false) ∧ (isU8 Tryz.prog 34 = false) ∧ (notInt Tryz.prog 34 = true) ∧ (structE Tryz.prog 34 = false) ∧ (kindE Tryz.prog 34 = none) := ⟨by kernel_rfl, by kernel_rfl, by kernel_rfl, by kernel_rfl, by kernel_rfl, by kernel_rfl, by kernel_rfl, by kernel_rfl, by kernel_rfl, by kernel_rfl, by kernel_rfl⟩
theorem ty38 : (szE Tryz.prog 38 = some 1) ∧ (byE Tryz.prog 38 = some 0) ∧ (aggE Tryz.prog 38 = some false) ∧ (elE Tryz.prog 38 = none) ∧ (arrE Tryz.prog 38 = none) ∧ (parE Tryz.prog 38 = none) ∧ (isStr Tryz.prog 38 = false) ∧ (isU8 Tryz.prog 38 = false) ∧ (notInt Tryz.prog 38 = true) ∧ (structE Tryz.prog 38 = false) ∧ (kindE Tryz.prog 38 = none) := ⟨by kernel_rfl, by kernel_rfl, by kernel_rfl, by kernel_rfl, by kernel_rfl, by kernel_rfl, by kernel_rfl, by kernel_rfl, by kernel_rfl, by kernel_rfl, by kernel_rfl⟩
theorem ty41 : (szE Tryz.prog 41 = some 1) ∧ (byE Tryz.prog 41 = some 24) ∧ (aggE Tryz.prog 41 = some false) ∧ (elE Tryz.prog 41 = some 3) ∧ (arrE Tryz.prog 41 = none) ∧ (parE Tryz.prog 41 = none) ∧ (isStr Tryz.prog 41 = false) ∧ (isU8 Tryz.prog 41 = false) ∧ (notInt Tryz.prog 41 = true) ∧ (structE Tryz.prog 41 = false) ∧ (kindE Tryz.prog 41 = none) ∧ (zeroE Tryz.prog 41 = some [.slice none 0 0]) ∧ (kindT Tryz.prog 41 = .var) := ⟨by kernel_rfl, by kernel_rfl, by kernel_rfl, by kernel_rfl, by kernel_rfl, by kernel_rfl, by kernel_rfl, by kernel_rfl, by kernel_rfl, by kernel_rfl, by kernel_rfl, by kernel_rfl, by kernel_rfl⟩
theorem ty42 : (szE Tryz.prog 42 = some 1) ∧ (byE Tryz.prog 42 = some 0) ∧ (aggE Tryz.prog 42 = some false) ∧ (elE Tryz.prog 42 = none) ∧ (arrE Tryz.prog 42 = none) ∧ (parE Tryz.prog 42 = none) ∧ (isStr Tryz.prog 42 = false) ∧ (isU8 Tryz.prog 42 = false) ∧ (notInt Tryz.prog 42 = true) ∧ (structE Tryz.prog 42 = false) ∧ (kindE Tryz.prog 42 = none) := ⟨by kernel_rfl, by kernel_rfl, by kernel_rfl, by kernel_rfl, by kernel_rfl, by kernel_rfl, by kernel_rfl, by kernel_rfl, by kernel_rfl, by kernel_rfl, by kernel_rfl⟩
theorem ty45 : (szE Tryz.prog 45 = some 1) ∧ (byE Tryz.prog 45 = some 24) ∧ (aggE Tryz.prog 45 = some false) ∧ (elE Tryz.prog 45 = some 52) ∧ (arrE Tryz.prog 45 = none) ∧ (parE Tryz.prog 45 = none) ∧ (isStr Tryz.prog 45 = false) ∧ (isU8 Tryz.prog 45 = false) ∧ (notInt Tryz.prog 45 = true) ∧ (structE Tryz.prog 45 = false) ∧ (kindE Tryz.prog 45 = none) ∧ (zeroE Tryz.prog 45 = some [.slice none 0 0]) ∧ (kindT Tryz.prog 45 = .var) := ⟨by kernel_rfl, by kernel_rfl, by kernel_rfl, by kernel_rfl, by kernel_rfl, by kernel_rfl, by kernel_rfl, by kernel_rfl, by kernel_rfl, by kernel_rfl, by kernel_rfl, by kernel_rfl, by kernel_rfl⟩
theorem ty50 : (szE Tryz.prog 50 = some 1) ∧ (byE Tryz.prog 50 = some 0) ∧ (aggE Tryz.prog 50 = some false) ∧ (elE Tryz.prog 50 = none) ∧ (arrE Tryz.prog 50 = none) ∧ (parE Tryz.prog 50 = none) ∧ (isStr Tryz.prog 50 = false) ∧ (isU8 Tryz.prog 50 = false) ∧ (notInt Tryz.prog 50 = true) ∧ (structE Tryz.prog 50 = false) ∧ (kindE Tryz.prog 50 = none) := ⟨by kernel_rfl, by kernel_rfl, by kernel_rfl, by kernel_rfl, by kernel_rfl, by kernel_rfl, by kernel_rfl, by kernel_rfl, by kernel_rfl, by kernel_rfl, by kernel_rfl⟩
theorem ty52 : (szE Tryz.prog 52 = some 1) ∧ (byE Tryz.prog 52 = some 24) ∧ (aggE Tryz.prog 52 = some false) ∧ (elE Tryz.prog 52 = some 5) ∧ (arrE Tryz.prog 52 = none) ∧ (parE Tryz.prog 52 = none) ∧ (isStr Tryz.prog 52 = false) ∧ (isU8 Tryz.prog 52 = false) ∧ (notInt Tryz.prog 52 = true) ∧ (structE Tryz.prog 52 = false) ∧ (kindE Tryz.prog 52 = none) ∧ (zeroE Tryz.prog 52 = some [.slice none 0 0]) ∧ (kindT Tryz.prog 52 = .var) := ⟨by kernel_rfl, by kernel_rfl, by kernel_rfl, by kernel_rfl, by kernel_rfl, by kernel_rfl, by kernel_rfl, by kernel_rfl, by kernel_rfl, by kernel_rfl, by kernel_rfl, by kernel_rfl, by kernel_rfl⟩
theorem ty53 : (szE Tryz.prog 53 = some 1) ∧ (byE Tryz.prog 53 = some 0) ∧ (aggE Tryz.prog 53 = some false) ∧ (elE Tryz.prog 53 = none) ∧ (arrE Tryz.prog 53 = none) ∧ (parE Tryz.prog 53 = none) ∧ (isStr Tryz.prog 53 = false) ∧ (isU8 Tryz.prog 53 = false) ∧ (notInt Tryz.prog 53 = true) ∧ (structE Tryz.prog 53 = false) ∧ (kindE Tryz.prog 53 = none) := ⟨by kernel_rfl, by kernel_rfl, by kernel_rfl, by kernel_rfl, by kernel_rfl, by kernel_rfl, by kernel_rfl, by kernel_rfl, by kernel_rfl, by kernel_rfl, by kernel_rfl⟩
theorem ty67 : (szE Tryz.prog 67 = some 2) ∧ (byE Tryz.prog 67 = some 16) ∧ (aggE Tryz.prog 67 = some true) ∧ (elE Tryz.prog 67 = none) ∧ (arrE Tryz.prog 67 = none) ∧ (parE Tryz.prog 67 = none) ∧ (isStr Tryz.prog 67 = false) ∧ (isU8 Tryz.prog 67 = false) ∧ (notInt Tryz.prog 67 = true) ∧ (structE Tryz.prog 67 = true) ∧ (kindE Tryz.prog 67 = none) ∧ (fldE Tryz.prog 67 0 = some (0, 3)) ∧ (fldE Tryz.prog 67 1 = some (1, 3)) ∧ (zeroE Tryz.prog 67 = some [.int .i64 0, .int .i64 0]) ∧ (kindT Tryz.prog 67 = .flat) := ⟨by kernel_rfl, by kernel_rfl, by kernel_rfl, by kernel_rfl, by kernel_rfl, by kernel_rfl, by kernel_rfl, by kernel_rfl, by kernel_rfl, by kernel_rfl, by kernel_rfl, by kernel_rfl, by kernel_rfl, by kernel_rfl, by kernel_rfl⟩
theorem ty69 : (szE Tryz.prog 69 = some 4) ∧ (byE Tryz.prog 69 = some 48) ∧ (aggE Tryz.prog 69 = some true) ∧ (elE Tryz.prog 69 = none) ∧ (arrE Tryz.prog 69 = none) ∧ (parE Tryz.prog 69 = none) ∧ (isStr Tryz.prog 69 = false) ∧ (isU8 Tryz.prog 69 = false) ∧ (notInt Tryz.prog 69 = true) ∧ (structE Tryz.prog 69 = true) ∧ (kindE Tryz.prog 69 = none) ∧ (fldE Tryz.prog 69 0 = some (0, 3)) ∧ (fldE Tryz.prog 69 1 = some (1, 3)) ∧ (fldE Tryz.prog 69 2 = some (2, 3)) ∧ (fldE Tryz.prog 69 3 = some (3, 52)) ∧ (zeroE Tryz.prog 69 = some [.int .i64 0, .int .i64 0, .int .i64 0, .slice none 0 0]) ∧ (kindT Tryz.prog 69 = .var) := ⟨by kernel_rfl, by kernel_rfl, by kernel_rfl, by kernel_rfl, by kernel_rfl, by kernel_rfl, by kernel_rfl, by kernel_rfl, by kernel_rfl, by kernel_rfl, by kernel_rfl, by kernel_rfl, by kernel_rfl, by kernel_rfl, by kernel_rfl, by kernel_rfl, by kernel_rfl⟩
theorem ty108 : (szE Tryz.prog 108 = some 1) ∧ (byE Tryz.prog 108 = some 0) ∧ (aggE Tryz.prog 108 = some false) ∧ (elE Tryz.prog 108 = none) ∧ (arrE Tryz.prog 108 = none) ∧ (parE Tryz.prog 108 = none) ∧ (isStr Tryz.prog 108 = false) ∧ (isU8 Tryz.prog 108 = false) ∧ (notInt Tryz.prog 108 = true) ∧ (structE Tryz.prog 108 = false) ∧ (kindE Tryz.prog 108 = none) := ⟨by kernel_rfl, by kernel_rfl, by kernel_rfl, by kernel_rfl, by kernel_rfl, by kernel_rfl, by kernel_rfl, by kernel_rfl, by kernel_rfl, by kernel_rfl, by kernel_rfl⟩
theorem ty118 : (szE Tryz.prog 118 = some 5) ∧ (byE Tryz.prog 118 = some 56) ∧ (aggE Tryz.prog 118 = some true) ∧ (elE Tryz.prog 118 = none) ∧ (arrE Tryz.prog 118 = none) ∧ (parE Tryz.prog 118 = none) ∧ (isStr Tryz.prog 118 = false) ∧ (isU8 Tryz.prog 118 = false) ∧ (notInt Tryz.prog 118 = true) ∧ (structE Tryz.prog 118 = true) ∧ (kindE Tryz.prog 118 = none) ∧ (fldE Tryz.prog 118 0 = some (0, 23)) ∧ (fldE Tryz.prog 118 1 = some (4, 24)) ∧ (zeroE Tryz.prog 118 = some [.int .i64 0, .int .i64 0, .int .i64 0, .int .i64 0, .slice none 0 0]) ∧ (kindT Tryz.prog 118 = .var) := ⟨by kernel_rfl, by kernel_rfl, by kernel_rfl, by kernel_rfl, by kernel_rfl, by kernel_rfl, by kernel_rfl, by kernel_rfl, by kernel_rfl, by kernel_rfl, by kernel_rfl, by kernel_rfl, by kernel_rfl, by kernel_rfl, by kernel_rfl⟩
theorem ty120 : (szE Tryz.prog 120 = some 1) ∧ (byE Tryz.prog 120 = some 8) ∧ (aggE Tryz.prog 120 = some false) ∧ (elE Tryz.prog 120 = none) ∧ (arrE Tryz.prog 120 = none) ∧ (parE Tryz.prog 120 = none) ∧ (isStr Tryz.prog 120 = false) ∧ (isU8 Tryz.prog 120 = false) ∧ (notInt Tryz.prog 120 = true) ∧ (structE Tryz.prog 120 = false) ∧ (kindE Tryz.prog 120 = none) ∧ (zeroE Tryz.prog 120 = some [.nilFunc]) ∧ (kindT Tryz.prog 120 = .var) := ⟨by kernel_rfl, by kernel_rfl, by kernel_rfl, by kernel_rfl, by kernel_rfl, by kernel_rfl, by kernel_rfl, by kernel_rfl, by kernel_rfl, by kernel_rfl, by kernel_rfl, by kernel_rfl, by kernel_rfl⟩
theorem ty124 : (szE Tryz.prog 124 = some 1) ∧ (byE Tryz.prog 124 = some 0) ∧ (aggE Tryz.prog 124 = some false) ∧ (elE Tryz.prog 124 = none) ∧ (arrE Tryz.prog 124 = none) ∧ (parE Tryz.prog 124 = none) ∧ (isStr Tryz.prog 124 = false) ∧ (isU8 Tryz.prog 124 = false) ∧ (notInt Tryz.prog 124 = true) ∧ (structE Tryz.prog 124 = false) ∧ (kindE Tryz.prog 124 = none) := ⟨by kernel_rfl, by kernel_rfl, by kernel_rfl, by kernel_rfl, by kernel_rfl, by kernel_rfl, by kernel_rfl, by kernel_rfl, by kernel_rfl, by kernel_rfl, by kernel_rfl⟩
theorem ty127 : (szE Tryz.prog 127 = some 6) ∧ (byE Tryz.prog 127 = some 80) ∧ (aggE Tryz.prog 127 = some true) ∧ (elE Tryz.prog 127 = none) ∧ (arrE Tryz.prog 127 = none) ∧ (parE Tryz.prog 127 = none) ∧ (isStr Tryz.prog 127 = false) ∧ (isU8 Tryz.prog 127 = false) ∧ (notInt Tryz.prog 127 = true) ∧ (structE Tryz.prog 127 = true) ∧ (kindE Tryz.prog 127 = none) ∧ (fldE Tryz.prog 127 0 = some (0, 5)) ∧ (fldE Tryz.prog 127 1 = some (1, 3)) ∧ (fldE Tryz.prog 127 2 = some (2, 3)) ∧ (fldE Tryz.prog 127 3 = some (3, 3)) ∧ (fldE Tryz.prog 127 4 = some (4, 41)) ∧ (fldE Tryz.prog 127 5 = some (5, 52)) ∧ (zeroE Tryz.prog 127 = some [.int .u8 0, .int .i64 0, .int .i64 0, .int .i64 0, .slice none 0 0, .slice none 0 0]) ∧ (kindT Tryz.prog 127 = .var) := ⟨by kernel_rfl, by kernel_rfl, by kernel_rfl, by kernel_rfl, by kernel_rfl, by kernel_rfl, by kernel_rfl, by kernel_rfl, by kernel_rfl, by kernel_rfl, by kernel_rfl, by kernel_rfl, by kernel_rfl, by kernel_rfl, by kernel_rfl, by kernel_rfl, by kernel_rfl, by kernel_rfl, by kernel_rfl⟩
theorem ty128 : (szE Tryz.prog 128 = some 1) ∧ (byE Tryz.prog 128 = some 0) ∧ (aggE Tryz.prog 128 = some false) ∧ (elE Tryz.prog 128 = none) ∧ (arrE Tryz.prog 128 = none) ∧ (parE Tryz.prog 128 = none) ∧ (isStr Tryz.prog 128 = false) ∧ (isU8 Tryz.prog 128 = false) ∧ (notInt Tryz.prog 128 = true) ∧ (structE Tryz.prog 128 = false) ∧ (kindE Tryz.prog 128 = none) := ⟨by kernel_rfl, by kernel_rfl, by kernel_rfl, by kernel_rfl, by kernel_rfl, by kernel_rfl, by kernel_rfl, by kernel_rfl, by kernel_rfl, by kernel_rfl, by kernel_rfl⟩
theorem ty131 : (szE Tryz.prog 131 = some 2) ∧ (byE Tryz.prog 131 = some 48) ∧ (aggE Tryz.prog 131 = some true) ∧ (elE Tryz.prog 131 = none) ∧ (arrE Tryz.prog 131 = some (2, 52)) ∧ (parE Tryz.prog 131 = none) ∧ (isStr Tryz.prog 131 = false) ∧ (isU8 Tryz.prog 131 = false) ∧ (notInt Tryz.prog 131 = true) ∧ (structE Tryz.prog 131 = false) ∧ (kindE Tryz.prog 131 = none) ∧ (zeroE Tryz.prog 131 = some [.slice none 0 0, .slice none 0 0]) ∧ (kindT Tryz.prog 131 = .var) := ⟨by kernel_rfl, by kernel_rfl, by kernel_rfl, by kernel_rfl, by kernel_rfl, by kernel_rfl, by kernel_rfl, by kernel_rfl, by kernel_rfl, by kernel_rfl, by kernel_rfl, by kernel_rfl, by kernel_rfl⟩
theorem ty132 : (szE Tryz.prog 132 = some 1) ∧ (byE Tryz.prog 132 = some 24) ∧ (aggE Tryz.prog 132 = some false) ∧ (elE Tryz.prog 132 = some 136) ∧ (arrE Tryz.prog 132 = none) ∧ (parE Tryz.prog 132 = none) ∧ (isStr Tryz.prog 132 = false) ∧ (isU8 Tryz.prog 132 = false) ∧ (notInt Tryz.prog 132 = true) ∧ (structE Tryz.prog 132 = false) ∧ (kindE Tryz.prog 132 = none) ∧ (zeroE Tryz.prog 132 = some [.slice none 0 0]) ∧ (kindT Tryz.prog 132 = .var) := ⟨by kernel_rfl, by kernel_rfl, by kernel_rfl, by kernel_rfl, by kernel_rfl, by kernel_rfl, by kernel_rfl, by kernel_rfl, by kernel_rfl, by kernel_rfl, by kernel_rfl, by kernel_rfl, by kernel_rfl⟩
theorem ty133 : (szE Tryz.prog 133 = some 1) ∧ (byE Tryz.prog 133 = some 0) ∧ (aggE Tryz.prog 133 = some false) ∧ (elE Tryz.prog 133 = none) ∧ (arrE Tryz.prog 133 = none) ∧ (parE Tryz.prog 133 = none) ∧ (isStr Tryz.prog 133 = false) ∧ (isU8 Tryz.prog 133 = false) ∧ (notInt Tryz.prog 133 = true) ∧ (structE Tryz.prog 133 = false) ∧ (kindE Tryz.prog 133 = none) := ⟨by kernel_rfl, by kernel_rfl, by kernel_rfl, by kernel_rfl, by kernel_rfl, by kernel_rfl, by kernel_rfl, by kernel_rfl, by kernel_rfl, by kernel_rfl, by kernel_rfl⟩
theorem ty136 : (szE Tryz.prog 136 = some 2) ∧ (byE Tryz.prog 136 = some 16) ∧ (aggE Tryz.prog 136 = some true) ∧ (elE Tryz.prog 136 = none) ∧ (arrE Tryz.prog 136 = some (2, 3)) ∧ (parE Tryz.prog 136 = none) ∧ (isStr Tryz.prog 136 = false) ∧ (isU8 Tryz.prog 136 = false) ∧ (notInt Tryz.prog 136 = true) ∧ (structE Tryz.prog 136 = false) ∧ (kindE Tryz.prog 136 = none) ∧ (zeroE Tryz.prog 136 = some [.int .i64 0, .int .i64 0]) ∧ (kindT Tryz.prog 136 = .flat) := ⟨by kernel_rfl, by kernel_rfl, by kernel_rfl, by kernel_rfl, by kernel_rfl, by kernel_rfl, by kernel_rfl, by kernel_rfl, by kernel_rfl, by kernel_rfl, by kernel_rfl, by kernel_rfl, by kernel_rfl⟩
theorem ty140 : (szE Tryz.prog 140 = some 1) ∧ (byE Tryz.prog 140 = some 8) ∧ (aggE Tryz.prog 140 = some false) ∧ (elE Tryz.prog 140 = none) ∧ (arrE Tryz.prog 140 = none) ∧ (parE Tryz.prog 140 = none) ∧ (isStr Tryz.prog 140 = false) ∧ (isU8 Tryz.prog 140 = false) ∧ (notInt Tryz.prog 140 = true) ∧ (structE Tryz.prog 140 = false) ∧ (kindE Tryz.prog 140 = none) ∧ (zeroE Tryz.prog 140 = some [.nilFunc]) ∧ (kindT Tryz.prog 140 = .var) := ⟨by kernel_rfl, by kernel_rfl, by kernel_rfl, by kernel_rfl, by kernel_rfl, by kernel_rfl, by kernel_rfl, by kernel_rfl, by kernel_rfl, by kernel_rfl, by kernel_rfl, by kernel_rfl, by kernel_rfl⟩
theorem ty151 : (szE Tryz.prog 151 = some 1) ∧ (byE Tryz.prog 151 = some 8) ∧ (aggE Tryz.prog 151 = some false) ∧ (elE Tryz.prog 151 = none) ∧ (arrE Tryz.prog 151 = none) ∧ (parE Tryz.prog 151 = none) ∧ (isStr Tryz.prog 151 = false) ∧ (isU8 Tryz.prog 151 = false) ∧ (notInt Tryz.prog 151 = true) ∧ (structE Tryz.prog 151 = false) ∧ (kindE Tryz.prog 151 = none) ∧ (zeroE Tryz.prog 151 = some [.nilFunc]) ∧ (kindT Tryz.prog 151 = .var) := ⟨by kernel_rfl, by kernel_rfl, by kernel_rfl, by kernel_rfl, by kernel_rfl, by kernel_rfl, by kernel_rfl, by kernel_rfl, by kernel_rfl, by kernel_rfl, by kernel_rfl, by kernel_rfl, by kernel_rfl⟩
theorem ty157 : (szE Tryz.prog 157 = some 1) ∧ (byE Tryz.prog 157 = some 0) ∧ (aggE Tryz.prog 157 = some false) ∧ (elE Tryz.prog 157 = none) ∧ (arrE Tryz.prog 157 = none) ∧ (parE Tryz.prog 157 = none) ∧ (isStr Tryz.prog 157 = false) ∧ (isU8 Tryz.prog 157 = false) ∧ (notInt Tryz.prog 157 = true) ∧ (structE Tryz.prog 157 = false) ∧ (kindE Tryz.prog 157 = none) := ⟨by kernel_rfl, by kernel_rfl, by kernel_rfl, by kernel_rfl, by kernel_rfl, by kernel_rfl, by kernel_rfl, by kernel_rfl, by kernel_rfl, by kernel_rfl, by kernel_rfl⟩
theorem ty168 : (szE Tryz.prog 168 = some 1) ∧ (byE Tryz.prog 168 = some 0) ∧ (aggE Tryz.prog 168 = some false) ∧ (elE Tryz.prog 168 = none) ∧ (arrE Tryz.prog 168 = none) ∧ (parE Tryz.prog 168 = none) ∧ (isStr Tryz.prog 168 = false) ∧ (isU8 Tryz.prog 168 = false) ∧ (notInt Tryz.prog 168 = true) ∧ (structE Tryz.prog 168 = false) ∧ (kindE Tryz.prog 168 = none) := ⟨by kernel_rfl, by kernel_rfl, by kernel_rfl, by kernel_rfl, by kernel_rfl, by kernel_rfl, by kernel_rfl, by kernel_rfl, by kernel_rfl, by kernel_rfl, by kernel_rfl⟩
theorem ty185 : (szE Tryz.prog 185 = some 1) ∧ (byE Tryz.prog 185 = some 8) ∧ (aggE Tryz.prog 185 = some false) ∧ (elE Tryz.prog 185 = none) ∧ (arrE Tryz.prog 185 = none) ∧ (parE Tryz.prog 185 = none) ∧ (isStr Tryz.prog 185 = false) ∧ (isU8 Tryz.prog 185 = false) ∧ (notInt Tryz.prog 185 = true) ∧ (structE Tryz.prog 185 = false) ∧ (kindE Tryz.prog 185 = none) ∧ (zeroE Tryz.prog 185 = some [.pointer none]) ∧ (kindT Tryz.prog 185 = .var) := ⟨by kernel_rfl, by kernel_rfl, by kernel_rfl, by kernel_rfl, by kernel_rfl, by kernel_rfl, by kernel_rfl, by kernel_rfl, by kernel_rfl, by kernel_rfl, by kernel_rfl, by kernel_rfl, by kernel_rfl⟩
theorem ty186 : (szE Tryz.prog 186 = some 1) ∧ (byE Tryz.prog 186 = some 0) ∧ (aggE Tryz.prog 186 = some false) ∧ (elE Tryz.prog 186 = none) ∧ (arrE Tryz.prog 186 = none) ∧ (parE Tryz.prog 186 = none) ∧ (isStr Tryz.prog 186 = false) ∧ (isU8 Tryz.prog 186 = false) ∧ (notInt Tryz.prog 186 = true) ∧ (structE Tryz.prog 186 = false) ∧ (kindE Tryz.prog 186 = none) := ⟨by kernel_rfl, by kernel_rfl, by kernel_rfl, by kernel_rfl, by kernel_rfl, by kernel_rfl, by kernel_rfl, by kernel_rfl, by kernel_rfl, by kernel_rfl, by kernel_rfl⟩
theorem ty188 : (szE Tryz.prog 188 = some 1) ∧ (byE Tryz.prog 188 = some 0) ∧ (aggE Tryz.prog 188 = some false) ∧ (elE Tryz.prog 188 = none) ∧ (arrE Tryz.prog 188 = none) ∧ (parE Tryz.prog 188 = none) ∧ (isStr Tryz.prog 188 = false) ∧ (isU8 Tryz.prog 188 = false) ∧ (notInt Tryz.prog 188 = true) ∧ (structE Tryz.prog 188 = false) ∧ (kindE Tryz.prog 188 = none) := ⟨by kernel_rfl, by kernel_rfl, by kernel_rfl, by kernel_rfl, by kernel_rfl, by kernel_rfl, by kernel_rfl, by kernel_rfl, by kernel_rfl, by kernel_rfl, by kernel_rfl⟩
theorem ty191 : (szE Tryz.prog 191 = some 1) ∧ (byE Tryz.prog 191 = some 8) ∧ (aggE Tryz.prog 191 = some false) ∧ (elE Tryz.prog 191 = none) ∧ (arrE Tryz.prog 191 = none) ∧ (parE Tryz.prog 191 = none) ∧ (isStr Tryz.prog 191 = false) ∧ (isU8 Tryz.prog 191 = false) ∧ (notInt Tryz.prog 191 = true) ∧ (structE Tryz.prog 191 = false) ∧ (kindE Tryz.prog 191 = none) ∧ (zeroE Tryz.prog 191 = some [.nilFunc]) ∧ (kindT Tryz.prog 191 = .var) := ⟨by kernel_rfl, by kernel_rfl, by kernel_rfl, by kernel_rfl, by kernel_rfl, by kernel_rfl, by kernel_rfl, by kernel_rfl, by kernel_rfl, by kernel_rfl, by kernel_rfl, by kernel_rfl, by kernel_rfl⟩
theorem ty195 : (szE Tryz.prog 195 = some 8) ∧ (byE Tryz.prog 195 = some 112) ∧ (aggE Tryz.prog 195 = some true) ∧ (elE Tryz.prog 195 = none) ∧ (arrE Tryz.prog 195 = none) ∧ (parE Tryz.prog 195 = none) ∧ (isStr Tryz.prog 195 = false) ∧ (isU8 Tryz.prog 195 = false) ∧ (notInt Tryz.prog 195 = true) ∧ (structE Tryz.prog 195 = true) ∧ (kindE Tryz.prog 195 = none) ∧ (fldE Tryz.prog 195 0 = some (0, 23)) ∧ (fldE Tryz.prog 195 1 = some (4, 24)) ∧ (fldE Tryz.prog 195 2 = some (5, 3)) ∧ (fldE Tryz.prog 195 3 = some (6, 41)) ∧ (fldE Tryz.prog 195 4 = some (7, 27)) ∧ (zeroE Tryz.prog 195 = some [.int .i64 0, .int .i64 0, .int .i64 0, .int .i64 0, .slice none 0 0, .int .i64 0, .slice none 0 0, .slice none 0 0]) ∧ (kindT Tryz.prog 195 = .var) := ⟨by kernel_rfl, by kernel_rfl, by kernel_rfl, by kernel_rfl, by kernel_rfl, by kernel_rfl, by kernel_rfl, by kernel_rfl, by kernel_rfl, by kernel_rfl, by kernel_rfl, by kernel_rfl, by kernel_rfl, by kernel_rfl, by kernel_rfl, by kernel_rfl, by kernel_rfl, by kernel_rfl⟩
theorem ty199 : (szE Tryz.prog 199 = some 1) ∧ (byE Tryz.prog 199 = some 8) ∧ (aggE Tryz.prog 199 = some false) ∧ (elE Tryz.prog 199 = none) ∧ (arrE Tryz.prog 199 = none) ∧ (parE Tryz.prog 199 = none) ∧ (isStr Tryz.prog 199 = false) ∧ (isU8 Tryz.prog 199 = false) ∧ (notInt Tryz.prog 199 = true) ∧ (structE Tryz.prog 199 = false) ∧ (kindE Tryz.prog 199 = none) ∧ (zeroE Tryz.prog 199 = some [.nilFunc]) ∧ (kindT Tryz.prog 199 = .var) := ⟨by kernel_rfl, by kernel_rfl, by kernel_rfl, by kernel_rfl, by kernel_rfl, by kernel_rfl, by kernel_rfl, by kernel_rfl, by kernel_rfl, by kernel_rfl, by kernel_rfl, by kernel_rfl, by kernel_rfl⟩
theorem ty200 : (szE Tryz.prog 200 = some 1) ∧ (byE Tryz.prog 200 = some 0) ∧ (aggE Tryz.prog 200 = some false) ∧ (elE Tryz.prog 200 = none) ∧ (arrE Tryz.prog 200 = none) ∧ (parE Tryz.prog 200 = none) ∧ (isStr Tryz.prog 200 = false) ∧ (isU8 Tryz.prog 200 = false) ∧ (notInt Tryz.prog 200 = true) ∧ (structE Tryz.prog 200 = false) ∧ (kindE Tryz.prog 200 = none) := ⟨by kernel_rfl, by kernel_rfl, by kernel_rfl, by kernel_rfl, by kernel_rfl, by kernel_rfl, by kernel_rfl, by kernel_rfl, by kernel_rfl, by kernel_rfl, by kernel_rfl⟩
theorem ty206 : (szE Tryz.prog 206 = some 1) ∧ (byE Tryz.prog 206 = some 8) ∧ (aggE Tryz.prog 206 = some false) ∧ (elE Tryz.prog 206 = none) ∧ (arrE Tryz.prog 206 = none) ∧ (parE Tryz.prog 206 = none) ∧ (isStr Tryz.prog 206 = false) ∧ (isU8 Tryz.prog 206 = false) ∧ (notInt Tryz.prog 206 = true) ∧ (structE Tryz.prog 206 = false) ∧ (kindE Tryz.prog 206 = none) ∧ (zeroE Tryz.prog 206 = some [.map none]) ∧ (kindT Tryz.prog 206 = .var) := ⟨by kernel_rfl, by kernel_rfl, by kernel_rfl, by kernel_rfl, by kernel_rfl, by kernel_rfl, by kernel_rfl, by kernel_rfl, by kernel_rfl, by kernel_rfl, by kernel_rfl, by kernel_rfl, by kernel_rfl⟩
theorem ty208 : (szE Tryz.prog 208 = some 1) ∧ (byE Tryz.prog 208 = some 0) ∧ (aggE Tryz.prog 208 = some false) ∧ (elE Tryz.prog 208 = none) ∧ (arrE Tryz.prog 208 = none) ∧ (parE Tryz.prog 208 = none) ∧ (isStr Tryz.prog 208 = false) ∧ (isU8 Tryz.prog 208 = false) ∧ (notInt Tryz.prog 208 = true) ∧ (structE Tryz.prog 208 = false) ∧ (kindE Tryz.prog 208 = none) := ⟨by kernel_rfl, by kernel_rfl, by kernel_rfl, by kernel_rfl, by kernel_rfl, by kernel_rfl, by kernel_rfl, by kernel_rfl, by kernel_rfl, by kernel_rfl, by kernel_rfl⟩
theorem ty223 : (szE Tryz.prog 223 = some 1) ∧ (byE Tryz.prog 223 = some 24) ∧ (aggE Tryz.prog 223 = some false) ∧ (elE Tryz.prog 223 = some 226) ∧ (arrE Tryz.prog 223 = none) ∧ (parE Tryz.prog 223 = none) ∧ (isStr Tryz.prog 223 = false) ∧ (isU8 Tryz.prog 223 = false) ∧ (notInt Tryz.prog 223 = true) ∧ (structE Tryz.prog 223 = false) ∧ (kindE Tryz.prog 223 = none) ∧ (zeroE Tryz.prog 223 = some [.slice none 0 0]) ∧ (kindT Tryz.prog 223 = .var) := ⟨by kernel_rfl, by kernel_rfl, by kernel_rfl, by kernel_rfl, by kernel_rfl, by kernel_rfl, by kernel_rfl, by kernel_rfl, by kernel_rfl, by kernel_rfl, by kernel_rfl, by kernel_rfl, by kernel_rfl⟩
theorem ty226 : (szE Tryz.prog 226 = some 2) ∧ (byE Tryz.prog 226 = some 32) ∧ (aggE Tryz.prog 226 = some true) ∧ (elE Tryz.prog 226 = none) ∧ (arrE Tryz.prog 226 = none) ∧ (parE Tryz.prog 226 = none) ∧ (isStr Tryz.prog 226 = false) ∧ (isU8 Tryz.prog 226 = false) ∧ (notInt Tryz.prog 226 = true) ∧ (structE Tryz.prog 226 = true) ∧ (kindE Tryz.prog 226 = none) ∧ (fldE Tryz.prog 226 0 = some (0, 3)) ∧ (fldE Tryz.prog 226 1 = some (1, 41)) ∧ (zeroE Tryz.prog 226 = some [.int .i64 0, .slice none 0 0]) ∧ (kindT Tryz.prog 226 = .var) := ⟨by kernel_rfl, by kernel_rfl, by kernel_rfl, by kernel_rfl, by kernel_rfl, by kernel_rfl, by kernel_rfl, by kernel_rfl, by kernel_rfl, by kernel_rfl, by kernel_rfl, by kernel_rfl, by kernel_rfl, by kernel_rfl, by kernel_rfl⟩
theorem ty235 : (szE Tryz.prog 235 = some 1) ∧ (byE Tryz.prog 235 = some 8) ∧ (aggE Tryz.prog 235 = some false) ∧ (elE Tryz.prog 235 = none) ∧ (arrE Tryz.prog 235 = none) ∧ (parE Tryz.prog 235 = none) ∧ (isStr Tryz.prog 235 = false) ∧ (isU8 Tryz.prog 235 = false) ∧ (notInt Tryz.prog 235 = false) ∧ (structE Tryz.prog 235 = false) ∧ (kindE Tryz.prog 235 = some .u64) ∧ (zeroE Tryz.prog 235 = some [.int .u64 0]) ∧ (kindT Tryz.prog 235 = .flat) := ⟨by kernel_rfl, by kernel_rfl, by kernel_rfl, by kernel_rfl, by kernel_rfl, by kernel_rfl, by kernel_rfl, by kernel_rfl, by kernel_rfl, by kernel_rfl, by kernel_rfl, by kernel_rfl, by kernel_rfl⟩
theorem ty257 : (szE Tryz.prog 257 = some 1) ∧ (byE Tryz.prog 257 = some 0) ∧ (aggE Tryz.prog 257 = some false) ∧ (elE Tryz.prog 257 = none) ∧ (arrE Tryz.prog 257 = none) ∧ (parE Tryz.prog 257 = none) ∧ (isStr Tryz.prog 257 = false) ∧ (isU8 Tryz.prog 257 = false) ∧ (notInt Tryz.prog 257 = true) ∧ (structE Tryz.prog 257 = false) ∧ (kindE Tryz.prog 257 = none) := ⟨by kernel_rfl, by kernel_rfl, by kernel_rfl, by kernel_rfl, by kernel_rfl, by kernel_rfl, by kernel_rfl, by kernel_rfl, by kernel_rfl, by kernel_rfl, by kernel_rfl⟩
theorem ty265 : (szE Tryz.prog 265 = some 3) ∧ (byE Tryz.prog 265 = some 24) ∧ (aggE Tryz.prog 265 = some true) ∧ (elE Tryz.prog 265 = none) ∧ (arrE Tryz.prog 265 = none) ∧ (parE Tryz.prog 265 = none) ∧ (isStr Tryz.prog 265 = false) ∧ (isU8 Tryz.prog 265 = false) ∧ (notInt Tryz.prog 265 = true) ∧ (structE Tryz.prog 265 = true) ∧ (kindE Tryz.prog 265 = none) ∧ (fldE Tryz.prog 265 0 = some (0, 3)) ∧ (fldE Tryz.prog 265 1 = some (1, 3)) ∧ (fldE Tryz.prog 265 2 = some (2, 3)) ∧ (zeroE Tryz.prog 265 = some [.int .i64 0, .int .i64 0, .int .i64 0]) ∧ (kindT Tryz.prog 265 = .flat) := ⟨by kernel_rfl, by kernel_rfl, by kernel_rfl, by kernel_rfl, by kernel_rfl, by kernel_rfl, by kernel_rfl, by kernel_rfl, by kernel_rfl, by kernel_rfl, by kernel_rfl, by kernel_rfl, by kernel_rfl, by kernel_rfl, by kernel_rfl, by kernel_rfl⟩
theorem ty299 : (szE Tryz.prog 299 = some 1) ∧ (byE Tryz.prog 299 = some 0) ∧ (aggE Tryz.prog 299 = some false) ∧ (elE Tryz.prog 299 = none) ∧ (arrE Tryz.prog 299 = none) ∧ (parE Tryz.prog 299 = none) ∧ (isStr Tryz.prog 299 = false) ∧ (isU8 Tryz.prog 299 = false) ∧ (notInt Tryz.prog 299 = true) ∧ (structE Tryz.prog 299 = false) ∧ (kindE Tryz.prog 299 = none) := ⟨by kernel_rfl, by kernel_rfl, by kernel_rfl, by kernel_rfl, by kernel_rfl, by kernel_rfl, by kernel_rfl, by kernel_rfl, by kernel_rfl, by kernel_rfl, by kernel_rfl⟩
theorem ty302 : (szE Tryz.prog 302 = some 7) ∧ (byE Tryz.prog 302 = some 88) ∧ (aggE Tryz.prog 302 = some true) ∧ (elE Tryz.prog 302 = none) ∧ (arrE Tryz.prog 302 = none) ∧ (parE Tryz.prog 302 = none) ∧ (isStr Tryz.prog 302 = false) ∧ (isU8 Tryz.prog 302 = false) ∧ (notInt Tryz.prog 302 = true) ∧ (structE Tryz.prog 302 = true) ∧ (kindE Tryz.prog 302 = none) ∧ (fldE Tryz.prog 302 0 = some (0, 127)) ∧ (fldE Tryz.prog 302 1 = some (6, 4)) ∧ (zeroE Tryz.prog 302 = some [.int .u8 0, .int .i64 0, .int .i64 0, .int .i64 0, .slice none 0 0, .slice none 0 0, .bool false]) ∧ (kindT Tryz.prog 302 = .var) := ⟨by kernel_rfl, by kernel_rfl, by kernel_rfl, by kernel_rfl, by kernel_rfl, by kernel_rfl, by kernel_rfl, by kernel_rfl, by kernel_rfl, by kernel_rfl, by kernel_rfl, by kernel_rfl, by kernel_rfl, by kernel_rfl, by kernel_rfl⟩
theorem ty304 : (szE Tryz.prog 304 = some 14) ∧ (byE Tryz.prog 304 = some 176) ∧ (aggE Tryz.prog 304 = some true) ∧ (elE Tryz.prog 304 = none) ∧ (arrE Tryz.prog 304 = some (2, 302)) ∧ (parE Tryz.prog 304 = none) ∧ (isStr Tryz.prog 304 = false) ∧ (isU8 Tryz.prog 304 = false) ∧ (notInt Tryz.prog 304 = true) ∧ (structE Tryz.prog 304 = false) ∧ (kindE Tryz.prog 304 = none) ∧ (zeroE Tryz.prog 304 = some [.int .u8 0, .int .i64 0, .int .i64 0, .int .i64 0, .slice none 0 0, .slice none 0 0, .bool false, .int .u8 0, .int .i64 0, .int .i64 0, .int .i64 0, .slice none 0 0, .slice none 0 0, .bool false]) ∧ (kindT Tryz.prog 304 = .var) := ⟨by kernel_rfl, by kernel_rfl, by kernel_rfl, by kernel_rfl, by kernel_rfl, by kernel_rfl, by kernel_rfl, by kernel_rfl, by kernel_rfl, by kernel_rfl, by kernel_rfl, by kernel_rfl, by kernel_rfl⟩
theorem ty305 : (szE Tryz.prog 305 = some 1) ∧ (byE Tryz.prog 305 = some 0) ∧ (aggE Tryz.prog 305 = some false) ∧ (elE Tryz.prog 305 = none) ∧ (arrE Tryz.prog 305 = none) ∧ (parE Tryz.prog 305 = none) ∧ (isStr Tryz.prog 305 = false) ∧ (isU8 Tryz.prog 305 = false) ∧ (notInt Tryz.prog 305 = true) ∧ (structE Tryz.prog 305 = false) ∧ (kindE Tryz.prog 305 = none) := ⟨by kernel_rfl, by kernel_rfl, by kernel_rfl, by kernel_rfl, by kernel_rfl, by kernel_rfl, by kernel_rfl, by kernel_rfl, by kernel_rfl, by kernel_rfl, by kernel_rfl⟩
theorem ty311 : (szE Tryz.prog 311 = some 1) ∧ (byE Tryz.prog 311 = some 8) ∧ (aggE Tryz.prog 311 = some false) ∧ (elE Tryz.prog 311 = none) ∧ (arrE Tryz.prog 311 = none) ∧ (parE Tryz.prog 311 = none) ∧ (isStr Tryz.prog 311 = false) ∧ (isU8 Tryz.prog 311 = false) ∧ (notInt Tryz.prog 311 = true) ∧ (structE Tryz.prog 311 = false) ∧ (kindE Tryz.prog 311 = none) ∧ (zeroE Tryz.prog 311 = some [.nilFunc]) ∧ (kindT Tryz.prog 311 = .var) := ⟨by kernel_rfl, by kernel_rfl, by kernel_rfl, by kernel_rfl, by kernel_rfl, by kernel_rfl, by kernel_rfl, by kernel_rfl, by kernel_rfl, by kernel_rfl, by kernel_rfl, by kernel_rfl, by kernel_rfl⟩
theorem ty312 : (szE Tryz.prog 312 = some 1) ∧ (byE Tryz.prog 312 = some 0) ∧ (aggE Tryz.prog 312 = some false) ∧ (elE Tryz.prog 312 = none) ∧ (arrE Tryz.prog 312 = none) ∧ (parE Tryz.prog 312 = none) ∧ (isStr Tryz.prog 312 = false) ∧ (isU8 Tryz.prog 312 = false) ∧ (notInt Tryz.prog 312 = true) ∧ (structE Tryz.prog 312 = false) ∧ (kindE Tryz.prog 312 = none) := ⟨by kernel_rfl, by kernel_rfl, by kernel_rfl, by kernel_rfl, by kernel_rfl, by kernel_rfl, by kernel_rfl, by kernel_rfl, by kernel_rfl, by kernel_rfl, by kernel_rfl⟩
theorem ty331 : (szE Tryz.prog 331 = some 1) ∧ (byE Tryz.prog 331 = some 8) ∧ (aggE Tryz.prog 331 = some false) ∧ (elE Tryz.prog 331 = none) ∧ (arrE Tryz.prog 331 = none) ∧ (parE Tryz.prog 331 = none) ∧ (isStr Tryz.prog 331 = false) ∧ (isU8 Tryz.prog 331 = false) ∧ (notInt Tryz.prog 331 = true) ∧ (structE Tryz.prog 331 = false) ∧ (kindE Tryz.prog 331 = none) ∧ (zeroE Tryz.prog 331 = some [.map none]) ∧ (kindT Tryz.prog 331 = .var) := ⟨by kernel_rfl, by kernel_rfl, by kernel_rfl, by kernel_rfl, by kernel_rfl, by kernel_rfl, by kernel_rfl, by kernel_rfl, by kernel_rfl, by kernel_rfl, by kernel_rfl, by kernel_rfl, by kernel_rfl⟩
theorem ty338 : (szE Tryz.prog 338 = some 256) ∧ (byE Tryz.prog 338 = some 256) ∧ (aggE Tryz.prog 338 = some true) ∧ (elE Tryz.prog 338 = none) ∧ (arrE Tryz.prog 338 = some (256, 5)) ∧ (parE Tryz.prog 338 = none) ∧ (isStr Tryz.prog 338 = false) ∧ (isU8 Tryz.prog 338 = false) ∧ (notInt Tryz.prog 338 = true) ∧ (structE Tryz.prog 338 = false) ∧ (kindE Tryz.prog 338 = none) := ⟨by kernel_rfl, by kernel_rfl, by kernel_rfl, by kernel_rfl, by kernel_rfl, by kernel_rfl, by kernel_rfl, by kernel_rfl, by kernel_rfl, by kernel_rfl, by kernel_rfl⟩
theorem ty352 : (szE Tryz.prog 352 = some 1) ∧ (byE Tryz.prog 352 = some 0) ∧ (aggE Tryz.prog 352 = some false) ∧ (elE Tryz.prog 352 = none) ∧ (arrE Tryz.prog 352 = none) ∧ (parE Tryz.prog 352 = none) ∧ (isStr Tryz.prog 352 = false) ∧ (isU8 Tryz.prog 352 = false) ∧ (notInt Tryz.prog 352 = true) ∧ (structE Tryz.prog 352 = false) ∧ (kindE Tryz.prog 352 = none) := ⟨by kernel_rfl, by kernel_rfl, by kernel_rfl, by kernel_rfl, by kernel_rfl, by kernel_rfl, by kernel_rfl, by kernel_rfl, by kernel_rfl, by kernel_rfl, by kernel_rfl⟩
theorem tys3 : (type_of% ty3) ∧ (type_of% ty4) ∧ (type_of% ty5) ∧ (type_of% ty23) ∧ (type_of% ty24) ∧ (type_of% ty25) ∧ (type_of% ty27) ∧ (type_of% ty28) ∧ (type_of% ty29) ∧ (type_of% ty31) ∧ (type_of% ty33) ∧ (type_of% ty34) ∧ (type_of% ty38) ∧ (type_of% ty41) ∧ (type_of% ty42) ∧ (type_of% ty52) ∧ (type_of% ty67) ∧ (type_of% ty69) ∧ (type_of% ty131) := ⟨ty3, ty4, ty5, ty23, ty24, ty25, ty27, ty28, ty29, ty31, ty33, ty34, ty38, ty41, ty42, ty52, ty67, ty69, ty131⟩
theorem tys15 : (type_of% ty3) ∧ (type_of% ty4) ∧ (type_of% ty23) ∧ (type_of% ty28) ∧ (type_of% ty50) := ⟨ty3, ty4, ty23, ty28, ty50⟩
theorem tys16 : (type_of% ty3) ∧ (type_of% ty4) ∧ (type_of% ty5) ∧ (type_of% ty23) ∧ (type_of% ty24) ∧ (type_of% ty27) ∧ (type_of% ty28) ∧ (type_of% ty29) ∧ (type_of% ty50) ∧ (type_of% ty52) ∧ (type_of% ty69) ∧ (type_of% ty118) ∧ (type_of% ty131) := ⟨ty3, ty4, ty5, ty23, ty24, ty27, ty28, ty29, ty50, ty52, ty69, ty118, ty131⟩
theorem tys17 : (type_of% ty3) ∧ (type_of% ty4) ∧ (type_of% ty5) ∧ (type_of% ty23) ∧ (type_of% ty24) ∧ (type_of% ty28) ∧ (type_of% ty31) ∧ (type_of% ty33) ∧ (type_of% ty50) ∧ (type_of% ty52) ∧ (type_of% ty53) ∧ (type_of% ty67) ∧ (type_of% ty118) ∧ (type_of% ty124) ∧ (type_of% ty131) := ⟨ty3, ty4, ty5, ty23, ty24, ty28, ty31, ty33, ty50, ty52, ty53, ty67, ty118, ty124, ty131⟩
theorem tys18 : (type_of% ty3) ∧ (type_of% ty4) ∧ (type_of% ty5) ∧ (type_of% ty23) ∧ (type_of% ty24) ∧ (type_of% ty28) ∧ (type_of% ty41) ∧ (type_of% ty52) ∧ (type_of% ty127) ∧ (type_of% ty128) ∧ (type_of% ty131) := ⟨ty3, ty4, ty5, ty23, ty24, ty28, ty41, ty52, ty127, ty128, ty131⟩
theorem tys19 : (type_of% ty3) ∧ (type_of% ty4) ∧ (type_of% ty5) ∧ (type_of% ty23) ∧ (type_of% ty24) ∧ (type_of% ty28) ∧ (type_of% ty41) ∧ (type_of% ty52) ∧ (type_of% ty127) ∧ (type_of% ty128) ∧ (type_of% ty131) := ⟨ty3, ty4, ty5, ty23, ty24, ty28, ty41, ty52, ty127, ty128, ty131⟩
theorem tys20 : (type_of% ty3) ∧ (type_of% ty4) ∧ (type_of% ty5) ∧ (type_of% ty24) ∧ (type_of% ty25) ∧ (type_of% ty27) ∧ (type_of% ty52) ∧ (type_of% ty69) ∧ (type_of% ty131) := ⟨ty3, ty4, ty5, ty24, ty25, ty27, ty52, ty69, ty131⟩
theorem tys21 : (type_of% ty3) ∧ (type_of% ty4) ∧ (type_of% ty31) ∧ (type_of% ty33) ∧ (type_of% ty67) := ⟨ty3, ty4, ty31, ty33, ty67⟩
theorem tys22 : (type_of% ty3) ∧ (type_of% ty4) ∧ (type_of% ty5) ∧ (type_of% ty23) ∧ (type_of% ty24) ∧ (type_of% ty28) ∧ (type_of% ty41) ∧ (type_of% ty52) ∧ (type_of% ty131) ∧ (type_of% ty132) ∧ (type_of% ty133) ∧ (type_of% ty136) := ⟨ty3, ty4, ty5, ty23, ty24, ty28, ty41, ty52, ty131, ty132, ty133, ty136⟩
theorem tys23 : (type_of% ty3) ∧ (type_of% ty4) ∧ (type_of% ty5) ∧ (type_of% ty23) ∧ (type_of% ty24) ∧ (type_of% ty28) ∧ (type_of% ty41) ∧ (type_of% ty45) ∧ (type_of% ty52) ∧ (type_of% ty108) ∧ (type_of% ty127) ∧ (type_of% ty128) ∧ (type_of% ty131) := ⟨ty3, ty4, ty5, ty23, ty24, ty28, ty41, ty45, ty52, ty108, ty127, ty128, ty131⟩
theorem tys41 : (type_of% ty3) ∧ (type_of% ty4) ∧ (type_of% ty23) ∧ (type_of% ty28) := ⟨ty3, ty4, ty23, ty28⟩
theorem tys67 : (type_of% ty3) ∧ (type_of% ty23) ∧ (type_of% ty28) ∧ (type_of% ty168) := ⟨ty3, ty23, ty28, ty168⟩
theorem tys68 : (type_of% ty3) ∧ (type_of% ty23) ∧ (type_of% ty28) ∧ (type_of% ty168) := ⟨ty3, ty23, ty28, ty168⟩
theorem tys87 : (type_of% ty3) ∧ (type_of% ty4) ∧ (type_of% ty5) ∧ (type_of% ty23) ∧ (type_of% ty24) ∧ (type_of% ty28) ∧ (type_of% ty52) ∧ (type_of% ty118) ∧ (type_of% ty120) ∧ (type_of% ty131) ∧ (type_of% ty157) := ⟨ty3, ty4, ty5, ty23, ty24, ty28, ty52, ty118, ty120, ty131, ty157⟩
theorem tys88 : (type_of% ty3) ∧ (type_of% ty4) ∧ (type_of% ty5) ∧ (type_of% ty23) ∧ (type_of% ty24) ∧ (type_of% ty28) ∧ (type_of% ty52) ∧ (type_of% ty118) ∧ (type_of% ty131) ∧ (type_of% ty157) := ⟨ty3, ty4, ty5, ty23, ty24, ty28, ty52, ty118, ty131, ty157⟩
theorem tys89 : (type_of% ty3) ∧ (type_of% ty4) ∧ (type_of% ty5) ∧ (type_of% ty23) ∧ (type_of% ty24) ∧ (type_of% ty28) ∧ (type_of% ty52) ∧ (type_of% ty118) ∧ (type_of% ty131) ∧ (type_of% ty157) := ⟨ty3, ty4, ty5, ty23, ty24, ty28, ty52, ty118, ty131, ty157⟩
theorem tys90 : (type_of% ty3) ∧ (type_of% ty4) ∧ (type_of% ty5) ∧ (type_of% ty23) ∧ (type_of% ty24) ∧ (type_of% ty25) ∧ (type_of% ty27) ∧ (type_of% ty28) ∧ (type_of% ty41) ∧ (type_of% ty45) ∧ (type_of% ty52) ∧ (type_of% ty69) ∧ (type_of% ty127) ∧ (type_of% ty131) ∧ (type_of% ty185) ∧ (type_of% ty186) ∧ (type_of% ty188) ∧ (type_of% ty191) ∧ (type_of% ty195) := ⟨ty3, ty4, ty5, ty23, ty24, ty25, ty27, ty28, ty41, ty45, ty52, ty69, ty127, ty131, ty185, ty186, ty188, ty191, ty195⟩
theorem tys91 : (type_of% ty3) ∧ (type_of% ty4) ∧ (type_of% ty5) ∧ (type_of% ty23) ∧ (type_of% ty24) ∧ (type_of% ty28) ∧ (type_of% ty45) ∧ (type_of% ty52) ∧ (type_of% ty131) ∧ (type_of% ty188) := ⟨ty3, ty4, ty5, ty23, ty24, ty28, ty45, ty52, ty131, ty188⟩
theorem tys92 : (type_of% ty3) ∧ (type_of% ty4) ∧ (type_of% ty5) ∧ (type_of% ty23) ∧ (type_of% ty28) ∧ (type_of% ty31) ∧ (type_of% ty33) ∧ (type_of% ty52) ∧ (type_of% ty53) ∧ (type_of% ty67) := ⟨ty3, ty4, ty5, ty23, ty28, ty31, ty33, ty52, ty53, ty67⟩
theorem tys93 : (type_of% ty3) ∧ (type_of% ty4) ∧ (type_of% ty5) ∧ (type_of% ty23) ∧ (type_of% ty28) ∧ (type_of% ty41) ∧ (type_of% ty50) ∧ (type_of% ty52) ∧ (type_of% ty127) ∧ (type_of% ty200) := ⟨ty3, ty4, ty5, ty23, ty28, ty41, ty50, ty52, ty127, ty200⟩
theorem tys94 : (type_of% ty3) ∧ (type_of% ty4) ∧ (type_of% ty5) ∧ (type_of% ty23) ∧ (type_of% ty24) ∧ (type_of% ty28) ∧ (type_of% ty41) ∧ (type_of% ty50) ∧ (type_of% ty52) ∧ (type_of% ty127) ∧ (type_of% ty128) ∧ (type_of% ty131) ∧ (type_of% ty132) ∧ (type_of% ty136) ∧ (type_of% ty151) := ⟨ty3, ty4, ty5, ty23, ty24, ty28, ty41, ty50, ty52, ty127, ty128, ty131, ty132, ty136, ty151⟩
theorem tys95 : (type_of% ty3) ∧ (type_of% ty4) ∧ (type_of% ty41) := ⟨ty3, ty4, ty41⟩
theorem tys96 : (type_of% ty3) ∧ (type_of% ty4) ∧ (type_of% ty5) ∧ (type_of% ty28) ∧ (type_of% ty41) ∧ (type_of% ty45) ∧ (type_of% ty52) ∧ (type_of% ty188) ∧ (type_of% ty206) ∧ (type_of% ty208) := ⟨ty3, ty4, ty5, ty28, ty41, ty45, ty52, ty188, ty206, ty208⟩
theorem tys109 : (type_of% ty3) ∧ (type_of% ty4) ∧ (type_of% ty5) ∧ (type_of% ty23) ∧ (type_of% ty28) ∧ (type_of% ty31) ∧ (type_of% ty33) ∧ (type_of% ty52) ∧ (type_of% ty53) ∧ (type_of% ty67) := ⟨ty3, ty4, ty5, ty23, ty28, ty31, ty33, ty52, ty53, ty67⟩
theorem tys119 : (type_of% ty3) ∧ (type_of% ty4) ∧ (type_of% ty23) ∧ (type_of% ty28) := ⟨ty3, ty4, ty23, ty28⟩
theorem tys140 : (type_of% ty3) ∧ (type_of% ty4) ∧ (type_of% ty23) ∧ (type_of% ty28) := ⟨ty3, ty4, ty23, ty28⟩
theorem tys157 : (type_of% ty3) ∧ (type_of% ty4) ∧ (type_of% ty5) ∧ (type_of% ty23) ∧ (type_of% ty24) ∧ (type_of% ty28) ∧ (type_of% ty41) ∧ (type_of% ty42) ∧ (type_of% ty52) ∧ (type_of% ty131) := ⟨ty3, ty4, ty5, ty23, ty24, ty28, ty41, ty42, ty52, ty131⟩
theorem tys158 : (type_of% ty3) ∧ (type_of% ty4) ∧ (type_of% ty5) ∧ (type_of% ty23) ∧ (type_of% ty24) ∧ (type_of% ty28) ∧ (type_of% ty41) ∧ (type_of% ty42) ∧ (type_of% ty52) ∧ (type_of% ty131) := ⟨ty3, ty4, ty5, ty23, ty24, ty28, ty41, ty42, ty52, ty131⟩
theorem tys159 : (type_of% ty3) ∧ (type_of% ty4) ∧ (type_of% ty5) ∧ (type_of% ty23) ∧ (type_of% ty24) ∧ (type_of% ty27) ∧ (type_of% ty28) ∧ (type_of% ty41) ∧ (type_of% ty50) ∧ (type_of% ty52) ∧ (type_of% ty69) ∧ (type_of% ty131) ∧ (type_of% ty185) ∧ (type_of% ty195) := ⟨ty3, ty4, ty5, ty23, ty24, ty27, ty28, ty41, ty50, ty52, ty69, ty131, ty185, ty195⟩
theorem tys160 : (type_of% ty3) ∧ (type_of% ty4) ∧ (type_of% ty5) ∧ (type_of% ty23) ∧ (type_of% ty24) ∧ (type_of% ty28) ∧ (type_of% ty45) ∧ (type_of% ty52) ∧ (type_of% ty131) ∧ (type_of% ty188) ∧ (type_of% ty191) := ⟨ty3, ty4, ty5, ty23, ty24, ty28, ty45, ty52, ty131, ty188, ty191⟩
theorem tys161 : (type_of% ty3) ∧ (type_of% ty4) ∧ (type_of% ty5) ∧ (type_of% ty23) ∧ (type_of% ty24) ∧ (type_of% ty28) ∧ (type_of% ty41) ∧ (type_of% ty52) ∧ (type_of% ty127) ∧ (type_of% ty131) ∧ (type_of% ty191) ∧ (type_of% ty257) := ⟨ty3, ty4, ty5, ty23, ty24, ty28, ty41, ty52, ty127, ty131, ty191, ty257⟩
theorem tys162 : (type_of% ty3) ∧ (type_of% ty4) ∧ (type_of% ty5) ∧ (type_of% ty25) ∧ (type_of% ty41) ∧ (type_of% ty52) ∧ (type_of% ty127) := ⟨ty3, ty4, ty5, ty25, ty41, ty52, ty127⟩
theorem tys163 : (type_of% ty3) ∧ (type_of% ty4) ∧ (type_of% ty5) ∧ (type_of% ty23) ∧ (type_of% ty24) ∧ (type_of% ty28) ∧ (type_of% ty41) ∧ (type_of% ty52) ∧ (type_of% ty127) ∧ (type_of% ty128) ∧ (type_of% ty131) := ⟨ty3, ty4, ty5, ty23, ty24, ty28, ty41, ty52, ty127, ty128, ty131⟩
theorem tys164 : (type_of% ty3) ∧ (type_of% ty4) ∧ (type_of% ty5) ∧ (type_of% ty23) ∧ (type_of% ty24) ∧ (type_of% ty27) ∧ (type_of% ty28) ∧ (type_of% ty41) ∧ (type_of% ty50) ∧ (type_of% ty52) ∧ (type_of% ty53) ∧ (type_of% ty69) ∧ (type_of% ty127) ∧ (type_of% ty131) ∧ (type_of% ty185) ∧ (type_of% ty195) := ⟨ty3, ty4, ty5, ty23, ty24, ty27, ty28, ty41, ty50, ty52, ty53, ty69, ty127, ty131, ty185, ty195⟩
theorem tys165 : (type_of% ty3) ∧ (type_of% ty4) ∧ (type_of% ty5) ∧ (type_of% ty23) ∧ (type_of% ty24) ∧ (type_of% ty28) ∧ (type_of% ty45) ∧ (type_of% ty52) ∧ (type_of% ty131) ∧ (type_of% ty188) := ⟨ty3, ty4, ty5, ty23, ty24, ty28, ty45, ty52, ty131, ty188⟩
theorem tys166 : (type_of% ty3) ∧ (type_of% ty4) ∧ (type_of% ty5) ∧ (type_of% ty23) ∧ (type_of% ty28) ∧ (type_of% ty50) ∧ (type_of% ty52) := ⟨ty3, ty4, ty5, ty23, ty28, ty50, ty52⟩
theorem tys167 : (type_of% ty3) ∧ (type_of% ty5) ∧ (type_of% ty52) ∧ (type_of% ty235) := ⟨ty3, ty5, ty52, ty235⟩
theorem tys168 : (type_of% ty3) ∧ (type_of% ty4) ∧ (type_of% ty5) ∧ (type_of% ty31) ∧ (type_of% ty52) ∧ (type_of% ty67) := ⟨ty3, ty4, ty5, ty31, ty52, ty67⟩
theorem tys169 : (type_of% ty4) ∧ (type_of% ty5) ∧ (type_of% ty9) ∧ (type_of% ty52) := ⟨ty4, ty5, ty9, ty52⟩
theorem tys170 : (type_of% ty3) ∧ (type_of% ty4) ∧ (type_of% ty23) ∧ (type_of% ty28) ∧ (type_of% ty50) := ⟨ty3, ty4, ty23, ty28, ty50⟩
theorem tys171 : (type_of% ty3) ∧ (type_of% ty5) ∧ (type_of% ty52) ∧ (type_of% ty235) := ⟨ty3, ty5, ty52, ty235⟩
theorem tys172 : (type_of% ty3) ∧ (type_of% ty4) ∧ (type_of% ty5) ∧ (type_of% ty23) ∧ (type_of% ty28) ∧ (type_of% ty41) ∧ (type_of% ty50) ∧ (type_of% ty52) ∧ (type_of% ty127) := ⟨ty3, ty4, ty5, ty23, ty28, ty41, ty50, ty52, ty127⟩
theorem tys173 : (type_of% ty3) ∧ (type_of% ty23) ∧ (type_of% ty28) ∧ (type_of% ty50) := ⟨ty3, ty23, ty28, ty50⟩
theorem tys174 : (type_of% ty3) ∧ (type_of% ty4) ∧ (type_of% ty41) ∧ (type_of% ty151) := ⟨ty3, ty4, ty41, ty151⟩
theorem tys175 : (type_of% ty3) ∧ (type_of% ty4) ∧ (type_of% ty5) ∧ (type_of% ty41) ∧ (type_of% ty52) ∧ (type_of% ty127) := ⟨ty3, ty4, ty5, ty41, ty52, ty127⟩
theorem tys176 : (type_of% ty3) ∧ (type_of% ty4) ∧ (type_of% ty41) := ⟨ty3, ty4, ty41⟩
theorem tys177 : (type_of% ty3) ∧ (type_of% ty4) ∧ (type_of% ty5) ∧ (type_of% ty28) ∧ (type_of% ty45) ∧ (type_of% ty52) ∧ (type_of% ty188) ∧ (type_of% ty206) ∧ (type_of% ty265) := ⟨ty3, ty4, ty5, ty28, ty45, ty52, ty188, ty206, ty265⟩
theorem tys178 : (type_of% ty3) ∧ (type_of% ty4) ∧ (type_of% ty5) ∧ (type_of% ty41) ∧ (type_of% ty45) ∧ (type_of% ty52) := ⟨ty3, ty4, ty5, ty41, ty45, ty52⟩
theorem tys179 : (type_of% ty3) ∧ (type_of% ty4) ∧ (type_of% ty5) ∧ (type_of% ty28) ∧ (type_of% ty45) ∧ (type_of% ty52) ∧ (type_of% ty53) ∧ (type_of% ty206) ∧ (type_of% ty265) := ⟨ty3, ty4, ty5, ty28, ty45, ty52, ty53, ty206, ty265⟩
theorem tys180 : (type_of% ty3) ∧ (type_of% ty4) ∧ (type_of% ty5) ∧ (type_of% ty45) ∧ (type_of% ty52) ∧ (type_of% ty199) := ⟨ty3, ty4, ty5, ty45, ty52, ty199⟩
theorem tys182 : (type_of% ty3) ∧ (type_of% ty23) ∧ (type_of% ty28) ∧ (type_of% ty50) := ⟨ty3, ty23, ty28, ty50⟩
theorem tys183 : (type_of% ty3) ∧ (type_of% ty4) ∧ (type_of% ty23) ∧ (type_of% ty28) ∧ (type_of% ty140) := ⟨ty3, ty4, ty23, ty28, ty140⟩
theorem tys184 : (type_of% ty3) ∧ (type_of% ty23) := ⟨ty3, ty23⟩
theorem tys191 : (type_of% ty3) ∧ (type_of% ty4) ∧ (type_of% ty23) ∧ (type_of% ty28) ∧ (type_of% ty31) ∧ (type_of% ty33) ∧ (type_of% ty50) ∧ (type_of% ty67) := ⟨ty3, ty4, ty23, ty28, ty31, ty33, ty50, ty67⟩
theorem tys192 : (type_of% ty3) ∧ (type_of% ty4) ∧ (type_of% ty5) ∧ (type_of% ty52) := ⟨ty3, ty4, ty5, ty52⟩
theorem tys193 : (type_of% ty3) ∧ (type_of% ty4) ∧ (type_of% ty5) ∧ (type_of% ty23) ∧ (type_of% ty28) ∧ (type_of% ty50) ∧ (type_of% ty52) := ⟨ty3, ty4, ty5, ty23, ty28, ty50, ty52⟩
theorem tys194 : (type_of% ty3) ∧ (type_of% ty5) ∧ (type_of% ty31) ∧ (type_of% ty52) ∧ (type_of% ty67) := ⟨ty3, ty5, ty31, ty52, ty67⟩
theorem tys216 : (type_of% ty3) ∧ (type_of% ty23) := ⟨ty3, ty23⟩
theorem tys221 : (type_of% ty3) := ty3
theorem tys222 : (type_of% ty3) ∧ (type_of% ty23) := ⟨ty3, ty23⟩
theorem tys223 : (type_of% ty3) ∧ (type_of% ty23) := ⟨ty3, ty23⟩
theorem tys231 : (type_of% ty3) ∧ (type_of% ty4) ∧ (type_of% ty5) ∧ (type_of% ty23) ∧ (type_of% ty24) ∧ (type_of% ty28) ∧ (type_of% ty50) ∧ (type_of% ty52) ∧ (type_of% ty131) := ⟨ty3, ty4, ty5, ty23, ty24, ty28, ty50, ty52, ty131⟩
theorem tys232 : (type_of% ty3) ∧ (type_of% ty4) ∧ (type_of% ty5) ∧ (type_of% ty23) ∧ (type_of% ty24) ∧ (type_of% ty28) ∧ (type_of% ty41) ∧ (type_of% ty52) ∧ (type_of% ty131) ∧ (type_of% ty223) ∧ (type_of% ty226) ∧ (type_of% ty299) := ⟨ty3, ty4, ty5, ty23, ty24, ty28, ty41, ty52, ty131, ty223, ty226, ty299⟩
theorem tys233 : (type_of% ty3) ∧ (type_of% ty4) ∧ (type_of% ty5) ∧ (type_of% ty23) ∧ (type_of% ty24) ∧ (type_of% ty28) ∧ (type_of% ty50) ∧ (type_of% ty52) ∧ (type_of% ty131) := ⟨ty3, ty4, ty5, ty23, ty24, ty28, ty50, ty52, ty131⟩
theorem tys234 : (type_of% ty3) ∧ (type_of% ty4) ∧ (type_of% ty5) ∧ (type_of% ty28) := ⟨ty3, ty4, ty5, ty28⟩
theorem tys235 : (type_of% ty3) ∧ (type_of% ty5) ∧ (type_of% ty41) ∧ (type_of% ty45) ∧ (type_of% ty52) ∧ (type_of% ty127) := ⟨ty3, ty5, ty41, ty45, ty52, ty127⟩
theorem tys236 : (type_of% ty3) ∧ (type_of% ty4) ∧ (type_of% ty5) ∧ (type_of% ty28) ∧ (type_of% ty41) ∧ (type_of% ty45) ∧ (type_of% ty52) ∧ (type_of% ty53) ∧ (type_of% ty188) ∧ (type_of% ty206) ∧ (type_of% ty208) ∧ (type_of% ty265) := ⟨ty3, ty4, ty5, ty28, ty41, ty45, ty52, ty53, ty188, ty206, ty208, ty265⟩
theorem tys237 : (type_of% ty3) ∧ (type_of% ty4) ∧ (type_of% ty5) ∧ (type_of% ty23) ∧ (type_of% ty28) ∧ (type_of% ty41) ∧ (type_of% ty52) ∧ (type_of% ty127) ∧ (type_of% ty131) ∧ (type_of% ty302) ∧ (type_of% ty304) ∧ (type_of% ty305) := ⟨ty3, ty4, ty5, ty23, ty28, ty41, ty52, ty127, ty131, ty302, ty304, ty305⟩
theorem tys238 : (type_of% ty3) ∧ (type_of% ty4) ∧ (type_of% ty5) ∧ (type_of% ty23) ∧ (type_of% ty28) ∧ (type_of% ty41) ∧ (type_of% ty50) ∧ (type_of% ty52) ∧ (type_of% ty127) := ⟨ty3, ty4, ty5, ty23, ty28, ty41, ty50, ty52, ty127⟩
theorem tys239 : (type_of% ty3) ∧ (type_of% ty4) ∧ (type_of% ty5) ∧ (type_of% ty23) ∧ (type_of% ty28) ∧ (type_of% ty41) ∧ (type_of% ty52) ∧ (type_of% ty127) ∧ (type_of% ty131) ∧ (type_of% ty302) ∧ (type_of% ty304) ∧ (type_of% ty305) := ⟨ty3, ty4, ty5, ty23, ty28, ty41, ty52, ty127, ty131, ty302, ty304, ty305⟩
theorem tys240 : (type_of% ty3) ∧ (type_of% ty4) ∧ (type_of% ty23) ∧ (type_of% ty28) ∧ (type_of% ty41) := ⟨ty3, ty4, ty23, ty28, ty41⟩
theorem tys241 : (type_of% ty3) ∧ (type_of% ty23) := ⟨ty3, ty23⟩
theorem tys242 : (type_of% ty3) ∧ (type_of% ty4) ∧ (type_of% ty41) ∧ (type_of% ty151) := ⟨ty3, ty4, ty41, ty151⟩
theorem tys243 : (type_of% ty3) ∧ (type_of% ty4) ∧ (type_of% ty5) ∧ (type_of% ty28) ∧ (type_of% ty45) ∧ (type_of% ty52) := ⟨ty3, ty4, ty5, ty28, ty45, ty52⟩
theorem tys244 : (type_of% ty3) ∧ (type_of% ty4) ∧ (type_of% ty5) ∧ (type_of% ty28) ∧ (type_of% ty45) ∧ (type_of% ty52) ∧ (type_of% ty311) := ⟨ty3, ty4, ty5, ty28, ty45, ty52, ty311⟩
theorem tys245 : (type_of% ty3) ∧ (type_of% ty4) ∧ (type_of% ty5) ∧ (type_of% ty28) ∧ (type_of% ty45) ∧ (type_of% ty52) := ⟨ty3, ty4, ty5, ty28, ty45, ty52⟩
theorem tys250 : (type_of% ty3) ∧ (type_of% ty23) ∧ (type_of% ty28) ∧ (type_of% ty168) := ⟨ty3, ty23, ty28, ty168⟩
theorem tys251 : (type_of% ty3) ∧ (type_of% ty4) ∧ (type_of% ty23) ∧ (type_of% ty31) ∧ (type_of% ty67) := ⟨ty3, ty4, ty23, ty31, ty67⟩
theorem tys252 : (type_of% ty3) ∧ (type_of% ty4) := ⟨ty3, ty4⟩
theorem tys290 : (type_of% ty3) ∧ (type_of% ty4) ∧ (type_of% ty5) ∧ (type_of% ty23) ∧ (type_of% ty24) ∧ (type_of% ty28) ∧ (type_of% ty41) ∧ (type_of% ty52) ∧ (type_of% ty131) ∧ (type_of% ty132) ∧ (type_of% ty133) ∧ (type_of% ty136) ∧ (type_of% ty223) ∧ (type_of% ty226) ∧ (type_of% ty331) := ⟨ty3, ty4, ty5, ty23, ty24, ty28, ty41, ty52, ty131, ty132, ty133, ty136, ty223, ty226, ty331⟩
theorem tys291 : (type_of% ty3) ∧ (type_of% ty4) ∧ (type_of% ty5) ∧ (type_of% ty28) ∧ (type_of% ty45) ∧ (type_of% ty52) ∧ (type_of% ty188) := ⟨ty3, ty4, ty5, ty28, ty45, ty52, ty188⟩
theorem tys292 : (type_of% ty3) ∧ (type_of% ty4) ∧ (type_of% ty5) ∧ (type_of% ty23) ∧ (type_of% ty28) ∧ (type_of% ty41) ∧ (type_of% ty50) ∧ (type_of% ty52) ∧ (type_of% ty127) ∧ (type_of% ty128) ∧ (type_of% ty131) ∧ (type_of% ty302) ∧ (type_of% ty304) := ⟨ty3, ty4, ty5, ty23, ty28, ty41, ty50, ty52, ty127, ty128, ty131, ty302, ty304⟩
theorem tys293 : (type_of% ty3) ∧ (type_of% ty4) ∧ (type_of% ty5) ∧ (type_of% ty41) ∧ (type_of% ty52) ∧ (type_of% ty127) ∧ (type_of% ty302) ∧ (type_of% ty304) := ⟨ty3, ty4, ty5, ty41, ty52, ty127, ty302, ty304⟩
theorem tys294 : (type_of% ty3) ∧ (type_of% ty4) ∧ (type_of% ty5) ∧ (type_of% ty52) := ⟨ty3, ty4, ty5, ty52⟩
theorem tys295 : (type_of% ty3) ∧ (type_of% ty4) ∧ (type_of% ty23) ∧ (type_of% ty28) ∧ (type_of% ty41) ∧ (type_of% ty50) := ⟨ty3, ty4, ty23, ty28, ty41, ty50⟩
theorem tys296 : (type_of% ty3) ∧ (type_of% ty5) ∧ (type_of% ty45) ∧ (type_of% ty52) ∧ (type_of% ty311) := ⟨ty3, ty5, ty45, ty52, ty311⟩
theorem tys297 : (type_of% ty3) ∧ (type_of% ty4) ∧ (type_of% ty5) := ⟨ty3, ty4, ty5⟩
theorem tys298 : (type_of% ty3) ∧ (type_of% ty5) ∧ (type_of% ty28) ∧ (type_of% ty312) := ⟨ty3, ty5, ty28, ty312⟩
theorem tys299 : (type_of% ty5) ∧ (type_of% ty28) ∧ (type_of% ty312) := ⟨ty5, ty28, ty312⟩
theorem tys300 : (type_of% ty5) := ty5
theorem tys301 : (type_of% ty3) ∧ (type_of% ty4) ∧ (type_of% ty5) ∧ (type_of% ty45) ∧ (type_of% ty52) := ⟨ty3, ty4, ty5, ty45, ty52⟩
theorem tys302 : (type_of% ty3) ∧ (type_of% ty4) ∧ (type_of% ty5) ∧ (type_of% ty52) ∧ (type_of% ty338) := ⟨ty3, ty4, ty5, ty52, ty338⟩
theorem tys325 : (type_of% ty3) ∧ (type_of% ty4) ∧ (type_of% ty5) ∧ (type_of% ty28) ∧ (type_of% ty45) ∧ (type_of% ty52) := ⟨ty3, ty4, ty5, ty28, ty45, ty52⟩
theorem tys326 : (type_of% ty3) ∧ (type_of% ty4) ∧ (type_of% ty5) ∧ (type_of% ty28) ∧ (type_of% ty45) ∧ (type_of% ty52) ∧ (type_of% ty312) := ⟨ty3, ty4, ty5, ty28, ty45, ty52, ty312⟩
theorem tys327 : (type_of% ty3) ∧ (type_of% ty5) ∧ (type_of% ty45) ∧ (type_of% ty52) := ⟨ty3, ty5, ty45, ty52⟩
theorem tys328 : (type_of% ty3) ∧ (type_of% ty4) := ⟨ty3, ty4⟩
theorem tys329 : (type_of% ty3) ∧ (type_of% ty4) ∧ (type_of% ty5) ∧ (type_of% ty28) ∧ (type_of% ty338) ∧ (type_of% ty352) := ⟨ty3, ty4, ty5, ty28, ty338, ty352⟩
theorem tys330 : (type_of% ty4) ∧ (type_of% ty5) ∧ (type_of% ty235) := ⟨ty4, ty5, ty235⟩
theorem tys343 : (type_of% ty3) ∧ (type_of% ty5) ∧ (type_of% ty52) := ⟨ty3, ty5, ty52⟩
theorem tys344 : (type_of% ty3) ∧ (type_of% ty5) ∧ (type_of% ty52) := ⟨ty3, ty5, ty52⟩
theorem tys345 : (type_of% ty4) ∧ (type_of% ty5) ∧ (type_of% ty45) ∧ (type_of% ty52) := ⟨ty4, ty5, ty45, ty52⟩
theorem tys346 : (type_of% ty4) ∧ (type_of% ty5) ∧ (type_of% ty52) := ⟨ty4, ty5, ty52⟩
theorem tys347 : (type_of% ty3) ∧ (type_of% ty4) ∧ (type_of% ty5) ∧ (type_of% ty338) := ⟨ty3, ty4, ty5, ty338⟩
theorem tys348 : (type_of% ty5) ∧ (type_of% ty235) := ⟨ty5, ty235⟩
end Go.Proofs.YtaekhhlgnbhnpaaGreat
set_option linter.unusedVariables false
set_option linter.unusedSimpArgs false
set_option maxRecDepth 10000
namespace Go.Proofs.YtaekhhlgnbhnpaaGreat
open Go Go.Tw Go.Proofs
def onceA : Nat → Bool := fun _ => true
abbrev parV (k r c w : Int) : AV := .agg [intV k, intV r, intV c, intV w]
def mayB (k r c w : Int) : Bool := decide (1 ≤ k ∧ k ≤ 12 ∧ 0 ≤ r ∧ r ≤ 4 ∧ 8 ≤ c ∧ c ≤ 64 ∧ 8 ≤ w ∧ w ≤ 256 ∧ 32 ≤ k * c)
theorem wrap_id {n : Int} (h : -9223372036854775808 ≤ n) (h2 : n ≤ 9223372036854775807) : IntKind.i64.wrap n = n := by
 simp only [IntKind.wrap, IntKind.bits, IntKind.signed]
 simp
 split <;> omega
theorem mul_bounds {k c : Int} (h1 : 1 ≤ k) (h2 : k ≤ 12) (h3 : 8 ≤ c) (h4 : c ≤ 64) : 8 ≤ k * c ∧ k * c ≤ 768 := by
 have a : 1 * 8 ≤ k * c := Int.mul_le_mul h1 h3 (by omega) (by omega)
 have b : k * c ≤ 12 * 64 := Int.mul_le_mul h2 h4 (by omega) (by omega)
 omega
theorem mayB_of {k r c w : Int} : mayB k r c w = true ↔ (1 ≤ k ∧ k ≤ 12 ∧ 0 ≤ r ∧ r ≤ 4 ∧ 8 ≤ c ∧ c ≤ 64 ∧ 8 ≤ w ∧ w ≤ 256 ∧ 32 ≤ k * c) := by simp [mayB]
theorem may_w {k r c w : Int} (h : mayB k r c w = true) : 32 ≤ k * c ∧ k * c ≤ 768 := by
 rw [mayB_of] at h
 have := mul_bounds h.1 h.2.1 h.2.2.2.2.1 h.2.2.2.2.2.1
 omega
def wI (k c : Int) : Int := k * c
def dI (k c : Int) : Int := (k * c - 7) / 6
def lI (k c : Int) : Int := k * c / 6
def mI (k c : Int) : Int := min 32768 (dI k c * lI k c * (k * c))
theorem layout_check (k r c w : Int) : FSpec Tryz.prog 119 [parV k r c w] ⟨intV (if mayB k r c w then 0 else 2), []⟩ := by
 refine fspec_of_body follows Tryz.func119 (by unfold Tryz.f119; rfl) (by unfold Tryz.f119; simp) onceA (by unfold Tryz.f119; simp) (by kernel_rfl) ?_; unfold Tryz.f119
 by_cases hb : 1 ≤ k ∧ k ≤ 12 ∧ 8 ≤ c ∧ c ≤ 64
 · have hw : IntKind.i64.wrap (k * c) = k * c := wrap_id (by have := mul_bounds hb.1 hb.2.1 hb.2.2.1 hb.2.2.2; omega) (by have := mul_bounds hb.1 hb.2.1 hb.2.2.1 hb.2.2.2; omega)
   replace hb := Hid.mk hb
   simp only [↓pre, simprocAttr, parV, sx, tys119, hw, onceA]; repeat' ((first | refine guard_dec (fun _ => ?_) (fun _ => ?_) | refine cond_dec (fun _ => ?_) (fun _ => ?_) | refine guard_ndec (fun _ => ?_) (fun _ => ?_) | refine cond_ndec (fun _ => ?_) (fun _ => ?_) | refine guard_split (fun _ => ?_) (fun _ => ?_) | refine cond_split (fun _ => ?_) (fun _ => ?_)) <;> simp only [↓pre, simprocAttr, parV, sx, tys119, hw, onceA, *])
   all_goals skip
   all_goals have hb := hb.out
   all_goals (first | (exfalso; omega) | (rw [if_neg (by rw [mayB_of]; omega)]; done) | (rw [if_pos (by rw [mayB_of]; omega)]; done))
 · replace hb := Hid.mk hb
   simp only [↓pre, simprocAttr, parV, sx, tys119, onceA]; repeat' ((first | refine guard_dec (fun _ => ?_) (fun _ => ?_) | refine cond_dec (fun _ => ?_) (fun _ => ?_) | refine guard_ndec (fun _ => ?_) (fun _ => ?_) | refine cond_ndec (fun _ => ?_) (fun _ => ?_) | refine guard_split (fun _ => ?_) (fun _ => ?_) | refine cond_split (fun _ => ?_) (fun _ => ?_)) <;> simp only [↓pre, simprocAttr, parV, sx, tys119, onceA, *])
   all_goals skip
   all_goals have hb := hb.out
   all_goals (first | (exfalso; omega) | (rw [if_neg (by rw [mayB_of]; omega)]; done))
theorem layout_width (k r c w : Int) (h : mayB k r c w = true) : FSpec Tryz.prog 222 [parV k r c w] ⟨intV (wI k c), []⟩ := by
 refine fspec_of_body follows Tryz.func222 (by unfold Tryz.f222; rfl) (by unfold Tryz.f222; simp) onceA (by unfold Tryz.f222; simp) (by kernel_rfl) ?_; unfold Tryz.f222
 have hw : IntKind.i64.wrap (k * c) = k * c := wrap_id (by have := may_w h; omega) (by have := may_w h; omega)
 simp only [↓pre, simprocAttr, parV, sx, tys222, hw, onceA, wI]
theorem tdiv_pos {a b : Int} (h : 0 ≤ a) : a.tdiv b = a / b := Int.tdiv_eq_ediv_of_nonneg h
theorem d_bounds {x : Int} (h : 32 ≤ x) (h2 : x ≤ 768) : 4 ≤ (x - 7) / 6 ∧ (x - 7) / 6 ≤ 126 := by omega
theorem l_bounds {x : Int} (h : 32 ≤ x) (h2 : x ≤ 768) : 5 ≤ x / 6 ∧ x / 6 ≤ 128 := by omega
theorem m_bounds {x : Int} (h : 32 ≤ x) (h2 : x ≤ 768) : 20 ≤ (x - 7) / 6 * (x / 6) ∧ (x - 7) / 6 * (x / 6) ≤ 16128 ∧ 640 ≤ (x - 7) / 6 * (x / 6) * x ∧ (x - 7) / 6 * (x / 6) * x ≤ 12386304 := by
 have hd := d_bounds h h2
 have hl := l_bounds h h2
 have a : 4 * 5 ≤ (x - 7) / 6 * (x / 6) := Int.mul_le_mul hd.1 hl.1 (by omega) (by omega)
 have b : (x - 7) / 6 * (x / 6) ≤ 126 * 128 := Int.mul_le_mul hd.2 hl.2 (by omega) (by omega)
 have c : 20 * 32 ≤ (x - 7) / 6 * (x / 6) * x := Int.mul_le_mul (by omega) h (by omega) (by omega)
 have d : (x - 7) / 6 * (x / 6) * x ≤ 16128 * 768 := Int.mul_le_mul (by omega) h2 (by omega) (by omega)
 omega
theorem layout_direct (k r c w : Int) (h : mayB k r c w = true) : FSpec Tryz.prog 223 [parV k r c w] ⟨intV (dI k c), []⟩ := by
 refine fspec_of_body follows Tryz.func223 (by unfold Tryz.f223; rfl) (by unfold Tryz.f223; simp) onceA (by unfold Tryz.f223; simp) (by kernel_rfl) ?_; unfold Tryz.f223
 have hw := may_w h
 simp only [↓pre, simprocAttr, parV, sx, tys223, onceA]
 (first | refine call_plain (layout_width _ _ _ _ h) rfl ?_ | refine call_pure (layout_width _ _ _ _ h) rfl (by intro k; first | rfl | simp only [sq, sr, *]) ?_)
 simp only [↓pre, simprocAttr, parV, sx, tys223, onceA, wI, wrap_id (show -9223372036854775808 ≤ k * c - 7 by omega) (by omega), tdiv_pos (show 0 ≤ k * c - 7 by omega), wrap_id (show -9223372036854775808 ≤ (k * c - 7) / 6 by omega) (by omega), dI]
theorem layout_leaf (k r c w : Int) (h : mayB k r c w = true) : FSpec Tryz.prog 216 [parV k r c w] ⟨intV (lI k c), []⟩ := by
 refine fspec_of_body follows Tryz.func216 (by unfold Tryz.f216; rfl) (by unfold Tryz.f216; simp) onceA (by unfold Tryz.f216; simp) (by kernel_rfl) ?_; unfold Tryz.f216
 have hw := may_w h
 simp only [↓pre, simprocAttr, parV, sx, tys216, onceA]
 (first | refine call_plain (layout_width _ _ _ _ h) rfl ?_ | refine call_pure (layout_width _ _ _ _ h) rfl (by intro k; first | rfl | simp only [sq, sr, *]) ?_)
 simp only [↓pre, simprocAttr, parV, sx, tys216, onceA, wI, tdiv_pos (show 0 ≤ k * c by omega), wrap_id (show -9223372036854775808 ≤ (k * c) / 6 by omega) (by omega), lI]
theorem m_of (k c : Int) : min (dI k c * lI k c * wI k c) 32768 = mI k c := by unfold mI wI; omega
theorem wrap_dl {k r c w : Int} (h : mayB k r c w = true) : IntKind.i64.wrap (dI k c * lI k c) = dI k c * lI k c := by
 have hw := may_w h
 have := m_bounds hw.1 hw.2
 unfold dI lI
 exact wrap_id (by omega) (by omega)
theorem wrap_dlw {k r c w : Int} (h : mayB k r c w = true) : IntKind.i64.wrap (dI k c * lI k c * wI k c) = dI k c * lI k c * wI k c := by
 have hw := may_w h
 have := m_bounds hw.1 hw.2
 unfold dI lI wI
 exact wrap_id (by omega) (by omega)
theorem layout_most (k r c w : Int) (h : mayB k r c w = true) : FSpec Tryz.prog 184 [parV k r c w] ⟨intV (mI k c), []⟩ := by
 refine fspec_of_body follows Tryz.func184 (by unfold Tryz.f184; rfl) (by unfold Tryz.f184; simp) onceA (by unfold Tryz.f184; simp) (by kernel_rfl) ?_; unfold Tryz.f184
 simp only [↓pre, simprocAttr, parV, sx, tys184, onceA]
 (first | refine call_plain (layout_direct _ _ _ _ h) rfl ?_ | refine call_pure (layout_direct _ _ _ _ h) rfl (by intro k; first | rfl | simp only [sq, sr, *]) ?_)
 simp only [↓pre, simprocAttr, parV, sx, tys184, onceA]
 (first | refine call_plain (layout_leaf _ _ _ _ h) rfl ?_ | refine call_pure (layout_leaf _ _ _ _ h) rfl (by intro k; first | rfl | simp only [sq, sr, *]) ?_)
 simp only [↓pre, simprocAttr, parV, sx, tys184, onceA]
 (first | refine call_plain (layout_width _ _ _ _ h) rfl ?_ | refine call_pure (layout_width _ _ _ _ h) rfl (by intro k; first | rfl | simp only [sq, sr, *]) ?_)
 simp only [↓pre, simprocAttr, parV, sx, tys184, onceA, wrap_dl h, wrap_dlw h, m_of]
def upI (a b : Int) : Int := (a + b - 1) / b
theorem layout_up (a b : Int) (ha : 0 ≤ a) (ha2 : a ≤ 1000000) (hb : 1 ≤ b) (hb2 : b ≤ 1000000) : FSpec Tryz.prog 221 [intV a, intV b] ⟨intV (upI a b), []⟩ := by
 refine fspec_of_body follows Tryz.func221 (by unfold Tryz.f221; rfl) (by unfold Tryz.f221; simp) onceA (by unfold Tryz.f221; simp) (by kernel_rfl) ?_; unfold Tryz.f221
 have h1 : IntKind.i64.wrap (b - 1) = b - 1 := wrap_id (by omega) (by omega)
 have h2 : IntKind.i64.wrap (a + (b - 1)) = a + (b - 1) := wrap_id (by omega) (by omega)
 have h3 : (a + (b - 1)).tdiv b = upI a b := by rw [tdiv_pos (by omega)]; unfold upI; congr 1; omega
 have h4 : 0 ≤ upI a b := by unfold upI; exact Int.ediv_nonneg (by omega) (by omega)
 have h5 : upI a b ≤ 2000000 := by unfold upI; exact Int.le_trans (Int.ediv_le_self _ (by omega)) (by omega)
 have h6 : IntKind.i64.wrap (upI a b) = upI a b := wrap_id (by omega) (by omega)
 have hb0 : b ≠ 0 := by omega
 simp only [↓pre, simprocAttr, parV, sx, tys221, onceA, h1, h2, h3, h6, hb0]
def sI (k c n : Int) : Int := upI n (wI k c)
def fI (k c n : Int) : Int := if sI k c n ≤ dI k c then 0 else upI (sI k c n) (lI k c)
theorem up_bounds {a b : Int} (ha : 0 ≤ a) (ha2 : a ≤ 32768) (hb : 1 ≤ b) (hb2 : b ≤ 1000) : 0 ≤ upI a b ∧ upI a b ≤ 33768 := by
 unfold upI
 exact ⟨Int.ediv_nonneg (by omega) (by omega), Int.le_trans (Int.ediv_le_self _ (by omega)) (by omega)⟩
theorem m_le (k c : Int) : mI k c ≤ 32768 := by unfold mI; omega
theorem layout_of (k r c w n : Int) (g : FuncId) (hg : mayB k r c w = true → FSpec Tryz.prog g [parV k r c w] ⟨intV n, []⟩) : FSpec Tryz.prog 183 [parV k r c w, .clo g []] ⟨.tup [intV (if mayB k r c w then n else 0), intV (if mayB k r c w then 0 else 2)], []⟩ := by
 refine fspec_of_body follows Tryz.func183 (by unfold Tryz.f183; rfl) (by unfold Tryz.f183; simp) onceA (by unfold Tryz.f183; simp) (by kernel_rfl) ?_; unfold Tryz.f183
 cases h : mayB k r c w with
 | false => simp only [↓pre, simprocAttr, parV, sx, tys183, onceA, h]; repeat' ((first | refine guard_dec (fun _ => ?_) (fun _ => ?_) | refine cond_dec (fun _ => ?_) (fun _ => ?_) | refine guard_ndec (fun _ => ?_) (fun _ => ?_) | refine cond_ndec (fun _ => ?_) (fun _ => ?_) | refine guard_split (fun _ => ?_) (fun _ => ?_) | refine cond_split (fun _ => ?_) (fun _ => ?_) | refine call_plain (layout_check _ _ _ _) (by first | rfl | simp only [parV, plQ, *]) ?_ | refine call_pure (layout_check _ _ _ _) (by first | rfl | simp only [parV, plQ, *]) (by intro k; first | rfl | simp only [sq, sr, *]) ?_) <;> simp only [↓pre, simprocAttr, parV, sx, tys183, onceA, h, *])
 | true => simp only [↓pre, simprocAttr, parV, sx, tys183, onceA, h]; repeat' ((first | refine guard_dec (fun _ => ?_) (fun _ => ?_) | refine cond_dec (fun _ => ?_) (fun _ => ?_) | refine guard_ndec (fun _ => ?_) (fun _ => ?_) | refine cond_ndec (fun _ => ?_) (fun _ => ?_) | refine guard_split (fun _ => ?_) (fun _ => ?_) | refine cond_split (fun _ => ?_) (fun _ => ?_) | refine call_plain (layout_check _ _ _ _) (by first | rfl | simp only [parV, plQ, *]) ?_ | refine call_plain (hg h) (by first | rfl | simp only [parV, plQ, *]) ?_ | refine call_pure (layout_check _ _ _ _) (by first | rfl | simp only [parV, plQ, *]) (by intro k; first | rfl | simp only [sq, sr, *]) ?_ | refine call_pure (hg h) (by first | rfl | simp only [parV, plQ, *]) (by intro k; first | rfl | simp only [sq, sr, *]) ?_) <;> simp only [↓pre, simprocAttr, parV, sx, tys183, onceA, h, *])
theorem may_n {k r c w : Int} (h : mayB k r c w = true) : 1 ≤ k + r ∧ k + r ≤ 16 ∧ 8 ≤ c ∧ c ≤ 64 ∧ 1 ≤ k ∧ 0 ≤ r := by
 rw [mayB_of] at h
 omega
theorem layout_drives (k r c w : Int) (h : mayB k r c w = true) : FSpec Tryz.prog 241 [parV k r c w] ⟨intV (k + r), []⟩ := by
 have hn := may_n h
 have w1 : IntKind.i64.wrap (k + r) = k + r := wrap_id (by omega) (by omega)
 refine fspec_of_body follows Tryz.func241 (by unfold Tryz.f241; rfl) (by unfold Tryz.f241; simp) onceA (by unfold Tryz.f241; simp) (by kernel_rfl) ?_; unfold Tryz.f241
 simp only [↓pre, simprocAttr, parV, sx, tys241, onceA, w1]
theorem layout_Drives (k r c w : Int) : FSpec Tryz.prog 173 [parV k r c w] ⟨.tup [intV (if mayB k r c w then k + r else 0), intV (if mayB k r c w then 0 else 2)], []⟩ := by
 refine fspec_of_body follows Tryz.func173 (by unfold Tryz.f173; rfl) (by unfold Tryz.f173; simp) onceA (by unfold Tryz.f173; simp) (by kernel_rfl) ?_; unfold Tryz.f173
 simp only [↓pre, simprocAttr, parV, sx, tys173, onceA]; repeat' ((first | refine guard_dec (fun _ => ?_) (fun _ => ?_) | refine cond_dec (fun _ => ?_) (fun _ => ?_) | refine guard_ndec (fun _ => ?_) (fun _ => ?_) | refine cond_ndec (fun _ => ?_) (fun _ => ?_) | refine guard_split (fun _ => ?_) (fun _ => ?_) | refine cond_split (fun _ => ?_) (fun _ => ?_) | refine call_plain (layout_of _ _ _ _ _ _ (layout_drives k r c w)) (by first | rfl | simp only [parV, plQ, *]) ?_ | refine call_pure (layout_of _ _ _ _ _ _ (layout_drives k r c w)) (by first | rfl | simp only [parV, plQ, *]) (by intro k; first | rfl | simp only [sq, sr, *]) ?_) <;> simp only [↓pre, simprocAttr, parV, sx, tys173, onceA, *])
def sizeI (k r c : Int) : Int := 12 + 4 * (k + r) + c
theorem slot_Size (k r c w : Int) : FSpec Tryz.prog 170 [parV k r c w] ⟨.tup [intV (if mayB k r c w then sizeI k r c else 0), intV (if mayB k r c w then 0 else 2)], []⟩ := by
 refine fspec_of_body follows Tryz.func170 (by unfold Tryz.f170; rfl) (by unfold Tryz.f170; simp) onceA (by unfold Tryz.f170; simp) (by kernel_rfl) ?_; unfold Tryz.f170
 cases h : mayB k r c w with
 | false => simp only [↓pre, simprocAttr, parV, sx, tys170, onceA, h, Bool.false_eq_true]; repeat' ((first | refine guard_dec (fun _ => ?_) (fun _ => ?_) | refine cond_dec (fun _ => ?_) (fun _ => ?_) | refine guard_ndec (fun _ => ?_) (fun _ => ?_) | refine cond_ndec (fun _ => ?_) (fun _ => ?_) | refine guard_split (fun _ => ?_) (fun _ => ?_) | refine cond_split (fun _ => ?_) (fun _ => ?_) | refine call_plain (layout_Drives _ _ _ _) (by first | rfl | simp only [parV, plQ, *]) ?_ | refine call_pure (layout_Drives _ _ _ _) (by first | rfl | simp only [parV, plQ, *]) (by intro k; first | rfl | simp only [sq, sr, *]) ?_) <;> simp only [↓pre, simprocAttr, parV, sx, tys170, onceA, h, Bool.false_eq_true, *])
 | true =>
   have hn := may_n h
   have w1 : IntKind.i64.wrap (4 * (k + r)) = 4 * (k + r) := wrap_id (by omega) (by omega)
   have w2 : IntKind.i64.wrap (12 + 4 * (k + r)) = 12 + 4 * (k + r) := wrap_id (by omega) (by omega)
   have w3 : IntKind.i64.wrap (12 + 4 * (k + r) + c) = 12 + 4 * (k + r) + c := wrap_id (by omega) (by omega)
   replace hn := Hid.mk hn
   simp only [↓pre, simprocAttr, parV, sx, tys170, onceA, h, w1, w2, w3, sizeI]; repeat' ((first | refine guard_dec (fun _ => ?_) (fun _ => ?_) | refine cond_dec (fun _ => ?_) (fun _ => ?_) | refine guard_ndec (fun _ => ?_) (fun _ => ?_) | refine cond_ndec (fun _ => ?_) (fun _ => ?_) | refine guard_split (fun _ => ?_) (fun _ => ?_) | refine cond_split (fun _ => ?_) (fun _ => ?_) | refine call_plain (layout_Drives _ _ _ _) (by first | rfl | simp only [parV, plQ, *]) ?_ | refine call_pure (layout_Drives _ _ _ _) (by first | rfl | simp only [parV, plQ, *]) (by intro k; first | rfl | simp only [sq, sr, *]) ?_) <;> simp only [↓pre, simprocAttr, parV, sx, tys170, onceA, h, w1, w2, w3, sizeI, *])
def verB (n : Int) : Bool := decide (1 ≤ n ∧ n ≤ 1073741824)
theorem vector_version (n : Int) : FSpec Tryz.prog 252 [intV n] ⟨boolV (verB n), []⟩ := by
 refine fspec_of_body follows Tryz.func252 (by unfold Tryz.f252; rfl) (by unfold Tryz.f252; simp) onceA (by unfold Tryz.f252; simp) (by kernel_rfl) ?_; unfold Tryz.f252
 simp only [↓pre, simprocAttr, parV, sx, tys252, onceA, boolV]; repeat' ((first | refine guard_dec (fun _ => ?_) (fun _ => ?_) | refine cond_dec (fun _ => ?_) (fun _ => ?_) | refine guard_ndec (fun _ => ?_) (fun _ => ?_) | refine cond_ndec (fun _ => ?_) (fun _ => ?_) | refine guard_split (fun _ => ?_) (fun _ => ?_) | refine cond_split (fun _ => ?_) (fun _ => ?_)) <;> simp only [↓pre, simprocAttr, parV, sx, tys252, onceA, boolV, *])
 all_goals refine bool_fin ?_
 all_goals simp [verB]
 all_goals omega
theorem vector_check1 (n : Int) : FSpec Tryz.prog 328 [intV n] ⟨boolV (!verB n), []⟩ := by
 refine fspec_of_body follows Tryz.func328 (by unfold Tryz.f328; rfl) (by unfold Tryz.f328; simp) onceA (by unfold Tryz.f328; simp) (by kernel_rfl) ?_; unfold Tryz.f328
 simp only [↓pre, simprocAttr, parV, sx, tys328, onceA, boolV]
 (first | refine call_plain (vector_version n) (by first | rfl | simp only [parV, plQ, *]) ?_ | refine call_pure (vector_version n) (by first | rfl | simp only [parV, plQ, *]) (by intro k; first | rfl | simp only [sq, sr, *]) ?_); simp only [↓pre, simprocAttr, parV, sx, tys328, onceA, boolV]
def oE (k r c w n : Int) : Int := if mayB k r c w = true then (if n < 0 then 2 else if mI k c < n then 3 else 0) else 2
def oS (k r c w n : Int) : Int := if oE k r c w n = 0 then sI k c n else 0
def oF (k r c w n : Int) : Int := if oE k r c w n = 0 then fI k c n else 0
theorem layout_object (k r c w n : Int) : FSpec Tryz.prog 140 [parV k r c w, intV n] ⟨.tup [intV (oS k r c w n), intV (oF k r c w n), intV (oE k r c w n)], []⟩ := by
 refine fspec_of_body follows Tryz.func140 (by unfold Tryz.f140; rfl) (by unfold Tryz.f140; simp) onceA (by unfold Tryz.f140; simp) (by kernel_rfl) ?_; unfold Tryz.f140
 simp only [↓pre, simprocAttr, parV, sx, tys140, onceA]
 (first | refine call_plain (layout_check _ _ _ _) rfl ?_ | refine call_pure (layout_check _ _ _ _) rfl (by intro k; first | rfl | simp only [sq, sr, *]) ?_)
 cases h : mayB k r c w with
 | false => simp only [↓pre, simprocAttr, parV, sx, tys140, onceA, h, oS, oF, oE, Bool.false_eq_true]
 | true =>
   have hw := may_w h
   have hd := d_bounds hw.1 hw.2
   have hl := l_bounds hw.1 hw.2
   have hmm := m_le k c
   simp only [↓pre, simprocAttr, parV, sx, tys140, onceA]
   refine cond_split (fun hn => ?_) (fun hn => ?_)
   · have hn := of_decide_eq_true hn
     simp only [↓pre, simprocAttr, parV, sx, tys140, onceA, h, oS, oF, oE, hn]
   · have hn := of_decide_eq_false hn
     simp only [↓pre, simprocAttr, parV, sx, tys140, onceA, oS, oF, oE, h, hn]
     (first | refine call_plain (layout_most _ _ _ _ h) rfl ?_ | refine call_pure (layout_most _ _ _ _ h) rfl (by intro k; first | rfl | simp only [sq, sr, *]) ?_)
     simp only [↓pre, simprocAttr, parV, sx, tys140, onceA]
     refine cond_split (fun hb => ?_) (fun hb => ?_)
     · have hb := of_decide_eq_true hb
       simp only [↓pre, simprocAttr, parV, sx, tys140, onceA, hb]
     · have hb := of_decide_eq_false hb
       simp only [↓pre, simprocAttr, parV, sx, tys140, onceA]
       (first | refine call_plain (layout_width _ _ _ _ h) rfl ?_ | refine call_pure (layout_width _ _ _ _ h) rfl (by intro k; first | rfl | simp only [sq, sr, *]) ?_)
       simp only [↓pre, simprocAttr, parV, sx, tys140, onceA]
       (first | refine call_plain (layout_up _ _ (by omega) (by omega) (by unfold wI; omega) (by unfold wI; omega)) rfl ?_ | refine call_pure (layout_up _ _ (by omega) (by omega) (by unfold wI; omega) (by unfold wI; omega)) rfl (by intro k; first | rfl | simp only [sq, sr, *]) ?_)
       simp only [↓pre, simprocAttr, parV, sx, tys140, onceA]
       (first | refine call_plain (layout_direct _ _ _ _ h) rfl ?_ | refine call_pure (layout_direct _ _ _ _ h) rfl (by intro k; first | rfl | simp only [sq, sr, *]) ?_)
       simp only [↓pre, simprocAttr, parV, sx, tys140, onceA]
       have hs := up_bounds (a := n) (b := wI k c) (by omega) (by omega) (by unfold wI; omega) (by unfold wI; omega)
       refine cond_split (fun hc => ?_) (fun hc => ?_)
       · have hc := of_decide_eq_true hc
         simp only [↓pre, simprocAttr, parV, sx, tys140, onceA]
         (first | refine call_plain (layout_leaf _ _ _ _ h) rfl ?_ | refine call_pure (layout_leaf _ _ _ _ h) rfl (by intro k; first | rfl | simp only [sq, sr, *]) ?_)
         simp only [↓pre, simprocAttr, parV, sx, tys140, onceA]
         (first | refine call_plain (layout_up _ _ hs.1 (by omega) (by unfold lI; omega) (by unfold lI; omega)) rfl ?_ | refine call_pure (layout_up _ _ hs.1 (by omega) (by unfold lI; omega) (by unfold lI; omega)) rfl (by intro k; first | rfl | simp only [sq, sr, *]) ?_)
         simp only [↓pre, simprocAttr, parV, sx, tys140, onceA, hb, fI, sI, show ¬ upI n (wI k c) ≤ dI k c by omega]
       · have hc := of_decide_eq_false hc
         simp only [↓pre, simprocAttr, parV, sx, tys140, onceA, hb, fI, sI, show upI n (wI k c) ≤ dI k c by omega]
theorem layout_stripes (k r c w n : Int) : FSpec Tryz.prog 67 [parV k r c w, intV n] ⟨.tup [intV (oS k r c w n), intV (oE k r c w n)], []⟩ := by
 refine fspec_of_body follows Tryz.func67 (by unfold Tryz.f67; rfl) (by unfold Tryz.f67; simp) onceA (by unfold Tryz.f67; simp) (by kernel_rfl) ?_; unfold Tryz.f67
 simp only [↓pre, simprocAttr, parV, sx, tys67, onceA]
 (first | refine call_plain (layout_object _ _ _ _ _) rfl ?_ | refine call_pure (layout_object _ _ _ _ _) rfl (by intro k; first | rfl | simp only [sq, sr, *]) ?_)
 simp only [↓pre, simprocAttr, parV, sx, tys67, onceA]
theorem layout_leaves (k r c w n : Int) : FSpec Tryz.prog 68 [parV k r c w, intV n] ⟨.tup [intV (oF k r c w n), intV (oE k r c w n)], []⟩ := by
 refine fspec_of_body follows Tryz.func68 (by unfold Tryz.f68; rfl) (by unfold Tryz.f68; simp) onceA (by unfold Tryz.f68; simp) (by kernel_rfl) ?_; unfold Tryz.f68
 simp only [↓pre, simprocAttr, parV, sx, tys68, onceA]
 (first | refine call_plain (layout_object _ _ _ _ _) rfl ?_ | refine call_pure (layout_object _ _ _ _ _) rfl (by intro k; first | rfl | simp only [sq, sr, *]) ?_)
 simp only [↓pre, simprocAttr, parV, sx, tys68, onceA]
theorem layout_Depth (k r c w n : Int) : FSpec Tryz.prog 250 [parV k r c w, intV n] ⟨.tup [intV (min (oF k r c w n) 1), intV (oE k r c w n)], []⟩ := by
 have h1 := layout_object k r c w n
 refine fspec_of_body follows Tryz.func250 (by unfold Tryz.f250; rfl) (by unfold Tryz.f250; simp) onceA (by unfold Tryz.f250; simp) (by kernel_rfl) ?_; unfold Tryz.f250
 simp only [↓pre, simprocAttr, parV, sx, tys250, onceA]
 (first | refine call_plain (h1) (by first | rfl | simp only [parV, plQ, *]) ?_ | refine call_pure (h1) (by first | rfl | simp only [parV, plQ, *]) (by intro k; first | rfl | simp only [sq, sr, *]) ?_); simp only [↓pre, simprocAttr, parV, sx, tys250, onceA]
theorem layout_Width (k r c w : Int) : FSpec Tryz.prog 182 [parV k r c w] ⟨.tup [intV (if mayB k r c w then wI k c else 0), intV (if mayB k r c w then 0 else 2)], []⟩ := by
 have h1 := layout_of k r c w (wI k c) 222 (fun h => layout_width k r c w h)
 refine fspec_of_body follows Tryz.func182 (by unfold Tryz.f182; rfl) (by unfold Tryz.f182; simp) onceA (by unfold Tryz.f182; simp) (by kernel_rfl) ?_; unfold Tryz.f182
 simp only [↓pre, simprocAttr, parV, sx, tys182, onceA]
 (first | refine call_plain (h1) (by first | rfl | simp only [parV, plQ, *]) ?_ | refine call_pure (h1) (by first | rfl | simp only [parV, plQ, *]) (by intro k; first | rfl | simp only [sq, sr, *]) ?_); simp only [↓pre, simprocAttr, parV, sx, tys182, onceA]
def intsA (l : List Int) : List AV := l.map intV
theorem int_at {l : List Int} {x : List AV} {i : Nat} {n : Int} (h : l[i]? = some n) : (intsA l ++ x)[i]? = some (.val (.int .i64 n)) := by
 have hi := (List.getElem?_eq_some_iff.1 h).1
 rw [List.getElem?_append_left (by simpa [intsA] using hi)]
 simp [intsA, h, intV]
def idxI (p : Int → Bool) (l : List Int) : Int := match l.findIdx? p with
 | some i => (i : Nat)
 | none => -1
theorem idxI_some {p : Int → Bool} {l : List Int} {i : Nat} {n : Int} (h : l[i]? = some n) (hp : p n = true) (hb : ∀ (j : Nat) (m : Int), j < i → l[j]? = some m → p m = false) : idxI p l = (i : Nat) := by
 obtain ⟨hi1, hi2⟩ := (List.getElem?_eq_some_iff.1 h)
 have : l.findIdx? p = some i := by
   rw [List.findIdx?_eq_some_iff_getElem]
   refine ⟨hi1, by rw [hi2]; exact hp, fun j hj => ?_⟩
   simpa using hb j _ hj (List.getElem?_eq_getElem (Nat.lt_trans hj hi1))
 rw [idxI, this]
theorem idxI_none {p : Int → Bool} {l : List Int} (hb : ∀ (j : Nat) (m : Int), l[j]? = some m → p m = false) : idxI p l = -1 := by
 have : l.findIdx? p = none := by
   rw [List.findIdx?_eq_none_iff]
   intro m hm
   obtain ⟨j, hj, rfl⟩ := List.getElem_of_mem hm
   exact hb j _ (List.getElem?_eq_getElem hj)
 rw [idxI, this]
theorem idxI_any (p : Int → Bool) (l : List Int) : decide (0 ≤ idxI p l) = l.any p := by
 unfold idxI
 cases h : l.findIdx? p with
 | none =>
   rw [List.findIdx?_eq_none_iff] at h
   have : l.any p = false := by rw [List.any_eq_false]; intro m hm; rw [h m hm]; decide
   rw [this]; rfl
 | some i =>
   obtain ⟨hi, hp, _⟩ := List.findIdx?_eq_some_iff_getElem.1 h
   have : l.any p = true := List.any_eq_true.2 ⟨_, List.getElem_mem hi, hp⟩
   rw [this]
   simp
theorem index_func (v : AV) (l : List Int) (x : List AV) (g : FuncId) (caps : List AV) (p : Int → Bool) (hv : RdSl v l.length (intsA l ++ x)) (hn : l.length ≤ 1000000000000) (hc : plains caps = true) (hg : ∀ n ∈ l, FSpec Tryz.prog g (intV n :: caps) ⟨boolV (p n), []⟩) : FSpec Tryz.prog 242 [v, .clo g caps] ⟨intV (idxI p l), []⟩ := by
 refine fspec_of_body follows Tryz.func242 (by unfold Tryz.f242; rfl) (by unfold Tryz.f242; simp) onceA (by unfold Tryz.f242; simp) (by kernel_rfl) ?_; unfold Tryz.f242
 have hpl := hv.plain
 simp only [↓pre, simprocAttr, parV, sx, tys242, onceA, postU, hv.len']
 rw [codeW_loop]
 refine loop_intro (fun n e m => ∃ i, n + i = l.length ∧ e 0 = v ∧ e 1 = .clo g caps ∧ e 7 = intV (l.length : Nat) ∧ e 8 = intV (i : Nat) ∧ ∀ (j : Nat) (m : Int), j < i → l[j]? = some m → p m = false) l.length ⟨0, by omega, ?_⟩ ?_
 · simp [Env.set, entryE, intV]
 · rintro n e m ⟨i, hi, e0, e1, e7, e8, hpre⟩
   replace hpre := Hid.mk hpre
   by_cases hlt : i < l.length
   · have hlt' : (i : Int) < (l.length : Nat) := by omega
     obtain ⟨a, ha⟩ : ∃ a, l[i]? = some a := ⟨_, List.getElem?_eq_getElem hlt⟩
     have a1 := int_at (x := x) ha
     have w1 := wrap_succ (n := i) (by omega)
     have hga := hg a (List.mem_of_getElem? ha)
     replace ha := Hid.mk ha
     simp only [↓pre, simprocAttr, parV, sx, tys242, onceA, postU, e0, e1, e7, e8, hlt', hv.addr', hlt, Nat.mul_one, a1, w1]
     cases hp : p a with
     | true =>
       have hx := idxI_some ha.out hp hpre.out
       rw [hp] at hga
       (first | refine call_plain hga (by simp only [plains, plain, intV, hc, Bool.and_true, Bool.and_self]) ?_ | refine call_pure hga (by simp only [plains, plain, intV, hc, Bool.and_true, Bool.and_self]) (by intro k; first | rfl | simp only [sq, sr, *]) ?_)
       simp only [↓pre, simprocAttr, parV, sx, tys242, onceA, postU, e0, e1, e7, e8, boolV, hx]
     | false =>
       rw [hp] at hga
       (first | refine call_plain hga (by simp only [plains, plain, intV, hc, Bool.and_true, Bool.and_self]) ?_ | refine call_pure hga (by simp only [plains, plain, intV, hc, Bool.and_true, Bool.and_self]) (by intro k; first | rfl | simp only [sq, sr, *]) ?_)
       simp only [↓pre, simprocAttr, parV, sx, tys242, onceA, postU, e0, e1, e7, e8, boolV, w1]
       refine ⟨n - 1, by omega, i + 1, by omega, rfl, fun j m hj hm => ?_⟩
       by_cases hji : j = i
       · subst hji
         rw [ha.out] at hm
         cases hm
         exact hp
       · exact hpre.out j m (by omega) hm
   · have hlt' : ¬ (i : Int) < (l.length : Nat) := by omega
     have hx := idxI_none (p := p) (l := l) fun j m hj => hpre.out j m (by have := (List.getElem?_eq_some_iff.1 hj).1; omega) hj
     simp only [↓pre, simprocAttr, parV, sx, tys242, onceA, postU, e0, e1, e7, e8, hlt', decide_false, cond_f, hx]
theorem contains_func (v : AV) (l : List Int) (x : List AV) (g : FuncId) (caps : List AV) (p : Int → Bool) (hv : RdSl v l.length (intsA l ++ x)) (hn : l.length ≤ 1000000000000) (hc : plains caps = true) (hg : ∀ n ∈ l, FSpec Tryz.prog g (intV n :: caps) ⟨boolV (p n), []⟩) : FSpec Tryz.prog 174 [v, .clo g caps] ⟨boolV (l.any p), []⟩ := by
 have h1 := index_func v l x g caps p hv hn hc hg
 have h2 := idxI_any p l
 have hpl := hv.plain
 refine fspec_of_body follows Tryz.func174 (by unfold Tryz.f174; rfl) (by unfold Tryz.f174; simp) onceA (by unfold Tryz.f174; simp) (by kernel_rfl) ?_; unfold Tryz.f174
 simp only [↓pre, simprocAttr, parV, sx, tys174, onceA, boolV]
 (first | refine call_plain h1 (by simp only [plains, plain, hpl, hc, Bool.and_true, Bool.and_self]) ?_ | refine call_pure h1 (by simp only [plains, plain, hpl, hc, Bool.and_true, Bool.and_self]) (by intro k; first | rfl | simp only [sq, sr, *]) ?_)
 simp only [↓pre, simprocAttr, parV, sx, tys174, onceA, boolV, h2]
def vecE (k r c w : Int) (l : List Int) : Int := if mayB k r c w = true then (if (l.length : Int) = k + r then (if l.any (fun n => !verB n) = true then 70 else 0) else 70) else 2
theorem vector_Check (k r c w : Int) (v : AV) (l : List Int) (x : List AV) (hv : RdSl v l.length (intsA l ++ x)) (hn : l.length ≤ 1000000000000) : FSpec Tryz.prog 295 [parV k r c w, v] ⟨intV (vecE k r c w l), []⟩ := by
 have hc := contains_func v l x 328 [] (fun n => !verB n) hv hn rfl (fun n _ => vector_check1 n)
 have hp := hv.plain
 refine fspec_of_body follows Tryz.func295 (by unfold Tryz.f295; rfl) (by unfold Tryz.f295; simp) onceA (by unfold Tryz.f295; simp) (by kernel_rfl) ?_; unfold Tryz.f295
 cases h : mayB k r c w with
 | false =>
   have he : vecE k r c w l = 2 := by simp [vecE, h]
   simp only [↓pre, simprocAttr, parV, sx, tys295, onceA, h, Bool.false_eq_true, he]; repeat' ((first | refine guard_dec (fun _ => ?_) (fun _ => ?_) | refine cond_dec (fun _ => ?_) (fun _ => ?_) | refine guard_ndec (fun _ => ?_) (fun _ => ?_) | refine cond_ndec (fun _ => ?_) (fun _ => ?_) | refine guard_split (fun _ => ?_) (fun _ => ?_) | refine cond_split (fun _ => ?_) (fun _ => ?_) | refine call_plain (layout_Drives _ _ _ _) (by first | rfl | simp only [parV, plQ, *]) ?_ | refine call_pure (layout_Drives _ _ _ _) (by first | rfl | simp only [parV, plQ, *]) (by intro k; first | rfl | simp only [sq, sr, *]) ?_) <;> simp only [↓pre, simprocAttr, parV, sx, tys295, onceA, h, Bool.false_eq_true, he, *])
 | true =>
   by_cases hl : (l.length : Int) = k + r
   · cases ha : l.any (fun n => !verB n) with
     | true =>
       have he : vecE k r c w l = 70 := by rw [vecE, if_pos h, if_pos hl, if_pos ha]
       rw [ha] at hc
       simp only [↓pre, simprocAttr, parV, sx, tys295, onceA, postU, h, hv.len', hl, he, boolV]; repeat' ((first | refine guard_dec (fun _ => ?_) (fun _ => ?_) | refine cond_dec (fun _ => ?_) (fun _ => ?_) | refine guard_ndec (fun _ => ?_) (fun _ => ?_) | refine cond_ndec (fun _ => ?_) (fun _ => ?_) | refine guard_split (fun _ => ?_) (fun _ => ?_) | refine cond_split (fun _ => ?_) (fun _ => ?_) | refine call_plain (layout_Drives _ _ _ _) (by first | rfl | simp only [parV, plQ, *]) ?_ | refine call_plain (hc) (by first | rfl | simp only [parV, plQ, *]) ?_ | refine call_pure (layout_Drives _ _ _ _) (by first | rfl | simp only [parV, plQ, *]) (by intro k; first | rfl | simp only [sq, sr, *]) ?_ | refine call_pure (hc) (by first | rfl | simp only [parV, plQ, *]) (by intro k; first | rfl | simp only [sq, sr, *]) ?_) <;> simp only [↓pre, simprocAttr, parV, sx, tys295, onceA, postU, h, hv.len', hl, he, boolV, *])
     | false =>
       have he : vecE k r c w l = 0 := by rw [vecE, if_pos h, if_pos hl, if_neg (by rw [ha]; decide)]
       rw [ha] at hc
       simp only [↓pre, simprocAttr, parV, sx, tys295, onceA, postU, h, hv.len', hl, he, boolV]; repeat' ((first | refine guard_dec (fun _ => ?_) (fun _ => ?_) | refine cond_dec (fun _ => ?_) (fun _ => ?_) | refine guard_ndec (fun _ => ?_) (fun _ => ?_) | refine cond_ndec (fun _ => ?_) (fun _ => ?_) | refine guard_split (fun _ => ?_) (fun _ => ?_) | refine cond_split (fun _ => ?_) (fun _ => ?_) | refine call_plain (layout_Drives _ _ _ _) (by first | rfl | simp only [parV, plQ, *]) ?_ | refine call_plain (hc) (by first | rfl | simp only [parV, plQ, *]) ?_ | refine call_pure (layout_Drives _ _ _ _) (by first | rfl | simp only [parV, plQ, *]) (by intro k; first | rfl | simp only [sq, sr, *]) ?_ | refine call_pure (hc) (by first | rfl | simp only [parV, plQ, *]) (by intro k; first | rfl | simp only [sq, sr, *]) ?_) <;> simp only [↓pre, simprocAttr, parV, sx, tys295, onceA, postU, h, hv.len', hl, he, boolV, *])
   · have he : vecE k r c w l = 70 := by rw [vecE, if_pos h, if_neg hl]
     simp only [↓pre, simprocAttr, parV, sx, tys295, onceA, postU, h, hv.len', hl, he, boolV]; repeat' ((first | refine guard_dec (fun _ => ?_) (fun _ => ?_) | refine cond_dec (fun _ => ?_) (fun _ => ?_) | refine guard_ndec (fun _ => ?_) (fun _ => ?_) | refine cond_ndec (fun _ => ?_) (fun _ => ?_) | refine guard_split (fun _ => ?_) (fun _ => ?_) | refine cond_split (fun _ => ?_) (fun _ => ?_) | refine call_plain (layout_Drives _ _ _ _) (by first | rfl | simp only [parV, plQ, *]) ?_ | refine call_pure (layout_Drives _ _ _ _) (by first | rfl | simp only [parV, plQ, *]) (by intro k; first | rfl | simp only [sq, sr, *]) ?_) <;> simp only [↓pre, simprocAttr, parV, sx, tys295, onceA, postU, h, hv.len', hl, he, boolV, *])
def lastI (l : List Int) : Int := l.foldl max 0
theorem last_take {l : List Int} {i : Nat} {n : Int} (h : l[i]? = some n) : lastI (l.take (i + 1)) = max (lastI (l.take i)) n := by
 rw [List.take_add_one, h]
 simp [lastI]
theorem vector_Last (k r c w : Int) (v : AV) (l : List Int) (x : List AV) (hv : RdSl v l.length (intsA l ++ x)) (hn : l.length ≤ 1000000000000) : FSpec Tryz.prog 240 [parV k r c w, v] ⟨.tup [intV (if vecE k r c w l = 0 then lastI l else 0), intV (vecE k r c w l)], []⟩ := by
 have hc := vector_Check k r c w v l x hv hn
 have hp := hv.plain
 refine fspec_of_body follows Tryz.func240 (by unfold Tryz.f240; rfl) (by unfold Tryz.f240; simp) onceA (by unfold Tryz.f240; simp) (by kernel_rfl) ?_; unfold Tryz.f240
 simp only [↓pre, simprocAttr, parV, sx, tys240, onceA, postU]
 (first | refine call_plain hc (by simp only [plains, plain, parV, intV, hp, Bool.and_true, Bool.and_self]) ?_ | refine call_pure hc (by simp only [plains, plain, parV, intV, hp, Bool.and_true, Bool.and_self]) (by intro k; first | rfl | simp only [sq, sr, *]) ?_)
 by_cases he : vecE k r c w l = 0
 · simp only [↓pre, simprocAttr, parV, sx, tys240, onceA, postU, he, hv.len', eq_self]
   rw [codeW_loop]
   refine loop_intro (fun n e m => ∃ i, n + i = l.length ∧ e 16 = v ∧ e 17 = intV (l.length : Nat) ∧ e 18 = intV (i : Nat) ∧ e 7 = intV (lastI (l.take i))) l.length ⟨0, by omega, ?_⟩ ?_
   · simp [Env.set, entryE, intV, lastI]
   · rintro n e m ⟨i, hi, e16, e17, e18, e7⟩
     by_cases hlt : i < l.length
     · have hlt' : (i : Int) < (l.length : Nat) := by omega
       obtain ⟨a, ha⟩ : ∃ a, l[i]? = some a := ⟨_, List.getElem?_eq_getElem hlt⟩
       have a1 := int_at (x := x) ha
       have a2 := last_take ha
       have w1 := wrap_succ (n := i) (by omega)
       simp only [↓pre, simprocAttr, parV, sx, tys240, onceA, postU, e16, e17, e18, e7, hlt', hv.addr', hlt, Nat.mul_one, a1, w1]
       exact ⟨n - 1, by omega, i + 1, by omega, rfl, by rw [a2]⟩
     · have hlt' : ¬ (i : Int) < (l.length : Nat) := by omega
       have ht : l.take i = l := List.take_of_length_le (by omega)
       rw [ht] at e7
       simp only [↓pre, simprocAttr, parV, sx, tys240, onceA, postU, e16, e17, e18, e7, hlt', decide_false, cond_f]
 · simp only [↓pre, simprocAttr, parV, sx, tys240, onceA, postU, he]

theorem rd_fz {v : AV} {n : Nat} {cs : List AV} (h : RdSl v n cs) (m : Mem) : fz m v = some (v, m) := by
 rcases h.form with ⟨rfl, _⟩ | ⟨_, _, rfl, _⟩ | ⟨_, _, rfl, _⟩ <;> rfl
theorem rd_one {v : AV} {n : Nat} {cs : List AV} (h : RdSl v n cs) : oneA v = true := by
 rcases h.form with ⟨rfl, _⟩ | ⟨_, _, rfl, _⟩ | ⟨_, _, rfl, _⟩ <;> rfl
def slotV (kd ix ce st : Int) (vv dv : AV) : AV := .agg [.val (.int .u8 kd), intV ix, intV ce, intV st, vv, dv]
def mayS (k r c w kd ix ce st : Int) (l : List Int) (dn : Nat) : Bool :=
 decide (vecE k r c w l = 0) && (decide (st = lastI l) && (decide (0 ≤ ix ∧ ix < l.length) && ((decide (kd = 1) || decide (kd = 2)) && (decide (l[ix.toNat]? = some ce) && decide ((dn : Int) = c)))))
theorem slot_may (k r c w kd ix ce st : Int) (vv dv : AV) (l : List Int) (x : List AV) (dn : Nat) (y : List AV) (hv : RdSl vv l.length (intsA l ++ x)) (hd : RdSl dv dn y) (hn : l.length ≤ 1000000000000) : FSpec Tryz.prog 172 [parV k r c w, slotV kd ix ce st vv dv] ⟨boolV (mayS k r c w kd ix ce st l dn), []⟩ := by
 have hc := vector_Last k r c w vv l x hv hn
 have hp := hv.plain
 have f1 := rd_fz hv
 have f2 := rd_fz hd
 have o1 := rd_one hv
 have o2 := rd_one hd
 refine fspec_of_body follows Tryz.func172 (by unfold Tryz.f172; rfl) (by unfold Tryz.f172; simp) onceA (by unfold Tryz.f172; simp) (by kernel_rfl) ?_; unfold Tryz.f172
 unfold slotV
 simp only [↓pre, simprocAttr, parV, sx, tys172, onceA, postU, f1, f2, o1, o2, hv.len', hd.len']
 (first | refine call_plain hc (by simp only [plains, plain, parV, intV, hp, Bool.and_true, Bool.and_self]) ?_ | refine call_pure hc (by simp only [plains, plain, parV, intV, hp, Bool.and_true, Bool.and_self]) (by intro k; first | rfl | simp only [sq, sr, *]) ?_)
 by_cases he : vecE k r c w l = 0
 · by_cases hst : st = lastI l
   · subst hst
     by_cases h0 : ix < 0
     · have hx : mayS k r c w kd ix ce (lastI l) l dn = false := by
         have : ¬ (0 ≤ ix ∧ ix < l.length) := by omega
         rw [mayS, decide_eq_false this]; simp
       simp only [↓pre, simprocAttr, parV, sx, tys172, onceA, postU, he, hv.len', h0, hx, boolV, eq_self]
     · obtain ⟨i, rfl⟩ : ∃ i : Nat, ix = (i : Nat) := ⟨ix.toNat, by omega⟩
       by_cases h1 : i < l.length
       · have hlt : ¬ ((l.length : Nat) : Int) ≤ (i : Int) := by omega
         obtain ⟨a, ha⟩ : ∃ a, l[i]? = some a := ⟨_, List.getElem?_eq_getElem h1⟩
         have a1 := int_at (x := x) ha
         have hm : mayS k r c w kd (i : Nat) ce (lastI l) l dn = ((decide (kd = 1) || decide (kd = 2)) && (decide (a = ce) && decide ((dn : Int) = c))) := by
           have : (0 : Int) ≤ (i : Nat) ∧ ((i : Nat) : Int) < (l.length : Nat) := by omega
           rw [mayS, decide_eq_true he, decide_eq_true (rfl : lastI l = lastI l), decide_eq_true this, Int.toNat_natCast, ha]
           simp
         rw [hm]
         replace ha := Hid.mk ha
         replace hm := Hid.mk hm
         simp only [↓pre, simprocAttr, parV, sx, tys172, onceA, postU, he, hv.len', hd.len', hv.addr', h0, hlt, h1, Nat.mul_one, a1, boolV, eq_self]; repeat' ((first | refine guard_dec (fun _ => ?_) (fun _ => ?_) | refine cond_dec (fun _ => ?_) (fun _ => ?_) | refine guard_ndec (fun _ => ?_) (fun _ => ?_) | refine cond_ndec (fun _ => ?_) (fun _ => ?_) | refine guard_split (fun _ => ?_) (fun _ => ?_) | refine cond_split (fun _ => ?_) (fun _ => ?_)) <;> simp only [↓pre, simprocAttr, parV, sx, tys172, onceA, postU, he, hv.len', hd.len', hv.addr', h0, hlt, h1, Nat.mul_one, a1, boolV, eq_self, *])
         all_goals (first | rfl | (refine bool_fin ?_; simp_all; done) | (rename_i hh; have h2 : ¬ a = ce := fun e => hh e.symm; rw [decide_eq_false h2]; simp; done))
       · have hge : ((l.length : Nat) : Int) ≤ (i : Int) := by omega
         have hx : mayS k r c w kd (i : Nat) ce (lastI l) l dn = false := by
           have : ¬ ((0 : Int) ≤ (i : Nat) ∧ ((i : Nat) : Int) < (l.length : Nat)) := by omega
           rw [mayS, decide_eq_false this]; simp
         simp only [↓pre, simprocAttr, parV, sx, tys172, onceA, postU, he, hv.len', h0, hge, hx, boolV, eq_self]
   · have hx : mayS k r c w kd ix ce st l dn = false := by simp [mayS, hst]
     simp only [↓pre, simprocAttr, parV, sx, tys172, onceA, postU, he, hst, hx, boolV, eq_self]
 · have hx : mayS k r c w kd ix ce st l dn = false := by simp [mayS, he]
   simp only [↓pre, simprocAttr, parV, sx, tys172, onceA, postU, he, hx, boolV, eq_self]
def bytesA (l : List UInt8) : List AV := l.map byteV
theorem byte_at {bs : List UInt8} {x : List AV} {i : Nat} {a : UInt8} (h : bs[i]? = some a) : (bytesA bs ++ x)[i]? = some (.val (.int .u8 a.toNat)) := by
 have hi := (List.getElem?_eq_some_iff.1 h).1
 rw [List.getElem?_append_left (by simpa [bytesA] using hi)]
 simp [bytesA, h, byteV]
theorem bytesA_drop (bs : List UInt8) (x : List AV) (k : Nat) (hk : k ≤ bs.length) : (bytesA bs ++ x).drop k = bytesA (bs.drop k) ++ x := by
 rw [List.drop_append_of_le_length (by simpa [bytesA] using hk)]
 simp [bytesA, List.map_drop]
theorem rd_cut3 {P : Program} {t : TypeId} {v : AV} {n k : Nat} {cs : List AV} (h : RdSl v n cs) (h1 : ((elE P t).bind (szE P)).isSome = true) (hk : 0 < k) (hkn : k ≤ n) : ∃ v', sliceE P t none (some k) (some k) v = some v' ∧ RdSl v' k cs := by
 obtain ⟨sz, hsz⟩ := Option.isSome_iff_exists.1 h1
 obtain ⟨el, hel, hsz⟩ := Option.bind_eq_some_iff.1 hsz
 rcases h.form with ⟨rfl, h0⟩ | ⟨_, _, rfl, h0⟩ | ⟨c, f, rfl, hc⟩
 · omega
 · omega
 · refine ⟨.tree k k cs true, ?_, ⟨.inr (.inr ⟨k, true, rfl, Nat.le_refl _⟩)⟩⟩
   simp only [sliceE, hel, hsz, cutE, Option.isSome_some, Option.isNone_some, Bool.and_false, Bool.false_eq_true, if_false, Option.bind_some, Option.getD_some, Option.getD_none]
   rw [if_pos (by omega), if_neg (by omega)]
   simp
def beN (l : List UInt8) : Nat := l.foldl (fun n b => n * 256 + b.toNat) 0
theorem be_take {l : List UInt8} {i : Nat} {a : UInt8} (h : l[i]? = some a) : beN (l.take (i + 1)) = beN (l.take i) * 256 + a.toNat := by
 rw [List.take_add_one, h]
 simp [beN]
theorem be_le : ∀ (i : Nat) (l : List UInt8), beN (l.take i) < 256 ^ i
 | 0, l => by simp [beN]
 | i + 1, l => by
   by_cases h : i < l.length
   · have ih := be_le i l
     have hb := be_take (List.getElem?_eq_getElem h)
     have ha := (l[i]).toNat_lt
     rw [hb, Nat.pow_succ]
     omega
   · have ih := be_le i l
     have e : l.take (i + 1) = l.take i := by rw [List.take_of_length_le (by omega), List.take_of_length_le (by omega)]
     rw [e, Nat.pow_succ]
     omega
theorem rd_canon {P : Program} {m : Mem} {v : AV} {n : Nat} {cs : List AV} (h : RdSl v n cs) (d : Nat) (ids : List (Nat × Nat)) (rows : List (TypeId × List AV)) : canon P m d ids rows v = some (v, ids, rows) := by
 rcases h.form with ⟨rfl, _⟩ | ⟨_, _, rfl, _⟩ | ⟨_, _, rfl, _⟩ <;> (try unfold nilS) <;> (cases d <;> (unfold canon; rfl))
theorem slot_take (v : AV) (bs : List UInt8) (x : List AV) (hv : RdSl v bs.length (bytesA bs ++ x)) (h4 : 4 ≤ bs.length) : ∃ v', RdSl v' (bs.drop 4).length (bytesA (bs.drop 4) ++ x) ∧ FSpec Tryz.prog 171 [v] ⟨.tup [intV (beN (bs.take 4) : Nat), v'], []⟩ := by
 obtain ⟨v1, s1, r1⟩ := rd_cut3 (P := Tryz.prog) (t := 52) (k := 4) hv (by kernel_rfl) (by decide) h4
 obtain ⟨v2, s2, r2⟩ := hv.slice (P := Tryz.prog) (t := 52) (sz := 1) (lo := some 4) (hi := none) (by kernel_rfl) (by simpa using h4) (by simp)
 simp only [Option.getD_some, Option.getD_none, Nat.mul_one] at r2
 rw [bytesA_drop bs x 4 h4, ← List.length_drop] at r2
 refine ⟨v2, r2, ?_⟩
 have hp := hv.plain
 refine fspec_of_body follows Tryz.func171 (by unfold Tryz.f171; rfl) (by unfold Tryz.f171; simp) onceA (by unfold Tryz.f171; simp) (by kernel_rfl) ?_; unfold Tryz.f171
 have nt4 : natOf (.val (.int .i64 4)) = some 4 := rfl
 simp only [↓pre, simprocAttr, parV, sx, tys171, onceA, postU, postV, postX, hv.slOk, hv.sliceX, s1, s2, nt4, optNat, Option.map_some, Option.map_none, r1.len']
 rw [codeW_loop]
 refine loop_intro (fun n e m => ∃ i, n + i = 4 ∧ e 0 = v ∧ e 8 = v1 ∧ e 9 = intV 4 ∧ e 10 = intV (i : Nat) ∧ e 4 = intV (beN (bs.take i) : Nat)) 4 ⟨0, by omega, ?_⟩ ?_
 · simp [Env.set, entryE, intV, beN]
 · rintro n e m ⟨i, hi, e0, e8, e9, e10, e4⟩
   by_cases hlt : i < 4
   · have hlt' : (i : Int) < 4 := by omega
     obtain ⟨a, ha⟩ : ∃ a, bs[i]? = some a := ⟨_, List.getElem?_eq_getElem (by omega)⟩
     have a1 := byte_at (x := x) ha
     have a2 := be_take ha
     have hle := be_le i bs
     have ha256 := a.toNat_lt
     have w1 := wrap_succ (n := i) (by omega)
     simp only [↓pre, simprocAttr, parV, sx, tys171, onceA, postU, postV, postX, e0, e8, e9, e10, e4, hlt', r1.addr', hlt, Nat.mul_one, a1, w1]
     have hpow : 256 ^ i ≤ 256 ^ 3 := Nat.pow_le_pow_right (by decide) (by omega)
     have h3 : 256 ^ 3 = 16777216 := by decide
     have w5 : IntKind.i64.wrap (a.toNat : Int) = (a.toNat : Int) := wrap_nat (by omega)
     have w7 : IntKind.i64.wrap (((beN (bs.take i) : Nat) : Int) * 2 ^ min 8 IntKind.i64.bits) = ((beN (bs.take i) * 256 : Nat) : Int) := by
       rw [show (((beN (bs.take i) : Nat) : Int) * 2 ^ min 8 IntKind.i64.bits) = ((beN (bs.take i) * 256 : Nat) : Int) by simp [IntKind.bits]]
       exact wrap_nat (by omega)
     have w8 : borI .i64 ((beN (bs.take i) * 256 : Nat) : Int) (a.toNat : Int) = ((beN (bs.take i) * 256 + a.toNat : Nat) : Int) := by
       rw [borI_i64 (by omega) (by omega), or_add (by omega)]
     exact ⟨n - 1, by omega, i + 1, by omega, rfl, by rw [w7, w5, w8, a2]⟩
   · have hlt' : ¬ (i : Int) < 4 := by omega
     have hi4 : i = 4 := by omega
     subst hi4
     simp only [↓pre, simprocAttr, parV, sx, tys171, onceA, postU, postV, postX, e0, e8, e9, e10, e4, hlt', decide_false, cond_f, hv.slOk, hv.sliceX, s2, nt4, optNat, Option.map_some, Option.map_none, rd_canon r2]



theorem slices_Index (v : AV) (l : List Int) (x : List AV) (z : Int) (hv : RdSl v l.length (intsA l ++ x)) (hn : l.length ≤ 1000000000000) : FSpec Tryz.prog 176 [v, intV z] ⟨intV (idxI (fun n => decide (z = n)) l), []⟩ := by
 refine fspec_of_body follows Tryz.func176 (by unfold Tryz.f176; rfl) (by unfold Tryz.f176; simp) onceA (by unfold Tryz.f176; simp) (by kernel_rfl) ?_; unfold Tryz.f176
 have hpl := hv.plain
 simp only [↓pre, simprocAttr, parV, sx, tys176, onceA, postU, hv.len']
 rw [codeW_loop]
 refine loop_intro (fun n e m => ∃ i, n + i = l.length ∧ e 0 = v ∧ e 1 = intV z ∧ e 7 = intV (l.length : Nat) ∧ e 8 = intV (i : Nat) ∧ ∀ (j : Nat) (m : Int), j < i → l[j]? = some m → decide (z = m) = false) l.length ⟨0, by omega, ?_⟩ ?_
 · simp [Env.set, entryE, intV]
 · rintro n e m ⟨i, hi, e0, e1, e7, e8, hpre⟩
   replace hpre := Hid.mk hpre
   by_cases hlt : i < l.length
   · have hlt' : (i : Int) < (l.length : Nat) := by omega
     obtain ⟨a, ha⟩ : ∃ a, l[i]? = some a := ⟨_, List.getElem?_eq_getElem hlt⟩
     have a1 := int_at (x := x) ha
     have w1 := wrap_succ (n := i) (by omega)
     replace ha := Hid.mk ha
     by_cases hz : z = a
     · have hx := idxI_some (p := fun n => decide (z = n)) ha.out (decide_eq_true hz) hpre.out
       replace hz := Hid.mk hz
       have hz2 : decide (z = a) = true := decide_eq_true hz.out
       simp only [↓pre, simprocAttr, parV, sx, tys176, onceA, postU, e0, e1, e7, e8, hlt', hv.addr', hlt, Nat.mul_one, a1, w1, hz2, hx]
     · have hz2 : decide (z = a) = false := decide_eq_false hz
       simp only [↓pre, simprocAttr, parV, sx, tys176, onceA, postU, e0, e1, e7, e8, hlt', hv.addr', hlt, Nat.mul_one, a1, w1, hz2, cond_f]
       refine ⟨n - 1, by omega, i + 1, by omega, rfl, fun j m hj hm => ?_⟩
       by_cases hji : j = i
       · subst hji
         rw [ha.out] at hm
         cases hm
         exact hz2
       · exact hpre.out j m (by omega) hm
   · have hlt' : ¬ (i : Int) < (l.length : Nat) := by omega
     have hx := idxI_none (p := fun n => decide (z = n)) (l := l) fun j m hj => hpre.out j m (by have := (List.getElem?_eq_some_iff.1 hj).1; omega) hj
     simp only [↓pre, simprocAttr, parV, sx, tys176, onceA, postU, e0, e1, e7, e8, hlt', decide_false, cond_f, hx]
theorem slices_Contains (v : AV) (l : List Int) (x : List AV) (z : Int) (hv : RdSl v l.length (intsA l ++ x)) (hn : l.length ≤ 1000000000000) : FSpec Tryz.prog 95 [v, intV z] ⟨boolV (l.any fun n => decide (z = n)), []⟩ := by
 have h1 := slices_Index v l x z hv hn
 have h2 := idxI_any (fun n => decide (z = n)) l
 have hpl := hv.plain
 refine fspec_of_body follows Tryz.func95 (by unfold Tryz.f95; rfl) (by unfold Tryz.f95; simp) onceA (by unfold Tryz.f95; simp) (by kernel_rfl) ?_; unfold Tryz.f95
 simp only [↓pre, simprocAttr, parV, sx, tys95, onceA, boolV]
 (first | refine call_plain h1 (by simp only [plains, plain, hpl, intV, Bool.and_true, Bool.and_self]) ?_ | refine call_pure h1 (by simp only [plains, plain, hpl, intV, Bool.and_true, Bool.and_self]) (by intro k; first | rfl | simp only [sq, sr, *]) ?_)
 simp only [↓pre, simprocAttr, parV, sx, tys95, onceA, boolV, h2]
theorem census_held1 (z kd ix ce st : Int) (vv dv : AV) : FSpec Tryz.prog 175 [intV z, .tptr 0 [.val (.int .u8 kd), intV ix, intV ce, intV st, vv, dv]] ⟨boolV (!decide (z = ce)), []⟩ := by
 refine fspec_of_body follows Tryz.func175 (by unfold Tryz.f175; rfl) (by unfold Tryz.f175; simp) onceA (by unfold Tryz.f175; simp) (by kernel_rfl) ?_; unfold Tryz.f175
 simp only [↓pre, simprocAttr, parV, sx, tys175, onceA, boolV]
def once4 : Nat → Bool := fun d => d != 4
def slot0 : AV := slotV 0 0 0 0 nilS nilS
theorem slot_Parse_not (k r c w : Int) (v : AV) (bs : List UInt8) (x : List AV) (hv : RdSl v bs.length (bytesA bs ++ x)) (hm : mayB k r c w = false) : FSpec Tryz.prog 93 [parV k r c w, v] ⟨.tup [slot0, boolV false, intV 2], []⟩ := by
 have hp := hv.plain
 refine fspec_of_body follows Tryz.func93 (by unfold Tryz.f93; rfl) (by unfold Tryz.f93; simp) once4 (by unfold Tryz.f93; simp) (by kernel_rfl) ?_; unfold Tryz.f93
 simp only [↓pre, simprocAttr, parV, sx, tys93, once4, Option.getD_some, bne, postU, postV, allocE, storeE, eq_self, put_at, push_at]
 (first | refine call_plain (slot_Size k r c w) (by first | rfl | simp only [parV, plQ, *]) ?_ | refine call_pure (slot_Size k r c w) (by first | rfl | simp only [parV, plQ, *]) (by intro k; first | rfl | simp only [sq, sr, *]) ?_); simp only [↓pre, simprocAttr, parV, sx, tys93, once4, Option.getD_some, bne, postU, postV, allocE, storeE, eq_self, put_at, push_at, hm, Bool.false_eq_true]
 rfl
theorem slot_Parse_nil (k r c w : Int) (v : AV) (bs : List UInt8) (x : List AV) (hv : RdSl v bs.length (bytesA bs ++ x)) (hm : mayB k r c w = true) (hb : (bs.length : Int) = 0) : FSpec Tryz.prog 93 [parV k r c w, v] ⟨.tup [slot0, boolV false, intV 0], []⟩ := by
 have hp := hv.plain
 refine fspec_of_body follows Tryz.func93 (by unfold Tryz.f93; rfl) (by unfold Tryz.f93; simp) once4 (by unfold Tryz.f93; simp) (by kernel_rfl) ?_; unfold Tryz.f93
 simp only [↓pre, simprocAttr, parV, sx, tys93, once4, Option.getD_some, bne, postU, postV, allocE, storeE, eq_self, put_at, push_at]
 (first | refine call_plain (slot_Size k r c w) (by first | rfl | simp only [parV, plQ, *]) ?_ | refine call_pure (slot_Size k r c w) (by first | rfl | simp only [parV, plQ, *]) (by intro k; first | rfl | simp only [sq, sr, *]) ?_); simp only [↓pre, simprocAttr, parV, sx, tys93, once4, Option.getD_some, bne, postU, postV, allocE, storeE, eq_self, put_at, push_at, hm, hv.len', hb]
 rfl
theorem slot_Parse_len (k r c w : Int) (v : AV) (bs : List UInt8) (x : List AV) (hv : RdSl v bs.length (bytesA bs ++ x)) (hm : mayB k r c w = true) (hb : ¬ (bs.length : Int) = 0) (hb2 : ¬ (bs.length : Int) = sizeI k r c) : FSpec Tryz.prog 93 [parV k r c w, v] ⟨.tup [slot0, boolV false, intV 100], []⟩ := by
 have hp := hv.plain
 refine fspec_of_body follows Tryz.func93 (by unfold Tryz.f93; rfl) (by unfold Tryz.f93; simp) once4 (by unfold Tryz.f93; simp) (by kernel_rfl) ?_; unfold Tryz.f93
 simp only [↓pre, simprocAttr, parV, sx, tys93, once4, Option.getD_some, bne, postU, postV, allocE, storeE, eq_self, put_at, push_at]
 (first | refine call_plain (slot_Size k r c w) (by first | rfl | simp only [parV, plQ, *]) ?_ | refine call_pure (slot_Size k r c w) (by first | rfl | simp only [parV, plQ, *]) (by intro k; first | rfl | simp only [sq, sr, *]) ?_); simp only [↓pre, simprocAttr, parV, sx, tys93, once4, Option.getD_some, bne, postU, postV, allocE, storeE, eq_self, put_at, push_at, hm, hv.len', hb, hb2]
 rfl
theorem slot_Parse_magic (k r c w : Int) (v : AV) (bs : List UInt8) (x : List AV) (hv : RdSl v bs.length (bytesA bs ++ x)) (hm : mayB k r c w = true) (hb2 : (bs.length : Int) = sizeI k r c) {a b : UInt8} (ha : bs[0]? = some a) (hb : bs[1]? = some b) (hne : ¬ ((a.toNat : Int) = 84 ∧ (b.toNat : Int) = 50)) : FSpec Tryz.prog 93 [parV k r c w, v] ⟨.tup [slot0, boolV false, intV 0], []⟩ := by
 have hp := hv.plain
 have hmn := may_n hm
 have a0 := byte_at (x := x) ha
 have a1 := byte_at (x := x) hb
 have l0 : 0 < bs.length := by unfold sizeI at hb2; omega
 have l1 : 1 < bs.length := by unfold sizeI at hb2; omega
 have hb1 : ¬ sizeI k r c = 0 := by rw [← hb2]; omega
 replace hmn := Hid.mk hmn
 refine fspec_of_body follows Tryz.func93 (by unfold Tryz.f93; rfl) (by unfold Tryz.f93; simp) once4 (by unfold Tryz.f93; simp) (by kernel_rfl) ?_; unfold Tryz.f93
 simp only [↓pre, simprocAttr, parV, sx, tys93, once4, Option.getD_some, bne, postU, postV, allocE, storeE, eq_self, put_at, push_at]
 by_cases h1 : (a.toNat : Int) = 84
 · have h2 : ¬ (b.toNat : Int) = 50 := fun h => hne ⟨h1, h⟩
   (first | refine call_plain (slot_Size k r c w) (by first | rfl | simp only [parV, plQ, *]) ?_ | refine call_pure (slot_Size k r c w) (by first | rfl | simp only [parV, plQ, *]) (by intro k; first | rfl | simp only [sq, sr, *]) ?_); simp only [↓pre, simprocAttr, parV, sx, tys93, once4, Option.getD_some, bne, postU, postV, allocE, storeE, eq_self, put_at, push_at, hm, hv.len', hb2, hb1, hv.addr', l0, l1, Nat.mul_one, a0, a1, h1, h2]
   rfl
 · (first | refine call_plain (slot_Size k r c w) (by first | rfl | simp only [parV, plQ, *]) ?_ | refine call_pure (slot_Size k r c w) (by first | rfl | simp only [parV, plQ, *]) (by intro k; first | rfl | simp only [sq, sr, *]) ?_); simp only [↓pre, simprocAttr, parV, sx, tys93, once4, Option.getD_some, bne, postU, postV, allocE, storeE, eq_self, put_at, push_at, hm, hv.len', hb2, hb1, hv.addr', l0, l1, Nat.mul_one, a0, a1, h1]
   rfl
def numAt (bs : List UInt8) (o : Nat) : Int := ((beN ((bs.drop o).take 4) : Nat) : Int)
def numsI (bs : List UInt8) (n : Nat) : List Int := (List.range n).map fun j => numAt bs (12 + 4 * j)
theorem numsI_succ (bs : List UInt8) (n : Nat) : numsI bs (n + 1) = numsI bs n ++ [numAt bs (12 + 4 * n)] := by simp [numsI, List.range_succ]
theorem numsI_len (bs : List UInt8) (n : Nat) : (numsI bs n).length = n := by simp [numsI]
theorem intsA_append (a b : List Int) : intsA (a ++ b) = intsA a ++ intsA b := by simp [intsA]
def parseR (kd ix : Int) (bs : List UInt8) (N C : Nat) : Bool → Res
 | true => ⟨.tup [slotV kd ix (numAt bs 4) (numAt bs 8) (.sl 0 0 N N false) (.sl 1 0 C C false), boolV true, intV 0], [(3, intsA (numsI bs N)), (5, bytesA (bs.drop (12 + 4 * N)))]⟩
 | false => ⟨.tup [slot0, boolV false, intV 0], []⟩
theorem slot_Parse_main (k r c w : Int) (v : AV) (bs : List UInt8) (x : List AV) (hv : RdSl v bs.length (bytesA bs ++ x)) (hm : mayB k r c w = true) (hb2 : (bs.length : Int) = sizeI k r c) {a2 a3 : UInt8} (h0 : bs[0]? = some 84) (h1 : bs[1]? = some 50) (h2 : bs[2]? = some a2) (h3 : bs[3]? = some a3) : FSpec Tryz.prog 93 [parV k r c w, v] (parseR a2.toNat a3.toNat bs (k + r).toNat c.toNat (mayS k r c w a2.toNat a3.toNat (numAt bs 4) (numAt bs 8) (numsI bs (k + r).toNat) c.toNat)) := by
 have hp := hv.plain
 have hmn := may_n hm
 have b0 := byte_at (x := x) h0
 have b1 := byte_at (x := x) h1
 have b2 := byte_at (x := x) h2
 have b3 := byte_at (x := x) h3
 have l12 : 12 ≤ bs.length := by unfold sizeI at hb2; omega
 have l0 : 0 < bs.length := by omega
 have l1 : 1 < bs.length := by omega
 have l2 : 2 < bs.length := by omega
 have l3 : 3 < bs.length := by omega
 have hb1 : ¬ sizeI k r c = 0 := by rw [← hb2]; omega
 have c84 : (((84 : UInt8).toNat : Nat) : Int) = 84 := rfl
 have c50 : (((50 : UInt8).toNat : Nat) : Int) = 50 := rfl
 have w5 : IntKind.i64.wrap (a3.toNat : Int) = (a3.toNat : Int) := wrap_nat (by have := a3.toNat_lt; omega)
 have nt4 : natOf (.val (.int .i64 4)) = some 4 := rfl
 replace hmn := Hid.mk hmn
 replace l12 := Hid.mk l12
 obtain ⟨v1, s1, r1⟩ := hv.slice (P := Tryz.prog) (t := 52) (sz := 1) (lo := some 4) (hi := none) (by kernel_rfl) (by have := l12.out; simp only [Option.getD_some, Option.getD_none]; omega) (by simp)
 simp only [Option.getD_some, Option.getD_none, Nat.mul_one] at r1
 rw [bytesA_drop bs x 4 (by have := l12.out; omega), ← List.length_drop] at r1
 obtain ⟨v2, r2, t1⟩ := slot_take v1 (bs.drop 4) x r1 (by have := l12.out; rw [List.length_drop]; omega)
 obtain ⟨v3, r3, t2⟩ := slot_take v2 ((bs.drop 4).drop 4) x r2 (by have := l12.out; simp only [List.length_drop]; omega)
 have p1 := r1.plain
 have p2 := r2.plain
 have sh1 := rd_shift r1
 have sh2 := rd_shift r2
 have sh3 := rd_shift r3
 rw [List.drop_drop, List.drop_drop] at r3
 obtain ⟨N, hN⟩ : ∃ N : Nat, k + r = (N : Int) := ⟨(k + r).toNat, by have := hmn.out; omega⟩
 obtain ⟨C, hC⟩ : ∃ C : Nat, c = (C : Int) := ⟨c.toNat, by have := hmn.out; omega⟩
 have hNN : (k + r).toNat = N := by omega
 have hCC : c.toNat = C := by omega
 rw [hNN, hCC]
 generalize hres : parseR _ _ _ _ _ _ = res
 have hlen : bs.length = 12 + 4 * N + C := by unfold sizeI at hb2; omega
 have hN16 : N ≤ 16 ∧ 1 ≤ N ∧ 8 ≤ C ∧ C ≤ 64 := by have := hmn.out; omega
 replace hlen := Hid.mk hlen
 replace hN := Hid.mk hN
 replace hN16 := Hid.mk hN16
 have bt0 : ∀ m, buildTreeE Tryz.prog m 52 0 [] = some ⟨.tree 0 0 [] true, m, none⟩ := fun m => buildT_of (el := 5) (sz := 1) (z := []) (by kernel_rfl) (by kernel_rfl) (by kernel_rfl) rfl rfl (by decide)
 refine fspec_of_body follows Tryz.func93 (by unfold Tryz.f93; rfl) (by unfold Tryz.f93; simp) once4 (by unfold Tryz.f93; simp) (by kernel_rfl) ?_; unfold Tryz.f93
 simp only [↓pre, simprocAttr, parV, sx, tys93, once4, Option.getD_some, Option.getD_none, bne, postU, postV, allocE, storeE, eq_self, put_at, push_at, Option.map_none, Option.map_some, optNat]
 (first | refine call_plain (slot_Size k r c w) (by first | rfl | simp only [parV, plQ, *]) ?_ | refine call_pure (slot_Size k r c w) (by first | rfl | simp only [parV, plQ, *]) (by intro k; first | rfl | simp only [sq, sr, *]) ?_); simp only [↓pre, simprocAttr, parV, sx, tys93, once4, bne, postU, postV, allocE, storeE, put_at, push_at, Option.map_none, Option.map_some, optNat, hm, hv.len', hb2, hb1, hv.addr', l0, l1, l2, l3, b0, b1, b2, b3, c84, c50, w5, sr]
 refine contW_fixed (by kernel_rfl) ?_
 simp only [↓pre, simprocAttr, parV, sx, tys93, once4, Option.getD_some, Option.getD_none, bne, postU, postV, allocE, storeE, eq_self, put_at, push_at, Option.map_none, Option.map_some, optNat]
 refine contW_fixed (by kernel_rfl) ?_
 simp only [↓pre, simprocAttr, parV, sx, tys93, once4, Option.getD_some, Option.getD_none, bne, postU, postV, allocE, storeE, eq_self, put_at, push_at, Option.map_none, Option.map_some, optNat, hv.slOk, hv.sliceX, s1, nt4]
 (first | refine call_plain (t1) (by first | rfl | simp only [parV, plQ, *]) ?_ | refine call_pure (t1) (by first | rfl | simp only [parV, plQ, *]) (by intro k; first | rfl | simp only [sq, sr, *]) ?_); simp only [↓pre, simprocAttr, parV, sx, tys93, once4, Option.getD_some, Option.getD_none, bne, postU, postV, allocE, storeE, eq_self, put_at, push_at, Option.map_none, Option.map_some, optNat, sh1, sh2, sh3]; (first | refine call_plain (t2) (by first | rfl | simp only [parV, plQ, *]) ?_ | refine call_pure (t2) (by first | rfl | simp only [parV, plQ, *]) (by intro k; first | rfl | simp only [sq, sr, *]) ?_); simp only [↓pre, simprocAttr, parV, sx, tys93, once4, Option.getD_some, Option.getD_none, bne, postU, postV, allocE, storeE, eq_self, put_at, push_at, Option.map_none, Option.map_some, optNat, sh1, sh2, sh3]
 rw [codeW_loop]
 refine loop_intro (fun n e m => ∃ i, n + i = N ∧ e 2 = .tptr 0 [intV k, intV r, intV c, intV w] ∧ e 4 = .ptr 0 0 ∧ RdSl (e 8) (bs.drop (12 + 4 * i)).length (bytesA (bs.drop (12 + 4 * i)) ++ x) ∧ 0 < m.next ∧ ∃ vv, m.at_ 0 = some ⟨[.val (.int .u8 a2.toNat), intV a3.toNat, intV (numAt bs 4), intV (numAt bs 8), vv, nilS], 127, .var, true⟩ ∧ Own m 3 1 vv i (intsA (numsI bs i))) N ⟨0, by omega, ?_⟩ ?_
 · refine ⟨rfl, rfl, by simpa [Env.set] using r3, by simp [put_next, push_next], nilS, ?_, own_nil⟩
   have e9 : numAt bs 8 = ((beN (List.take 4 (List.drop 4 (List.drop 4 bs))) : Nat) : Int) := by rw [List.drop_drop]; rfl
   rw [e9]; rfl
 · rintro n e m ⟨i, hi, e2, e4, r8, hnx, vv, hm0, ho⟩
   by_cases hlt : i < N
   · have l4 : 12 + 4 * i + 4 + C ≤ bs.length := by have := hlen.out; omega
     have g1 : ((C : Nat) : Int) < ((bs.drop (12 + 4 * i)).length : Nat) := by rw [List.length_drop]; omega
     obtain ⟨v9, r9, t9⟩ := slot_take (e 8) (bs.drop (12 + 4 * i)) x r8 (by rw [List.length_drop]; omega)
     have p8 := r8.plain
     have sh9 := rd_shift r9
     rw [← hC] at g1
     simp only [↓pre, simprocAttr, parV, sx, tys93, once4, Option.getD_some, Option.getD_none, bne, postU, postV, allocE, storeE, eq_self, put_at, push_at, Option.map_none, Option.map_some, optNat, r8.len', e2, e4, g1]
     (first | refine call_plain (t9) (by first | rfl | simp only [parV, plQ, *]) ?_ | refine call_pure (t9) (by first | rfl | simp only [parV, plQ, *]) (by intro k; first | rfl | simp only [sq, sr, *]) ?_); simp only [↓pre, simprocAttr, parV, sx, tys93, once4, Option.getD_some, Option.getD_none, bne, postU, postV, allocE, storeE, eq_self, put_at, push_at, Option.map_none, Option.map_some, optNat, sh9, e4, hm0]
     refine app_keep (sz := 1) (y := 8) (zl := [.int .i64 0]) (by kernel_rfl) ho (by kernel_rfl) (by kernel_rfl) (by kernel_rfl) rfl srcT1 (by rfl) (by have := hN16.out; omega) (by have := hN16.out; omega) ?_
     intro vv' m' ho' hnx' hkeep hbl
     have hm0' := hkeep 0 _ hm0 hnx (ho.ne_kind hm0 (fun h => by cases h))
     obtain ⟨b', rfl, hb', hlt'⟩ := ho'.sl (by omega)
     simp only [↓pre, simprocAttr, parV, sx, tys93, once4, Option.getD_some, Option.getD_none, bne, postU, postV, allocE, storeE, eq_self, put_at, push_at, Option.map_none, Option.map_some, optNat, e2, e4, hm0']
     refine ⟨n - 1, by omega, i + 1, by omega, ?_, by omega, .sl b' 0 (i + 1) (i + 1) false, rfl, ?_⟩
     · rw [List.drop_drop] at r9
       exact r9
     · rw [numsI_succ, intsA_append]
       exact ho'.put_kind hm0' (fun h => by cases h)
   · have hiN : i = N := by omega
     subst hiN
     have hdl : (bs.drop (12 + 4 * i)).length = C := by have := hlen.out; rw [List.length_drop]; omega
     rw [hdl] at r8
     have g1 : ¬ ((C : Nat) : Int) < ((C : Nat) : Int) := by omega
     rw [← hC] at g1
     simp only [↓pre, simprocAttr, parV, sx, tys93, once4, bne, postU, postV, allocE, storeE, put_at, push_at, Option.map_none, Option.map_some, optNat, r8.len', e2, e4, hC.symm, g1, bt0, sr]
     have hsrc : srcE Tryz.prog 5 1 m (e 8) = some (bytesA (bs.drop (12 + 4 * i)), C) := by
       have hq := r8.src (P := Tryz.prog) (m := m) (el := 5) (sz := 1) (by rw [Nat.mul_one, List.length_append]; simp [bytesA]; have := hlen.out; omega)
       rw [hq, Nat.mul_one, List.take_left' (by simp [bytesA]; have := hlen.out; omega)]
     rw [app_none (sz := 1) (y := 1) (zl := [.int .u8 0]) rfl (by kernel_rfl) (by kernel_rfl) (by kernel_rfl) rfl hsrc (by have := hN16.out; omega) (by have := hN16.out; omega) (by have := hN16.out; omega)]
     have h0n : ¬ 0 = m.next := by omega
     have h1n : ¬ m.next = 0 := by omega
     have hbk := ho.ne_kind hm0 (fun h => by cases h)
     obtain ⟨b, rfl, hb, hlt⟩ := ho.sl (by have := hN16.out; omega)
     have hb0 : b ≠ 0 := fun h => hbk (by rw [h]; rfl)
     simp only [↓pre, simprocAttr, parV, sx, tys93, once4, Option.getD_some, Option.getD_none, bne, postU, postV, allocE, storeE, eq_self, put_at, push_at, Option.map_none, Option.map_some, optNat, e2, e4, hm0, h0n, h1n]
     generalize hm2 : Mem.put _ _ _ = m2
     have q0 : m2.at_ 0 = some ⟨[.val (.int .u8 a2.toNat), intV a3.toNat, intV (numAt bs 4), intV (numAt bs 8), .sl b 0 i i false, .sl m.next 0 C C false], 127, .var, true⟩ := by rw [← hm2, put_at, if_pos rfl]; rfl
     have q1 : m2.at_ b = some ⟨intsA (numsI bs i), 3, .flat, true⟩ := by rw [← hm2, put_at, if_neg hb0, push_at, if_neg (by omega)]; exact hb
     have q2 : m2.at_ m.next = some ⟨bytesA (bs.drop (12 + 4 * i)), 5, .flat, true⟩ := by rw [← hm2, put_at, if_neg h1n, push_at, if_pos rfl]
     have hbn : ¬ m.next = b := by omega
     generalize m.next = b2 at *
     have hil : (numsI bs i).length = i := numsI_len bs i
     refine call_lent (slot_may k r c w a2.toNat a3.toNat (numAt bs 4) (numAt bs 8) (.tree i i (intsA (numsI bs i)) false) (.tree C C (bytesA (bs.drop (12 + 4 * i))) false) (numsI bs i) [] C (bytesA (bs.drop (12 + 4 * i))) ⟨.inr (.inr ⟨i, false, by rw [hil, List.append_nil], by rw [hil]; exact Nat.le_refl _⟩)⟩ ⟨.inr (.inr ⟨C, false, rfl, Nat.le_refl _⟩)⟩ (by rw [hil]; have := hN16.out; omega)) (by simp [lends, lend, q1, q2, parV, slotV, intV]) rfl rfl ?_
     rw [← hres]
     cases hms : mayS k r c w a2.toNat a3.toNat (numAt bs 4) (numAt bs 8) (numsI bs i) C
     · simp only [↓pre, simprocAttr, parV, sx, tys93, once4, bne, postU, postV, allocE, storeE, put_at, push_at, Option.map_none, Option.map_some, optNat, e2, e4, q0, slotV, nilS, sr]
       rfl
     · have k3 : kindT Tryz.prog 3 = .flat := by kernel_rfl
       have k5 : kindT Tryz.prog 5 = .flat := by kernel_rfl
       have hbn' : ¬ b = b2 := fun h => hbn h.symm
       simp only [↓pre, simprocAttr, parV, sx, tys93, once4, bne, postU, postV, allocE, storeE, put_at, push_at, Option.map_none, Option.map_some, optNat, e2, e4, q0, slotV, sr]
       simp only [hb0, h1n, q1, q2, k3, k5, if_false, if_true, Option.bind_some, Option.map_some, List.any_nil, Bool.false_eq_true, ne_eq, not_true_eq_false, or_self, List.any_cons, beq_iff_eq, hbn', hbn, Bool.or_false, List.nil_append, List.drop_zero, beq_eq_false_iff_ne.2 hbn']
       rfl
structure SlotC where
 kd : Int
 ix : Int
 ce : Int
 st : Int
 vec : List Int
 data : List UInt8
def slotC (k r : Int) (bs : List UInt8) : SlotC := ⟨(bs.getD 2 0).toNat, (bs.getD 3 0).toNat, numAt bs 4, numAt bs 8, numsI bs (k + r).toNat, bs.drop (12 + 4 * (k + r).toNat)⟩
def SlotC.v (s : SlotC) : AV := slotV s.kd s.ix s.ce s.st (.tree s.vec.length s.vec.length (intsA s.vec) false) (.tree s.data.length s.data.length (bytesA s.data) false)
def maySC (k r c w : Int) (s : SlotC) : Bool := mayS k r c w s.kd s.ix s.ce s.st s.vec s.data.length
def isSlot (k r c w : Int) (bs : List UInt8) : Bool := decide ((bs.length : Int) = sizeI k r c) && (decide (bs[0]? = some 84) && (decide (bs[1]? = some 50) && maySC k r c w (slotC k r bs)))
def parseV (k r c w : Int) (bs : List UInt8) : AV := if mayB k r c w = true ∧ isSlot k r c w bs = true then .tup [(slotC k r bs).v, boolV true, intV 0] else .tup [slot0, boolV false, intV (if mayB k r c w = false then 2 else if (bs.length : Int) = 0 then 0 else if (bs.length : Int) = sizeI k r c then 0 else 100)]
theorem slot_Parse (k r c w : Int) (v : AV) (bs : List UInt8) (x : List AV) (hv : RdSl v bs.length (bytesA bs ++ x)) : FSpec Tryz.prog 93 [parV k r c w, v] ⟨parseV k r c w bs, []⟩ := by
 cases hm : mayB k r c w with
 | false =>
   have := slot_Parse_not k r c w v bs x hv hm
   simpa [parseV, hm] using this
 | true =>
   have hmn := may_n hm
   by_cases hl : (bs.length : Int) = 0
   · have h1 : isSlot k r c w bs = false := by
       have : ¬ (bs.length : Int) = sizeI k r c := by rw [hl]; unfold sizeI; omega
       unfold isSlot; rw [decide_eq_false this]; rfl
     have := slot_Parse_nil k r c w v bs x hv hm hl
     simpa [parseV, hm, h1, hl] using this
   · by_cases hs : (bs.length : Int) = sizeI k r c
     · have l12 : 12 ≤ bs.length := by unfold sizeI at hs; omega
       obtain ⟨a0, h0⟩ : ∃ a, bs[0]? = some a := ⟨_, List.getElem?_eq_getElem (by omega)⟩
       obtain ⟨a1, h1⟩ : ∃ a, bs[1]? = some a := ⟨_, List.getElem?_eq_getElem (by omega)⟩
       obtain ⟨a2, h2⟩ : ∃ a, bs[2]? = some a := ⟨_, List.getElem?_eq_getElem (by omega)⟩
       obtain ⟨a3, h3⟩ : ∃ a, bs[3]? = some a := ⟨_, List.getElem?_eq_getElem (by omega)⟩
       by_cases hmg : a0 = 84 ∧ a1 = 50
       · obtain ⟨rfl, rfl⟩ := hmg
         have hq := slot_Parse_main k r c w v bs x hv hm hs h0 h1 h2 h3
         have hvl : (slotC k r bs).vec.length = (k + r).toNat := numsI_len _ _
         have hdl : (slotC k r bs).data.length = c.toNat := by simp only [slotC, List.length_drop]; unfold sizeI at hs; omega
         have e2 : (bs.getD 2 0) = a2 := by rw [List.getD_eq_getElem?_getD, h2]; rfl
         have e3 : (bs.getD 3 0) = a3 := by rw [List.getD_eq_getElem?_getD, h3]; rfl
         have hmay : maySC k r c w (slotC k r bs) = mayS k r c w a2.toNat a3.toNat (numAt bs 4) (numAt bs 8) (numsI bs (k + r).toNat) c.toNat := by
           unfold maySC; rw [hdl]; simp only [slotC, e2, e3]
         have hsl : isSlot k r c w bs = maySC k r c w (slotC k r bs) := by unfold isSlot; rw [decide_eq_true hs, decide_eq_true h0, decide_eq_true h1]; rfl
         rw [← hmay] at hq
         cases hb : maySC k r c w (slotC k r bs) with
         | false =>
           rw [hb] at hq
           simpa [parseV, hm, hsl, hb, hl, hs, parseR] using hq
         | true =>
           rw [hb] at hq
           have k3 : kindT Tryz.prog 3 = .flat := by kernel_rfl
           have k5 : kindT Tryz.prog 5 = .flat := by kernel_rfl
           have := fspec_frozen 1 hq (by simp [parseR, fzOk, fzOks, slotV, intV, boolV, k3, k5])
           have hv2 : parseV k r c w bs = fzV Tryz.prog (parseR a2.toNat a3.toNat bs (k + r).toNat c.toNat true).rows 1 (parseR a2.toNat a3.toNat bs (k + r).toNat c.toNat true).v := by
             unfold parseV
             rw [if_pos ⟨hm, by rw [hsl, hb]⟩]
             simp [parseR, fzV, fzVs, slotV, intV, boolV, k3, k5, SlotC.v, hvl, hdl]
             simp [slotC, h2, h3]
           rw [hv2]
           exact this
       · have hne : ¬ ((a0.toNat : Int) = 84 ∧ (a1.toNat : Int) = 50) := by
           rintro ⟨h3, h4⟩
           exact hmg ⟨UInt8.toNat_inj.1 (by simp; omega), UInt8.toNat_inj.1 (by simp; omega)⟩
         have hsl : isSlot k r c w bs = false := by
           unfold isSlot
           rw [h0, h1]
           by_cases h5 : a0 = 84
           · have h6 : ¬ a1 = 50 := fun h => hmg ⟨h5, h⟩
             simp [h6]
           · simp [h5]
         have := slot_Parse_magic k r c w v bs x hv hm hs h0 h1 hne
         simpa [parseV, hm, hsl, hl, hs] using this
     · have h1 : isSlot k r c w bs = false := by unfold isSlot; rw [decide_eq_false hs]; rfl
       have := slot_Parse_len k r c w v bs x hv hm hl hs
       have hne : bs ≠ [] := by rintro rfl; exact hl rfl
       simpa [parseV, hm, h1, hne, hs] using this

theorem me0 : Mem.empty.next = 0 := rfl
def isOf (k r c w : Int) (bs : List UInt8) (ix : Int) : Bool := isSlot k r c w bs && decide ((slotC k r bs).ix = ix)
def lenB (k r c : Int) (n : Nat) : Bool := decide ((n : Int) = 0) || decide ((n : Int) = sizeI k r c)
def pairB (k r c : Int) (n n' : Nat) : Bool := lenB k r c n && lenB k r c n'
abbrev PairB := List UInt8 × List UInt8
structure RowV (v : AV) (ps : List PairB) (cells : List AV) : Prop where
 rd : RdSl v ps.length cells
 at_ : ∀ i p, ps[i]? = some p → ∃ a b xa xb, cells[i * 2]? = some a ∧ cells[i * 2 + 1]? = some b ∧ RdSl a p.1.length (bytesA p.1 ++ xa) ∧ RdSl b p.2.length (bytesA p.2 ++ xb)
theorem take2 {cells : List AV} {i : Nat} {a b : AV} (h : cells[i]? = some a) (h' : cells[i + 1]? = some b) : (cells.drop i).take 2 = [a, b] ∧ i + 2 ≤ cells.length := by
 have h1 := (List.getElem?_eq_some_iff.1 h')
 obtain ⟨h1, h2⟩ := h1
 obtain ⟨h3, h4⟩ := List.getElem?_eq_some_iff.1 h
 refine ⟨?_, by omega⟩
 rw [List.drop_eq_getElem_cons h3, List.drop_eq_getElem_cons h1, h4, h2]
 rfl
def rowB (k r c : Int) (ps : List PairB) : Bool := decide ((ps.length : Int) = k + r) && ps.all (fun p => pairB k r c p.1.length p.2.length)
def chkI (k r c w : Int) (ps : List PairB) : Int := if mayB k r c w = true then (if rowB k r c ps = true then 0 else 120) else 2
def heldB (k r c w : Int) (bs : List UInt8) (ix : Int) : Bool := isOf k r c w bs ix && (decide ((slotC k r bs).kd = 2) && (slotC k r bs).vec.all (fun n => decide (n = (slotC k r bs).ce)))
def heldI (k r c w : Int) (bs : List UInt8) (ix : Int) : Int := if heldB k r c w bs ix = true then (slotC k r bs).ce else 0
def heldsP (k r c w : Int) (ps : List PairB) : List (Int × Int) := ps.mapIdx fun i p => (heldI k r c w p.1 i, heldI k r c w p.2 i)
def inH (hs : List (Int × Int)) (v : Int) : Prop := ∃ (i : Nat) (x : Int × Int), hs[i]? = some x ∧ (x.1 = v ∨ x.2 = v)
def holdsAt (hs : List (Int × Int)) (i : Nat) (v : Int) : Bool := match hs[i]? with
 | some x => decide (x.1 = v) || decide (x.2 = v)
 | none => false
def cellsN (hs : List (Int × Int)) (v : Int) (n : Nat) : List Int := (List.range n).filterMap fun i => if holdsAt hs i v = true then some (i : Int) else none
theorem cellsN_succ (hs : List (Int × Int)) (v : Int) (n : Nat) : cellsN hs v (n + 1) = cellsN hs v n ++ (if holdsAt hs n v = true then [(n : Int)] else []) := by
 unfold cellsN
 rw [List.range_succ, List.filterMap_append]
 cases h : holdsAt hs n v <;> simp [h]
theorem cellsN_le (hs : List (Int × Int)) (v : Int) (n : Nat) : (cellsN hs v n).length ≤ n := by
 have := List.length_filterMap_le (fun i : Nat => if holdsAt hs i v = true then some (i : Int) else none) (List.range n)
 rw [List.length_range] at this
 exact this
structure Falls (hs : List (Int × Int)) (top : Int) (T : List Int) : Prop where
 pw : T.Pairwise (· > ·)
 mem : ∀ v, v ∈ T ↔ 0 < v ∧ top ≤ v ∧ inH hs v
theorem falls_one {hs : List (Int × Int)} {top : Int} : ∀ {T T' : List Int}, T.Pairwise (· > ·) → T'.Pairwise (· > ·) → (∀ v, v ∈ T ↔ v ∈ T') → T = T'
 | [], [], _, _, _ => rfl
 | [], b :: T', _, _, h => by have := (h b).2 (by simp); cases this
 | a :: T, [], _, _, h => by have := (h a).1 (by simp); cases this
 | a :: T, b :: T', h1, h2, h => by
   rw [List.pairwise_cons] at h1 h2
   have hab : a = b := by
     have ha := (h a).1 (by simp)
     have hb := (h b).2 (by simp)
     rw [List.mem_cons] at ha hb
     rcases ha with ha | ha
     · exact ha
     · rcases hb with hb | hb
       · exact hb.symm
       · have := h1.1 b hb
         have := h2.1 a ha
         omega
   subst hab
   rw [falls_one (hs := hs) (top := top) h1.2 h2.2 fun v => ?_]
   have := h v
   rw [List.mem_cons, List.mem_cons] at this
   constructor
   · intro hv
     rcases this.1 (.inr hv) with h3 | h3
     · have := h1.1 v hv; omega
     · exact h3
   · intro hv
     rcases this.2 (.inr hv) with h3 | h3
     · have := h2.1 v hv; omega
     · exact h3
def insF (v : Int) : List Int → List Int
 | [] => [v]
 | a :: l => if a < v then v :: a :: l else if v < a then a :: insF v l else a :: l
theorem insF_mem (v : Int) : ∀ (l : List Int) (x : Int), x ∈ insF v l ↔ x = v ∨ x ∈ l
 | [], x => by simp [insF]
 | a :: l, x => by
   unfold insF
   split
   · simp
   · split
     · simp only [List.mem_cons, insF_mem v l x]
       constructor
       · rintro (h | h | h) <;> simp [h]
       · rintro (h | h | h) <;> simp [h]
     · rename_i h1 h2
       have : v = a := by omega
       subst this
       simp
theorem insF_pw (v : Int) : ∀ (l : List Int), l.Pairwise (· > ·) → (insF v l).Pairwise (· > ·)
 | [], _ => List.pairwise_singleton _ _
 | a :: l, h => by
   unfold insF
   split
   · rename_i h1
     rw [List.pairwise_cons]
     refine ⟨fun x hx => ?_, h⟩
     rw [List.mem_cons] at hx
     rcases hx with rfl | hx
     · exact h1
     · have := (List.pairwise_cons.1 h).1 x hx; omega
   · split
     · rename_i h1 h2
       rw [List.pairwise_cons] at h ⊢
       refine ⟨fun x hx => ?_, insF_pw v l h.2⟩
       rw [insF_mem] at hx
       rcases hx with rfl | hx
       · exact h2
       · exact h.1 x hx
     · exact h
def versF (hs : List (Int × Int)) : List Int := hs.foldr (fun x l => (if 0 < x.1 then insF x.1 else id) ((if 0 < x.2 then insF x.2 else id) l)) []
theorem versF_falls : ∀ (hs : List (Int × Int)), Falls hs 1 (versF hs)
 | [] => ⟨.nil, fun v => ⟨fun h => (by cases h), fun ⟨_, _, i, x, h, _⟩ => by simp at h⟩⟩
 | x :: hs => by
   have ih := versF_falls hs
   have e : versF (x :: hs) = (if 0 < x.1 then insF x.1 else id) ((if 0 < x.2 then insF x.2 else id) (versF hs)) := rfl
   have hin : ∀ v, inH (x :: hs) v ↔ (x.1 = v ∨ x.2 = v) ∨ inH hs v := by
     intro v
     constructor
     · rintro ⟨i, y, h, h2⟩
       cases i with
       | zero => simp at h; subst h; exact .inl h2
       | succ i => exact .inr ⟨i, y, by simpa using h, h2⟩
     · rintro (h | ⟨i, y, h, h2⟩)
       · exact ⟨0, x, rfl, h⟩
       · exact ⟨i + 1, y, by simpa using h, h2⟩
   have one : ∀ (z : Int) (l : List Int), l.Pairwise (· > ·) → (((if 0 < z then insF z else id) l).Pairwise (· > ·)) ∧ ∀ v, v ∈ (if 0 < z then insF z else id) l ↔ (0 < z ∧ v = z) ∨ v ∈ l := by
     intro z l hl
     split
     · rename_i hz; exact ⟨insF_pw z l hl, fun v => by rw [insF_mem]; simp [hz]⟩
     · rename_i hz; exact ⟨hl, fun v => by simp [hz]⟩
   rw [e]
   obtain ⟨p1, m1⟩ := one x.2 _ ih.pw
   obtain ⟨p2, m2⟩ := one x.1 _ p1
   refine ⟨p2, fun v => ?_⟩
   rw [m2, m1, ih.mem, hin]
   constructor
   · rintro (⟨h1, rfl⟩ | ⟨h1, rfl⟩ | h1)
     · exact ⟨h1, by omega, .inl (.inl rfl)⟩
     · exact ⟨h1, by omega, .inl (.inr rfl)⟩
     · exact ⟨h1.1, h1.2.1, .inr h1.2.2⟩
   · rintro ⟨h1, h2, (h3 | h3) | h3⟩
     · exact .inl ⟨by omega, h3.symm⟩
     · exact .inr (.inl ⟨by omega, h3.symm⟩)
     · exact .inr (.inr ⟨h1, h2, h3⟩)
theorem falls_vers {hs : List (Int × Int)} {T : List Int} (h : Falls hs 1 T) : T = versF hs := falls_one (hs := hs) (top := 1) h.pw (versF_falls hs).pw fun v => by rw [h.mem, (versF_falls hs).mem]
def tCell (hs : List (Int × Int)) (v : Int) : AV := treeR (cellsN hs v hs.length).length (intsA (cellsN hs v hs.length))
def tCells (hs : List (Int × Int)) (T : List Int) : List AV := T.flatMap fun v => [intV v, tCell hs v]
theorem tCells_at (hs : List (Int × Int)) : ∀ (T : List Int) (i : Nat) (v : Int), T[i]? = some v → (tCells hs T)[i * 2]? = some (intV v) ∧ (tCells hs T)[i * 2 + 1]? = some (tCell hs v)
 | [], i, v, h => by simp at h
 | a :: T, 0, v, h => by
   simp at h; subst h
   exact ⟨rfl, rfl⟩
 | a :: T, i + 1, v, h => by
   have ih := tCells_at hs T i v (by simpa using h)
   have e : tCells hs (a :: T) = intV a :: tCell hs a :: tCells hs T := rfl
   rw [e, show (i + 1) * 2 = i * 2 + 1 + 1 by omega]
   simpa using ih
theorem vec_le {k r c w : Int} {l : List Int} (h : vecE k r c w l = 0) : ∀ n ∈ l, 1 ≤ n ∧ n ≤ 1073741824 := by
 unfold vecE at h
 split at h
 · split at h
   · split at h
     · omega
     · rename_i ha
       intro n hn
       have h2 : verB n = true := by
         cases hq : verB n with
         | true => rfl
         | false => exact absurd (List.any_eq_true.2 ⟨n, hn, by simp [hq]⟩) ha
       simpa [verB] using h2
   · omega
 · omega
theorem held_le (k r c w : Int) (bs : List UInt8) (ix : Int) : heldI k r c w bs ix = 0 ∨ (1 ≤ heldI k r c w bs ix ∧ heldI k r c w bs ix ≤ 1073741824) := by
 unfold heldI
 split
 · rename_i h
   right
   unfold heldB isOf isSlot maySC mayS at h
   simp only [Bool.and_eq_true, decide_eq_true_eq] at h
   obtain ⟨⟨⟨_, _, _, h1, h2, h3, h4, h5, h6⟩, _⟩, _⟩ := h
   exact vec_le h1 _ (List.mem_of_getElem? h5)
 · exact .inl rfl
theorem helds_at {k r c w : Int} {ps : List PairB} {i : Nat} {p : PairB} (h : ps[i]? = some p) : (heldsP k r c w ps)[i]? = some (heldI k r c w p.1 i, heldI k r c w p.2 i) := by
 unfold heldsP
 rw [List.getElem?_mapIdx, h]
 rfl
theorem helds_len (k r c w : Int) (ps : List PairB) : (heldsP k r c w ps).length = ps.length := by simp [heldsP]
theorem helds_lt {k r c w : Int} {ps : List PairB} : ∀ v, inH (heldsP k r c w ps) v → v < 1073741825 := by
 rintro v ⟨i, x, hx, hh⟩
 have hl := (List.getElem?_eq_some_iff.1 hx).1
 rw [helds_len] at hl
 have := helds_at (k := k) (r := r) (c := c) (w := w) (List.getElem?_eq_getElem hl)
 rw [this] at hx
 cases hx
 have h1 := held_le k r c w (ps[i].1) i
 have h2 := held_le k r c w (ps[i].2) i
 simp only at hh
 rcases hh with rfl | rfl <;> omega
end Go.Proofs.YtaekhhlgnbhnpaaGreat