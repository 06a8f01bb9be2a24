/-
  No cell of these rows narrows 'for every input' (looked for: loops, veiled, ifaces, maps, wideKeys, modest, calm, conditions, laid).
  DERIVED. THE GIVEN ROWS OF THIS SEAT. 12 by the template 'for every input the law returns true; each argument reads behind the call as it read before'; 0 by the template 'total and deterministic' (their statements: YtaekhhlgnbhnpaaGreatTotals.lean).
  GIVEN WITH THE SEED: the statements are not yours to turn. If you find one false, say at which input.
  Laid BY PROGRAM, IN A SANDBOX (cutbox-rows.mjs): the forced cells as the released guide's own fill.sh prints them over the translation 103bb6fa0697678d… (all of the seat's roots in one cut). By AI agents, Wed Nov 11 2026. No macro, syntax, notation, axiom, sorry.
-/
import Derived.Test.YtaekhhlgnbhnpaaGreatChecked
import GoSem.Claim
import GoSem.ClaimJoined
import GoSem.ClaimMapViews
import Derived.JoinedTies
import Derived.KernelRfl
namespace Go.Proofs.YtaekhhlgnbhnpaaGreat
/- THE CELL 'sum', in the pinned program and in every row, IS THE sha256 OF THE DUMP (.gsa) THAT YtaekhhlgnbhnpaaGreatProg.lean LOADS. Nothing in Lean hashes anything: it is a label: what it is worth is what the hold of that sum in a sandbox is worth. -/
noncomputable def Tryz.pinned : Pinned := { name := "ytaekhhlgnbhnpaagreat", sum := "103bb6fa0697678d13af8509a933581fae452aae001c4876f40d749817ae7e1d", checked := Tryz.checked }
namespace Rows
def none {H : Type} : Left H := { results := [], args := [] }

/-- 'twoslotlaw16.CommitFinished': WHATEVER THE INPUT: true; the input reads as it did. -/
def commitFinishedSpec : ChangeSpec := { name := "commitFinished", fn := fun _ => fun
  | [d1, d2, d3] => { results := [.lit (.bool true)], args := [d1, d2, d3] }
  | _ => none }
def commitFinishedRow : OpenClaim := { program := "ytaekhhlgnbhnpaagreat", sum := "103bb6fa0697678d13af8509a933581fae452aae001c4876f40d749817ae7e1d", func := "twoslot/twoslotlaw16.CommitFinished", spec := "commitFinished", unfollowed := true, recurses := true, plainKeys := false, apart := false }
def CommitFinishedSaid : Prop := commitFinishedRow.holds Tryz.pinned (OpenSpec.ofChange commitFinishedSpec)

/-- ITS FALSE NEIGHBOUR: 'it returns false'. Refute it at one input. -/
def commitFinishedWrong : ChangeSpec := { name := "commitFinished", fn := fun _ => fun
  | [d1, d2, d3] => { results := [.lit (.bool false)], args := [d1, d2, d3] }
  | _ => none }
def CommitFinishedWrongFalsely : Prop := commitFinishedRow.holds Tryz.pinned (OpenSpec.ofChange commitFinishedWrong)

/-- 'twoslotlaw18.ObjectBytes': WHATEVER THE INPUT: true; the input reads as it did. -/
def objectBytesSpec : ChangeSpec := { name := "objectBytes", fn := fun _ => fun
  | [d1, d2, d3, d4] => { results := [.lit (.bool true)], args := [d1, d2, d3, d4] }
  | _ => none }
def objectBytesRow : OpenClaim := { program := "ytaekhhlgnbhnpaagreat", sum := "103bb6fa0697678d13af8509a933581fae452aae001c4876f40d749817ae7e1d", func := "twoslot/twoslotlaw18.ObjectBytes", spec := "objectBytes", unfollowed := true, recurses := true, plainKeys := false, apart := false }
def ObjectBytesSaid : Prop := objectBytesRow.holds Tryz.pinned (OpenSpec.ofChange objectBytesSpec)

/-- ITS FALSE NEIGHBOUR: 'it returns false'. Refute it at one input. -/
def objectBytesWrong : ChangeSpec := { name := "objectBytes", fn := fun _ => fun
  | [d1, d2, d3, d4] => { results := [.lit (.bool false)], args := [d1, d2, d3, d4] }
  | _ => none }
def ObjectBytesWrongFalsely : Prop := objectBytesRow.holds Tryz.pinned (OpenSpec.ofChange objectBytesWrong)

/-- 'twoslotlaw18.ObjectParts': WHATEVER THE INPUT: true; the input reads as it did. -/
def objectPartsSpec : ChangeSpec := { name := "objectParts", fn := fun _ => fun
  | [d1, d2, d3, d4, d5] => { results := [.lit (.bool true)], args := [d1, d2, d3, d4, d5] }
  | _ => none }
def objectPartsRow : OpenClaim := { program := "ytaekhhlgnbhnpaagreat", sum := "103bb6fa0697678d13af8509a933581fae452aae001c4876f40d749817ae7e1d", func := "twoslot/twoslotlaw18.ObjectParts", spec := "objectParts", unfollowed := true, recurses := true, plainKeys := false, apart := false }
def ObjectPartsSaid : Prop := objectPartsRow.holds Tryz.pinned (OpenSpec.ofChange objectPartsSpec)

/-- ITS FALSE NEIGHBOUR: 'it returns false'. Refute it at one input. -/
def objectPartsWrong : ChangeSpec := { name := "objectParts", fn := fun _ => fun
  | [d1, d2, d3, d4, d5] => { results := [.lit (.bool false)], args := [d1, d2, d3, d4, d5] }
  | _ => none }
def ObjectPartsWrongFalsely : Prop := objectPartsRow.holds Tryz.pinned (OpenSpec.ofChange objectPartsWrong)

/-- 'twoslotlaw16.CommitRow': WHATEVER THE INPUT: true; the input reads as it did. -/
def commitRowSpec : ChangeSpec := { name := "commitRow", fn := fun _ => fun
  | [d1, d2, d3, d4, d5] => { results := [.lit (.bool true)], args := [d1, d2, d3, d4, d5] }
  | _ => none }
def commitRowRow : OpenClaim := { program := "ytaekhhlgnbhnpaagreat", sum := "103bb6fa0697678d13af8509a933581fae452aae001c4876f40d749817ae7e1d", func := "twoslot/twoslotlaw16.CommitRow", spec := "commitRow", unfollowed := true, recurses := true, plainKeys := false, apart := false }
def CommitRowSaid : Prop := commitRowRow.holds Tryz.pinned (OpenSpec.ofChange commitRowSpec)

/-- ITS FALSE NEIGHBOUR: 'it returns false'. Refute it at one input. -/
def commitRowWrong : ChangeSpec := { name := "commitRow", fn := fun _ => fun
  | [d1, d2, d3, d4, d5] => { results := [.lit (.bool false)], args := [d1, d2, d3, d4, d5] }
  | _ => none }
def CommitRowWrongFalsely : Prop := commitRowRow.holds Tryz.pinned (OpenSpec.ofChange commitRowWrong)

/-- 'twoslotlaw16.CommitPoint': WHATEVER THE INPUT: true; the input reads as it did. -/
def commitPointSpec : ChangeSpec := { name := "commitPoint", fn := fun _ => fun
  | [d1, d2, d3, d4, d5] => { results := [.lit (.bool true)], args := [d1, d2, d3, d4, d5] }
  | _ => none }
def commitPointRow : OpenClaim := { program := "ytaekhhlgnbhnpaagreat", sum := "103bb6fa0697678d13af8509a933581fae452aae001c4876f40d749817ae7e1d", func := "twoslot/twoslotlaw16.CommitPoint", spec := "commitPoint", unfollowed := true, recurses := true, plainKeys := false, apart := false }
def CommitPointSaid : Prop := commitPointRow.holds Tryz.pinned (OpenSpec.ofChange commitPointSpec)

/-- ITS FALSE NEIGHBOUR: 'it returns false'. Refute it at one input. -/
def commitPointWrong : ChangeSpec := { name := "commitPoint", fn := fun _ => fun
  | [d1, d2, d3, d4, d5] => { results := [.lit (.bool false)], args := [d1, d2, d3, d4, d5] }
  | _ => none }
def CommitPointWrongFalsely : Prop := commitPointRow.holds Tryz.pinned (OpenSpec.ofChange commitPointWrong)

/-- 'twoslotlaw23.LiveNames': WHATEVER THE INPUT: true; the input reads as it did. -/
def liveNamesSpec : ChangeSpec := { name := "liveNames", fn := fun _ => fun
  | [d1, d2, d3] => { results := [.lit (.bool true)], args := [d1, d2, d3] }
  | _ => none }
def liveNamesRow : OpenClaim := { program := "ytaekhhlgnbhnpaagreat", sum := "103bb6fa0697678d13af8509a933581fae452aae001c4876f40d749817ae7e1d", func := "twoslot/twoslotlaw23.LiveNames", spec := "liveNames", inPlace := ["internal/bytealg.abigen_runtime_cmpstring"], unfollowed := true, recurses := true, plainKeys := false, apart := false }
def LiveNamesSaid : Prop := liveNamesRow.holds Tryz.pinned (OpenSpec.ofChange liveNamesSpec)

/-- ITS FALSE NEIGHBOUR: 'it returns false'. Refute it at one input. -/
def liveNamesWrong : ChangeSpec := { name := "liveNames", fn := fun _ => fun
  | [d1, d2, d3] => { results := [.lit (.bool false)], args := [d1, d2, d3] }
  | _ => none }
def LiveNamesWrongFalsely : Prop := liveNamesRow.holds Tryz.pinned (OpenSpec.ofChange liveNamesWrong)

/-- 'twoslotlaw23.LiveFound': WHATEVER THE INPUT: true; the input reads as it did. -/
def liveFoundSpec : ChangeSpec := { name := "liveFound", fn := fun _ => fun
  | [d1, d2] => { results := [.lit (.bool true)], args := [d1, d2] }
  | _ => none }
def liveFoundRow : OpenClaim := { program := "ytaekhhlgnbhnpaagreat", sum := "103bb6fa0697678d13af8509a933581fae452aae001c4876f40d749817ae7e1d", func := "twoslot/twoslotlaw23.LiveFound", spec := "liveFound", inPlace := ["internal/bytealg.abigen_runtime_cmpstring"], unfollowed := true, recurses := true, plainKeys := false, apart := false }
def LiveFoundSaid : Prop := liveFoundRow.holds Tryz.pinned (OpenSpec.ofChange liveFoundSpec)

/-- ITS FALSE NEIGHBOUR: 'it returns false'. Refute it at one input. -/
def liveFoundWrong : ChangeSpec := { name := "liveFound", fn := fun _ => fun
  | [d1, d2] => { results := [.lit (.bool false)], args := [d1, d2] }
  | _ => none }
def LiveFoundWrongFalsely : Prop := liveFoundRow.holds Tryz.pinned (OpenSpec.ofChange liveFoundWrong)

/-- 'twoslotlaw17.TreeObject': WHATEVER THE INPUT: true; the input reads as it did. -/
def treeObjectSpec : ChangeSpec := { name := "treeObject", fn := fun _ => fun
  | [d1, d2] => { results := [.lit (.bool true)], args := [d1, d2] }
  | _ => none }
def treeObjectRow : OpenClaim := { program := "ytaekhhlgnbhnpaagreat", sum := "103bb6fa0697678d13af8509a933581fae452aae001c4876f40d749817ae7e1d", func := "twoslot/twoslotlaw17.TreeObject", spec := "treeObject", unfollowed := true, recurses := true, plainKeys := false, apart := false }
def TreeObjectSaid : Prop := treeObjectRow.holds Tryz.pinned (OpenSpec.ofChange treeObjectSpec)

/-- ITS FALSE NEIGHBOUR: 'it returns false'. Refute it at one input. -/
def treeObjectWrong : ChangeSpec := { name := "treeObject", fn := fun _ => fun
  | [d1, d2] => { results := [.lit (.bool false)], args := [d1, d2] }
  | _ => none }
def TreeObjectWrongFalsely : Prop := treeObjectRow.holds Tryz.pinned (OpenSpec.ofChange treeObjectWrong)

/-- 'twoslotlaw17.TreeWhole': WHATEVER THE INPUT: true; the input reads as it did. -/
def treeWholeSpec : ChangeSpec := { name := "treeWhole", fn := fun _ => fun
  | [d1, d2] => { results := [.lit (.bool true)], args := [d1, d2] }
  | _ => none }
def treeWholeRow : OpenClaim := { program := "ytaekhhlgnbhnpaagreat", sum := "103bb6fa0697678d13af8509a933581fae452aae001c4876f40d749817ae7e1d", func := "twoslot/twoslotlaw17.TreeWhole", spec := "treeWhole", unfollowed := true, recurses := true, plainKeys := false, apart := false }
def TreeWholeSaid : Prop := treeWholeRow.holds Tryz.pinned (OpenSpec.ofChange treeWholeSpec)

/-- ITS FALSE NEIGHBOUR: 'it returns false'. Refute it at one input. -/
def treeWholeWrong : ChangeSpec := { name := "treeWhole", fn := fun _ => fun
  | [d1, d2] => { results := [.lit (.bool false)], args := [d1, d2] }
  | _ => none }
def TreeWholeWrongFalsely : Prop := treeWholeRow.holds Tryz.pinned (OpenSpec.ofChange treeWholeWrong)

/-- 'twoslotlaw25.HealPlan': WHATEVER THE INPUT: true; the input reads as it did. -/
def healPlanSpec : ChangeSpec := { name := "healPlan", fn := fun _ => fun
  | [d] => { results := [.lit (.bool true)], args := [d] }
  | _ => none }
def healPlanRow : OpenClaim := { program := "ytaekhhlgnbhnpaagreat", sum := "103bb6fa0697678d13af8509a933581fae452aae001c4876f40d749817ae7e1d", func := "twoslot/twoslotlaw25.HealPlan", spec := "healPlan", unfollowed := true, recurses := true, plainKeys := false, apart := false }
def HealPlanSaid : Prop := healPlanRow.holds Tryz.pinned (OpenSpec.ofChange healPlanSpec)

/-- ITS FALSE NEIGHBOUR: 'it returns false'. Refute it at one input. -/
def healPlanWrong : ChangeSpec := { name := "healPlan", fn := fun _ => fun
  | [d] => { results := [.lit (.bool false)], args := [d] }
  | _ => none }
def HealPlanWrongFalsely : Prop := healPlanRow.holds Tryz.pinned (OpenSpec.ofChange healPlanWrong)

/-- 'twoslotlaw24.RecoverPlan': WHATEVER THE INPUT: true; the input reads as it did. -/
def recoverPlanSpec : ChangeSpec := { name := "recoverPlan", fn := fun _ => fun
  | [d] => { results := [.lit (.bool true)], args := [d] }
  | _ => none }
def recoverPlanRow : OpenClaim := { program := "ytaekhhlgnbhnpaagreat", sum := "103bb6fa0697678d13af8509a933581fae452aae001c4876f40d749817ae7e1d", func := "twoslot/twoslotlaw24.RecoverPlan", spec := "recoverPlan", unfollowed := true, recurses := true, plainKeys := false, apart := false }
def RecoverPlanSaid : Prop := recoverPlanRow.holds Tryz.pinned (OpenSpec.ofChange recoverPlanSpec)

/-- ITS FALSE NEIGHBOUR: 'it returns false'. Refute it at one input. -/
def recoverPlanWrong : ChangeSpec := { name := "recoverPlan", fn := fun _ => fun
  | [d] => { results := [.lit (.bool false)], args := [d] }
  | _ => none }
def RecoverPlanWrongFalsely : Prop := recoverPlanRow.holds Tryz.pinned (OpenSpec.ofChange recoverPlanWrong)

/-- 'twoslotlaw17.TreeWiped': WHATEVER THE INPUT: true; the input reads as it did. -/
def treeWipedSpec : ChangeSpec := { name := "treeWiped", fn := fun _ => fun
  | [d1, d2, d3] => { results := [.lit (.bool true)], args := [d1, d2, d3] }
  | _ => none }
def treeWipedRow : OpenClaim := { program := "ytaekhhlgnbhnpaagreat", sum := "103bb6fa0697678d13af8509a933581fae452aae001c4876f40d749817ae7e1d", func := "twoslot/twoslotlaw17.TreeWiped", spec := "treeWiped", unfollowed := true, recurses := true, plainKeys := false, apart := false }
def TreeWipedSaid : Prop := treeWipedRow.holds Tryz.pinned (OpenSpec.ofChange treeWipedSpec)

/-- ITS FALSE NEIGHBOUR: 'it returns false'. Refute it at one input. -/
def treeWipedWrong : ChangeSpec := { name := "treeWiped", fn := fun _ => fun
  | [d1, d2, d3] => { results := [.lit (.bool false)], args := [d1, d2, d3] }
  | _ => none }
def TreeWipedWrongFalsely : Prop := treeWipedRow.holds Tryz.pinned (OpenSpec.ofChange treeWipedWrong)

/- THE SECOND FORM. 'bulk': how many values and letters a reading holds, each counted each time it is reached (what is shared counts as often as it is met; a slice's spare places count too). A statement '..UptoSaid' is the law's where the arguments, and the package variables that the reading takes, are together of bulk at most 1048576: NARROWER than '..Said'. Prove '..Said' where nothing that the law and all that it calls make is longer than what came in: it says more and counts as full. Else prove '..UptoSaid'. A law counts once. -/
mutual
def uptoBulk {H : Type} : DataW H → Nat
  | .lit (.string bytes) => bytes.length + 1
  | .lit _ => 1
  | .nil => 1
  | .ptr d => uptoBulk d + 1
  | .slice elems spare => uptoBulkAll elems + uptoBulkAll spare + 1
  | .agg parts => uptoBulkAll parts + 1
  | .iface _ d => uptoBulk d + 1
  | .map entries => uptoBulkEntries entries + 1
  | .held _ => 1
def uptoBulkAll {H : Type} : List (DataW H) → Nat
  | [] => 0
  | d :: r => uptoBulk d + uptoBulkAll r
def uptoBulkEntries {H : Type} : List (Lit × DataW H) → Nat
  | [] => 0
  | x :: r => uptoBulkEntry x + uptoBulkEntries r
def uptoBulkEntry {H : Type} : Lit × DataW H → Nat
  | (.string bytes, d) => bytes.length + uptoBulk d + 1
  | (_, d) => uptoBulk d + 1
 end
def uptoSmall : (H : Type) → List (DataW H) → Bool := fun _ ds => decide (uptoBulkAll ds ≤ 1048576)
def OpenSpec.upto (s : _root_.Go.ChangeSpec) : _root_.Go.OpenSpec := { _root_.Go.OpenSpec.ofChange s with cond := some uptoSmall }

/-- 'twoslotlaw16.CommitFinished', WHERE WHAT IT READS IS OF BULK AT MOST 1048576: true; the input reads as it did. -/
def commitFinishedUptoRow : OpenClaim := { program := "ytaekhhlgnbhnpaagreat", sum := "103bb6fa0697678d13af8509a933581fae452aae001c4876f40d749817ae7e1d", func := "twoslot/twoslotlaw16.CommitFinished", spec := "commitFinished", unfollowed := true, recurses := true, plainKeys := false, apart := false, narrowed := true }
def CommitFinishedUptoSaid : Prop := commitFinishedUptoRow.holds Tryz.pinned (OpenSpec.upto commitFinishedSpec)

/-- 'twoslotlaw18.ObjectBytes', WHERE WHAT IT READS IS OF BULK AT MOST 1048576: true; the input reads as it did. -/
def objectBytesUptoRow : OpenClaim := { program := "ytaekhhlgnbhnpaagreat", sum := "103bb6fa0697678d13af8509a933581fae452aae001c4876f40d749817ae7e1d", func := "twoslot/twoslotlaw18.ObjectBytes", spec := "objectBytes", unfollowed := true, recurses := true, plainKeys := false, apart := false, narrowed := true }
def ObjectBytesUptoSaid : Prop := objectBytesUptoRow.holds Tryz.pinned (OpenSpec.upto objectBytesSpec)

/-- 'twoslotlaw18.ObjectParts', WHERE WHAT IT READS IS OF BULK AT MOST 1048576: true; the input reads as it did. -/
def objectPartsUptoRow : OpenClaim := { program := "ytaekhhlgnbhnpaagreat", sum := "103bb6fa0697678d13af8509a933581fae452aae001c4876f40d749817ae7e1d", func := "twoslot/twoslotlaw18.ObjectParts", spec := "objectParts", unfollowed := true, recurses := true, plainKeys := false, apart := false, narrowed := true }
def ObjectPartsUptoSaid : Prop := objectPartsUptoRow.holds Tryz.pinned (OpenSpec.upto objectPartsSpec)

/-- 'twoslotlaw16.CommitRow', WHERE WHAT IT READS IS OF BULK AT MOST 1048576: true; the input reads as it did. -/
def commitRowUptoRow : OpenClaim := { program := "ytaekhhlgnbhnpaagreat", sum := "103bb6fa0697678d13af8509a933581fae452aae001c4876f40d749817ae7e1d", func := "twoslot/twoslotlaw16.CommitRow", spec := "commitRow", unfollowed := true, recurses := true, plainKeys := false, apart := false, narrowed := true }
def CommitRowUptoSaid : Prop := commitRowUptoRow.holds Tryz.pinned (OpenSpec.upto commitRowSpec)

/-- 'twoslotlaw16.CommitPoint', WHERE WHAT IT READS IS OF BULK AT MOST 1048576: true; the input reads as it did. -/
def commitPointUptoRow : OpenClaim := { program := "ytaekhhlgnbhnpaagreat", sum := "103bb6fa0697678d13af8509a933581fae452aae001c4876f40d749817ae7e1d", func := "twoslot/twoslotlaw16.CommitPoint", spec := "commitPoint", unfollowed := true, recurses := true, plainKeys := false, apart := false, narrowed := true }
def CommitPointUptoSaid : Prop := commitPointUptoRow.holds Tryz.pinned (OpenSpec.upto commitPointSpec)

/-- 'twoslotlaw23.LiveNames', WHERE WHAT IT READS IS OF BULK AT MOST 1048576: true; the input reads as it did. -/
def liveNamesUptoRow : OpenClaim := { program := "ytaekhhlgnbhnpaagreat", sum := "103bb6fa0697678d13af8509a933581fae452aae001c4876f40d749817ae7e1d", func := "twoslot/twoslotlaw23.LiveNames", spec := "liveNames", inPlace := ["internal/bytealg.abigen_runtime_cmpstring"], unfollowed := true, recurses := true, plainKeys := false, apart := false, narrowed := true }
def LiveNamesUptoSaid : Prop := liveNamesUptoRow.holds Tryz.pinned (OpenSpec.upto liveNamesSpec)

/-- 'twoslotlaw23.LiveFound', WHERE WHAT IT READS IS OF BULK AT MOST 1048576: true; the input reads as it did. -/
def liveFoundUptoRow : OpenClaim := { program := "ytaekhhlgnbhnpaagreat", sum := "103bb6fa0697678d13af8509a933581fae452aae001c4876f40d749817ae7e1d", func := "twoslot/twoslotlaw23.LiveFound", spec := "liveFound", inPlace := ["internal/bytealg.abigen_runtime_cmpstring"], unfollowed := true, recurses := true, plainKeys := false, apart := false, narrowed := true }
def LiveFoundUptoSaid : Prop := liveFoundUptoRow.holds Tryz.pinned (OpenSpec.upto liveFoundSpec)

/-- 'twoslotlaw17.TreeObject', WHERE WHAT IT READS IS OF BULK AT MOST 1048576: true; the input reads as it did. -/
def treeObjectUptoRow : OpenClaim := { program := "ytaekhhlgnbhnpaagreat", sum := "103bb6fa0697678d13af8509a933581fae452aae001c4876f40d749817ae7e1d", func := "twoslot/twoslotlaw17.TreeObject", spec := "treeObject", unfollowed := true, recurses := true, plainKeys := false, apart := false, narrowed := true }
def TreeObjectUptoSaid : Prop := treeObjectUptoRow.holds Tryz.pinned (OpenSpec.upto treeObjectSpec)

/-- 'twoslotlaw17.TreeWhole', WHERE WHAT IT READS IS OF BULK AT MOST 1048576: true; the input reads as it did. -/
def treeWholeUptoRow : OpenClaim := { program := "ytaekhhlgnbhnpaagreat", sum := "103bb6fa0697678d13af8509a933581fae452aae001c4876f40d749817ae7e1d", func := "twoslot/twoslotlaw17.TreeWhole", spec := "treeWhole", unfollowed := true, recurses := true, plainKeys := false, apart := false, narrowed := true }
def TreeWholeUptoSaid : Prop := treeWholeUptoRow.holds Tryz.pinned (OpenSpec.upto treeWholeSpec)

/-- 'twoslotlaw25.HealPlan', WHERE WHAT IT READS IS OF BULK AT MOST 1048576: true; the input reads as it did. -/
def healPlanUptoRow : OpenClaim := { program := "ytaekhhlgnbhnpaagreat", sum := "103bb6fa0697678d13af8509a933581fae452aae001c4876f40d749817ae7e1d", func := "twoslot/twoslotlaw25.HealPlan", spec := "healPlan", unfollowed := true, recurses := true, plainKeys := false, apart := false, narrowed := true }
def HealPlanUptoSaid : Prop := healPlanUptoRow.holds Tryz.pinned (OpenSpec.upto healPlanSpec)

/-- 'twoslotlaw24.RecoverPlan', WHERE WHAT IT READS IS OF BULK AT MOST 1048576: true; the input reads as it did. -/
def recoverPlanUptoRow : OpenClaim := { program := "ytaekhhlgnbhnpaagreat", sum := "103bb6fa0697678d13af8509a933581fae452aae001c4876f40d749817ae7e1d", func := "twoslot/twoslotlaw24.RecoverPlan", spec := "recoverPlan", unfollowed := true, recurses := true, plainKeys := false, apart := false, narrowed := true }
def RecoverPlanUptoSaid : Prop := recoverPlanUptoRow.holds Tryz.pinned (OpenSpec.upto recoverPlanSpec)

/-- 'twoslotlaw17.TreeWiped', WHERE WHAT IT READS IS OF BULK AT MOST 1048576: true; the input reads as it did. -/
def treeWipedUptoRow : OpenClaim := { program := "ytaekhhlgnbhnpaagreat", sum := "103bb6fa0697678d13af8509a933581fae452aae001c4876f40d749817ae7e1d", func := "twoslot/twoslotlaw17.TreeWiped", spec := "treeWiped", unfollowed := true, recurses := true, plainKeys := false, apart := false, narrowed := true }
def TreeWipedUptoSaid : Prop := treeWipedUptoRow.holds Tryz.pinned (OpenSpec.upto treeWipedSpec)

end Rows
end Go.Proofs.YtaekhhlgnbhnpaaGreat
