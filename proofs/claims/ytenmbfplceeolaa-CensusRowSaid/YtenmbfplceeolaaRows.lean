/-
  No cell of these rows narrows 'for every input' (looked for: loops, veiled, ifaces, maps, wideKeys, modest, calm, conditions, laid).
  DERIVED. THE GIVEN ROWS OF THIS SEAT. 9 by the template 'for every input the law returns true; each argument reads behind the call as it read before'; 0 by the template 'total and deterministic' (their statements: YtenmbfplceeolaaTotals.lean).
  GIVEN WITH THE SEED: the statements are not yours to turn. If you find one false, say at which input.
  Laid BY PROGRAM, IN A SANDBOX (cutbox-rows.mjs): the forced cells as the released guide's own fill.sh prints them over the translation 05c34e70294b95d6… (all of the seat's roots in one cut). By AI agents, Wed Nov 11 2026. No macro, syntax, notation, axiom, sorry.
-/
import Derived.Test.YtenmbfplceeolaaChecked
import GoSem.Claim
import GoSem.ClaimJoined
import GoSem.ClaimMapViews
import Derived.JoinedTies
import Derived.KernelRfl
namespace Go.Proofs.Ytenmbfplceeolaa
/- THE CELL 'sum', in the pinned program and in every row, IS THE sha256 OF THE DUMP (.gsa) THAT YtenmbfplceeolaaProg.lean LOADS. Nothing in Lean hashes anything: it is a label: what it is worth is what the hold of that sum in a sandbox is worth. -/
noncomputable def Try.pinned : Pinned := { name := "ytenmbfplceeolaa", sum := "05c34e70294b95d63fd974187435742806cd2d5ee8e304f3f7eb30a207fcb18e", checked := Try.checked }
namespace Rows
def none {H : Type} : Left H := { results := [], args := [] }

/-- 'twoslotlaw19.EditNeed': WHATEVER THE INPUT: true; the input reads as it did. -/
def editNeedSpec : ChangeSpec := { name := "editNeed", fn := fun _ => fun
  | [d1, d2, d3] => { results := [.lit (.bool true)], args := [d1, d2, d3] }
  | _ => none }
def editNeedRow : OpenClaim := { program := "ytenmbfplceeolaa", sum := "05c34e70294b95d63fd974187435742806cd2d5ee8e304f3f7eb30a207fcb18e", func := "twoslot/twoslotlaw19.EditNeed", spec := "editNeed", apart := false }
def EditNeedSaid : Prop := editNeedRow.holds Try.pinned (OpenSpec.ofChange editNeedSpec)

/-- ITS FALSE NEIGHBOUR: 'it returns false'. Refute it at one input. -/
def editNeedWrong : ChangeSpec := { name := "editNeed", fn := fun _ => fun
  | [d1, d2, d3] => { results := [.lit (.bool false)], args := [d1, d2, d3] }
  | _ => none }
def EditNeedWrongFalsely : Prop := editNeedRow.holds Try.pinned (OpenSpec.ofChange editNeedWrong)

/-- 'twoslotlaw22.DirNames': WHATEVER THE INPUT: true; the input reads as it did. -/
def dirNamesSpec : ChangeSpec := { name := "dirNames", fn := fun _ => fun
  | [] => { results := [.lit (.bool true)], args := [] }
  | _ => none }
def dirNamesRow : OpenClaim := { program := "ytenmbfplceeolaa", sum := "05c34e70294b95d63fd974187435742806cd2d5ee8e304f3f7eb30a207fcb18e", func := "twoslot/twoslotlaw22.DirNames", spec := "dirNames", inPlace := ["internal/bytealg.abigen_runtime_cmpstring", "slices.overlaps[twoslot/api.Entry]"], unfollowed := true, recurses := true, apart := false }
def DirNamesSaid : Prop := dirNamesRow.holds Try.pinned (OpenSpec.ofChange dirNamesSpec)

/-- ITS FALSE NEIGHBOUR: 'it returns false'. Refute it at one input. -/
def dirNamesWrong : ChangeSpec := { name := "dirNames", fn := fun _ => fun
  | [] => { results := [.lit (.bool false)], args := [] }
  | _ => none }
def DirNamesWrongFalsely : Prop := dirNamesRow.holds Try.pinned (OpenSpec.ofChange dirNamesWrong)

/-- 'twoslotlaw22.DirEntries': WHATEVER THE INPUT: true; the input reads as it did. -/
def dirEntriesSpec : ChangeSpec := { name := "dirEntries", fn := fun _ => fun
  | [d1, d2, d3, d4] => { results := [.lit (.bool true)], args := [d1, d2, d3, d4] }
  | _ => none }
def dirEntriesRow : OpenClaim := { program := "ytenmbfplceeolaa", sum := "05c34e70294b95d63fd974187435742806cd2d5ee8e304f3f7eb30a207fcb18e", func := "twoslot/twoslotlaw22.DirEntries", spec := "dirEntries", inPlace := ["internal/bytealg.abigen_runtime_cmpstring", "slices.overlaps[twoslot/api.Entry]"], unfollowed := true, recurses := true, apart := false }
def DirEntriesSaid : Prop := dirEntriesRow.holds Try.pinned (OpenSpec.ofChange dirEntriesSpec)

/-- ITS FALSE NEIGHBOUR: 'it returns false'. Refute it at one input. -/
def dirEntriesWrong : ChangeSpec := { name := "dirEntries", fn := fun _ => fun
  | [d1, d2, d3, d4] => { results := [.lit (.bool false)], args := [d1, d2, d3, d4] }
  | _ => none }
def DirEntriesWrongFalsely : Prop := dirEntriesRow.holds Try.pinned (OpenSpec.ofChange dirEntriesWrong)

/-- 'twoslotlaw22.DirBytes': WHATEVER THE INPUT: true; the input reads as it did. -/
def dirBytesSpec : ChangeSpec := { name := "dirBytes", fn := fun _ => fun
  | [d1, d2, d3] => { results := [.lit (.bool true)], args := [d1, d2, d3] }
  | _ => none }
def dirBytesRow : OpenClaim := { program := "ytenmbfplceeolaa", sum := "05c34e70294b95d63fd974187435742806cd2d5ee8e304f3f7eb30a207fcb18e", func := "twoslot/twoslotlaw22.DirBytes", spec := "dirBytes", inPlace := ["internal/bytealg.abigen_runtime_cmpstring", "slices.overlaps[twoslot/api.Entry]"], unfollowed := true, recurses := true, apart := false }
def DirBytesSaid : Prop := dirBytesRow.holds Try.pinned (OpenSpec.ofChange dirBytesSpec)

/-- ITS FALSE NEIGHBOUR: 'it returns false'. Refute it at one input. -/
def dirBytesWrong : ChangeSpec := { name := "dirBytes", fn := fun _ => fun
  | [d1, d2, d3] => { results := [.lit (.bool false)], args := [d1, d2, d3] }
  | _ => none }
def DirBytesWrongFalsely : Prop := dirBytesRow.holds Try.pinned (OpenSpec.ofChange dirBytesWrong)

/-- 'twoslotlaw22.DirBack': WHATEVER THE INPUT: true; the input reads as it did. -/
def dirBackSpec : ChangeSpec := { name := "dirBack", fn := fun _ => fun
  | [d1, d2, d3, d4] => { results := [.lit (.bool true)], args := [d1, d2, d3, d4] }
  | _ => none }
def dirBackRow : OpenClaim := { program := "ytenmbfplceeolaa", sum := "05c34e70294b95d63fd974187435742806cd2d5ee8e304f3f7eb30a207fcb18e", func := "twoslot/twoslotlaw22.DirBack", spec := "dirBack", inPlace := ["internal/bytealg.abigen_runtime_cmpstring", "slices.overlaps[twoslot/api.Entry]"], unfollowed := true, recurses := true, apart := false }
def DirBackSaid : Prop := dirBackRow.holds Try.pinned (OpenSpec.ofChange dirBackSpec)

/-- ITS FALSE NEIGHBOUR: 'it returns false'. Refute it at one input. -/
def dirBackWrong : ChangeSpec := { name := "dirBack", fn := fun _ => fun
  | [d1, d2, d3, d4] => { results := [.lit (.bool false)], args := [d1, d2, d3, d4] }
  | _ => none }
def DirBackWrongFalsely : Prop := dirBackRow.holds Try.pinned (OpenSpec.ofChange dirBackWrong)

/-- 'twoslotlaw22.DirAdds': WHATEVER THE INPUT: true; the input reads as it did. -/
def dirAddsSpec : ChangeSpec := { name := "dirAdds", fn := fun _ => fun
  | [d1, d2, d3, d4] => { results := [.lit (.bool true)], args := [d1, d2, d3, d4] }
  | _ => none }
def dirAddsRow : OpenClaim := { program := "ytenmbfplceeolaa", sum := "05c34e70294b95d63fd974187435742806cd2d5ee8e304f3f7eb30a207fcb18e", func := "twoslot/twoslotlaw22.DirAdds", spec := "dirAdds", inPlace := ["internal/bytealg.abigen_runtime_cmpstring", "slices.overlaps[twoslot/api.Entry]"], unfollowed := true, recurses := true, apart := false }
def DirAddsSaid : Prop := dirAddsRow.holds Try.pinned (OpenSpec.ofChange dirAddsSpec)

/-- ITS FALSE NEIGHBOUR: 'it returns false'. Refute it at one input. -/
def dirAddsWrong : ChangeSpec := { name := "dirAdds", fn := fun _ => fun
  | [d1, d2, d3, d4] => { results := [.lit (.bool false)], args := [d1, d2, d3, d4] }
  | _ => none }
def DirAddsWrongFalsely : Prop := dirAddsRow.holds Try.pinned (OpenSpec.ofChange dirAddsWrong)

/-- 'twoslotlaw14.CensusWiped': WHATEVER THE INPUT: true; the input reads as it did. -/
def censusWipedSpec : ChangeSpec := { name := "censusWiped", fn := fun _ => fun
  | [d1, d2, d3] => { results := [.lit (.bool true)], args := [d1, d2, d3] }
  | _ => none }
def censusWipedRow : OpenClaim := { program := "ytenmbfplceeolaa", sum := "05c34e70294b95d63fd974187435742806cd2d5ee8e304f3f7eb30a207fcb18e", func := "twoslot/twoslotlaw14.CensusWiped", spec := "censusWiped", unfollowed := true, recurses := true, apart := false }
def CensusWipedSaid : Prop := censusWipedRow.holds Try.pinned (OpenSpec.ofChange censusWipedSpec)

/-- ITS FALSE NEIGHBOUR: 'it returns false'. Refute it at one input. -/
def censusWipedWrong : ChangeSpec := { name := "censusWiped", fn := fun _ => fun
  | [d1, d2, d3] => { results := [.lit (.bool false)], args := [d1, d2, d3] }
  | _ => none }
def CensusWipedWrongFalsely : Prop := censusWipedRow.holds Try.pinned (OpenSpec.ofChange censusWipedWrong)

/-- 'twoslotlaw14.CensusRow': WHATEVER THE INPUT: true; the input reads as it did. -/
def censusRowSpec : ChangeSpec := { name := "censusRow", fn := fun _ => fun
  | [d1, d2, d3] => { results := [.lit (.bool true)], args := [d1, d2, d3] }
  | _ => none }
def censusRowRow : OpenClaim := { program := "ytenmbfplceeolaa", sum := "05c34e70294b95d63fd974187435742806cd2d5ee8e304f3f7eb30a207fcb18e", func := "twoslot/twoslotlaw14.CensusRow", spec := "censusRow", unfollowed := true, recurses := true, apart := false }
def CensusRowSaid : Prop := censusRowRow.holds Try.pinned (OpenSpec.ofChange censusRowSpec)

/-- ITS FALSE NEIGHBOUR: 'it returns false'. Refute it at one input. -/
def censusRowWrong : ChangeSpec := { name := "censusRow", fn := fun _ => fun
  | [d1, d2, d3] => { results := [.lit (.bool false)], args := [d1, d2, d3] }
  | _ => none }
def CensusRowWrongFalsely : Prop := censusRowRow.holds Try.pinned (OpenSpec.ofChange censusRowWrong)

/-- 'twoslotlaw14.CensusCounts': WHATEVER THE INPUT: true; the input reads as it did. -/
def censusCountsSpec : ChangeSpec := { name := "censusCounts", fn := fun _ => fun
  | [d1, d2] => { results := [.lit (.bool true)], args := [d1, d2] }
  | _ => none }
def censusCountsRow : OpenClaim := { program := "ytenmbfplceeolaa", sum := "05c34e70294b95d63fd974187435742806cd2d5ee8e304f3f7eb30a207fcb18e", func := "twoslot/twoslotlaw14.CensusCounts", spec := "censusCounts", unfollowed := true, recurses := true, apart := false }
def CensusCountsSaid : Prop := censusCountsRow.holds Try.pinned (OpenSpec.ofChange censusCountsSpec)

/-- ITS FALSE NEIGHBOUR: 'it returns false'. Refute it at one input. -/
def censusCountsWrong : ChangeSpec := { name := "censusCounts", fn := fun _ => fun
  | [d1, d2] => { results := [.lit (.bool false)], args := [d1, d2] }
  | _ => none }
def CensusCountsWrongFalsely : Prop := censusCountsRow.holds Try.pinned (OpenSpec.ofChange censusCountsWrong)

/- THE SECOND FORM. 'bulk': how many values and letters a reading holds, each counted each time it is reached (what is shared counts as often as it is met; a slice's spare places count too). A statement '..UptoSaid' is the law's where the arguments, and the package variables that the reading takes, are together of bulk at most 1048576: NARROWER than '..Said'. Prove '..Said' where nothing that the law and all that it calls make is longer than what came in: it says more and counts as full. Else prove '..UptoSaid'. A law counts once. -/
mutual
def uptoBulk {H : Type} : DataW H → Nat
  | .lit (.string bytes) => bytes.length + 1
  | .lit _ => 1
  | .nil => 1
  | .ptr d => uptoBulk d + 1
  | .slice elems spare => uptoBulkAll elems + uptoBulkAll spare + 1
  | .agg parts => uptoBulkAll parts + 1
  | .iface _ d => uptoBulk d + 1
  | .map entries => uptoBulkEntries entries + 1
  | .held _ => 1
def uptoBulkAll {H : Type} : List (DataW H) → Nat
  | [] => 0
  | d :: r => uptoBulk d + uptoBulkAll r
def uptoBulkEntries {H : Type} : List (Lit × DataW H) → Nat
  | [] => 0
  | x :: r => uptoBulkEntry x + uptoBulkEntries r
def uptoBulkEntry {H : Type} : Lit × DataW H → Nat
  | (.string bytes, d) => bytes.length + uptoBulk d + 1
  | (_, d) => uptoBulk d + 1
 end
def uptoSmall : (H : Type) → List (DataW H) → Bool := fun _ ds => decide (uptoBulkAll ds ≤ 1048576)
def OpenSpec.upto (s : _root_.Go.ChangeSpec) : _root_.Go.OpenSpec := { _root_.Go.OpenSpec.ofChange s with cond := some uptoSmall }

/-- 'twoslotlaw19.EditNeed', WHERE WHAT IT READS IS OF BULK AT MOST 1048576: true; the input reads as it did. -/
def editNeedUptoRow : OpenClaim := { program := "ytenmbfplceeolaa", sum := "05c34e70294b95d63fd974187435742806cd2d5ee8e304f3f7eb30a207fcb18e", func := "twoslot/twoslotlaw19.EditNeed", spec := "editNeed", apart := false, narrowed := true }
def EditNeedUptoSaid : Prop := editNeedUptoRow.holds Try.pinned (OpenSpec.upto editNeedSpec)

/-- 'twoslotlaw22.DirNames', WHERE WHAT IT READS IS OF BULK AT MOST 1048576: true; the input reads as it did. -/
def dirNamesUptoRow : OpenClaim := { program := "ytenmbfplceeolaa", sum := "05c34e70294b95d63fd974187435742806cd2d5ee8e304f3f7eb30a207fcb18e", func := "twoslot/twoslotlaw22.DirNames", spec := "dirNames", inPlace := ["internal/bytealg.abigen_runtime_cmpstring", "slices.overlaps[twoslot/api.Entry]"], unfollowed := true, recurses := true, apart := false, narrowed := true }
def DirNamesUptoSaid : Prop := dirNamesUptoRow.holds Try.pinned (OpenSpec.upto dirNamesSpec)

/-- 'twoslotlaw22.DirEntries', WHERE WHAT IT READS IS OF BULK AT MOST 1048576: true; the input reads as it did. -/
def dirEntriesUptoRow : OpenClaim := { program := "ytenmbfplceeolaa", sum := "05c34e70294b95d63fd974187435742806cd2d5ee8e304f3f7eb30a207fcb18e", func := "twoslot/twoslotlaw22.DirEntries", spec := "dirEntries", inPlace := ["internal/bytealg.abigen_runtime_cmpstring", "slices.overlaps[twoslot/api.Entry]"], unfollowed := true, recurses := true, apart := false, narrowed := true }
def DirEntriesUptoSaid : Prop := dirEntriesUptoRow.holds Try.pinned (OpenSpec.upto dirEntriesSpec)

/-- 'twoslotlaw22.DirBytes', WHERE WHAT IT READS IS OF BULK AT MOST 1048576: true; the input reads as it did. -/
def dirBytesUptoRow : OpenClaim := { program := "ytenmbfplceeolaa", sum := "05c34e70294b95d63fd974187435742806cd2d5ee8e304f3f7eb30a207fcb18e", func := "twoslot/twoslotlaw22.DirBytes", spec := "dirBytes", inPlace := ["internal/bytealg.abigen_runtime_cmpstring", "slices.overlaps[twoslot/api.Entry]"], unfollowed := true, recurses := true, apart := false, narrowed := true }
def DirBytesUptoSaid : Prop := dirBytesUptoRow.holds Try.pinned (OpenSpec.upto dirBytesSpec)

/-- 'twoslotlaw22.DirBack', WHERE WHAT IT READS IS OF BULK AT MOST 1048576: true; the input reads as it did. -/
def dirBackUptoRow : OpenClaim := { program := "ytenmbfplceeolaa", sum := "05c34e70294b95d63fd974187435742806cd2d5ee8e304f3f7eb30a207fcb18e", func := "twoslot/twoslotlaw22.DirBack", spec := "dirBack", inPlace := ["internal/bytealg.abigen_runtime_cmpstring", "slices.overlaps[twoslot/api.Entry]"], unfollowed := true, recurses := true, apart := false, narrowed := true }
def DirBackUptoSaid : Prop := dirBackUptoRow.holds Try.pinned (OpenSpec.upto dirBackSpec)

/-- 'twoslotlaw22.DirAdds', WHERE WHAT IT READS IS OF BULK AT MOST 1048576: true; the input reads as it did. -/
def dirAddsUptoRow : OpenClaim := { program := "ytenmbfplceeolaa", sum := "05c34e70294b95d63fd974187435742806cd2d5ee8e304f3f7eb30a207fcb18e", func := "twoslot/twoslotlaw22.DirAdds", spec := "dirAdds", inPlace := ["internal/bytealg.abigen_runtime_cmpstring", "slices.overlaps[twoslot/api.Entry]"], unfollowed := true, recurses := true, apart := false, narrowed := true }
def DirAddsUptoSaid : Prop := dirAddsUptoRow.holds Try.pinned (OpenSpec.upto dirAddsSpec)

/-- 'twoslotlaw14.CensusWiped', WHERE WHAT IT READS IS OF BULK AT MOST 1048576: true; the input reads as it did. -/
def censusWipedUptoRow : OpenClaim := { program := "ytenmbfplceeolaa", sum := "05c34e70294b95d63fd974187435742806cd2d5ee8e304f3f7eb30a207fcb18e", func := "twoslot/twoslotlaw14.CensusWiped", spec := "censusWiped", unfollowed := true, recurses := true, apart := false, narrowed := true }
def CensusWipedUptoSaid : Prop := censusWipedUptoRow.holds Try.pinned (OpenSpec.upto censusWipedSpec)

/-- 'twoslotlaw14.CensusRow', WHERE WHAT IT READS IS OF BULK AT MOST 1048576: true; the input reads as it did. -/
def censusRowUptoRow : OpenClaim := { program := "ytenmbfplceeolaa", sum := "05c34e70294b95d63fd974187435742806cd2d5ee8e304f3f7eb30a207fcb18e", func := "twoslot/twoslotlaw14.CensusRow", spec := "censusRow", unfollowed := true, recurses := true, apart := false, narrowed := true }
def CensusRowUptoSaid : Prop := censusRowUptoRow.holds Try.pinned (OpenSpec.upto censusRowSpec)

/-- 'twoslotlaw14.CensusCounts', WHERE WHAT IT READS IS OF BULK AT MOST 1048576: true; the input reads as it did. -/
def censusCountsUptoRow : OpenClaim := { program := "ytenmbfplceeolaa", sum := "05c34e70294b95d63fd974187435742806cd2d5ee8e304f3f7eb30a207fcb18e", func := "twoslot/twoslotlaw14.CensusCounts", spec := "censusCounts", unfollowed := true, recurses := true, apart := false, narrowed := true }
def CensusCountsUptoSaid : Prop := censusCountsUptoRow.holds Try.pinned (OpenSpec.upto censusCountsSpec)

end Rows
end Go.Proofs.Ytenmbfplceeolaa
