/-
  No cell of these rows narrows 'for every input' (looked for: loops, veiled, ifaces, maps, wideKeys, modest, calm, conditions, laid).
  DERIVED. THE GIVEN ROWS OF THIS SEAT. 4 by the template 'for every input the law returns true; each argument reads behind the call as it read before'; 0 by the template 'total and deterministic' (their statements: YtgcicholalgbiaaGreatTotals.lean).
  GIVEN WITH THE SEED: the statements are not yours to turn. If you find one false, say at which input.
  Laid BY PROGRAM, IN A SANDBOX (cutbox-rows.mjs): the forced cells as the released guide's own fill.sh prints them over the translation f16b771db8658cfb… (all of the seat's roots in one cut). By AI agents, Wed Nov 11 2026. No macro, syntax, notation, axiom, sorry.
-/
import Derived.Test.YtgcicholalgbiaaGreatChecked
import GoSem.Claim
import GoSem.ClaimJoined
import GoSem.ClaimMapViews
import Derived.JoinedTies
import Derived.KernelRfl
namespace Go.Proofs.YtgcicholalgbiaaGreat
/- THE CELL 'sum', in the pinned program and in every row, IS THE sha256 OF THE DUMP (.gsa) THAT YtgcicholalgbiaaGreatProg.lean LOADS. Nothing in Lean hashes anything: it is a label: what it is worth is what the hold of that sum in a sandbox is worth. -/
noncomputable def Tryz.pinned : Pinned := { name := "ytgcicholalgbiaagreat", sum := "f16b771db8658cfb10b9af416e03dc200a58cfd7a3ed5cba42754f982cecbae2", checked := Tryz.checked }
namespace Rows
def none {H : Type} : Left H := { results := [], args := [] }

/-- 'twoslotlaw23.LiveRows': WHATEVER THE INPUT: true; the input reads as it did. -/
def liveRowsSpec : ChangeSpec := { name := "liveRows", fn := fun _ => fun
  | [d] => { results := [.lit (.bool true)], args := [d] }
  | _ => none }
def liveRowsRow : OpenClaim := { program := "ytgcicholalgbiaagreat", sum := "f16b771db8658cfb10b9af416e03dc200a58cfd7a3ed5cba42754f982cecbae2", func := "twoslot/twoslotlaw23.LiveRows", spec := "liveRows", unfollowed := true, recurses := true, plainKeys := false, apart := false }
def LiveRowsSaid : Prop := liveRowsRow.holds Tryz.pinned (OpenSpec.ofChange liveRowsSpec)

/-- ITS FALSE NEIGHBOUR: 'it returns false'. Refute it at one input. -/
def liveRowsWrong : ChangeSpec := { name := "liveRows", fn := fun _ => fun
  | [d] => { results := [.lit (.bool false)], args := [d] }
  | _ => none }
def LiveRowsWrongFalsely : Prop := liveRowsRow.holds Tryz.pinned (OpenSpec.ofChange liveRowsWrong)

/-- 'twoslotlaw25.HealShows': WHATEVER THE INPUT: true; the input reads as it did. -/
def healShowsSpec : ChangeSpec := { name := "healShows", fn := fun _ => fun
  | [d] => { results := [.lit (.bool true)], args := [d] }
  | _ => none }
def healShowsRow : OpenClaim := { program := "ytgcicholalgbiaagreat", sum := "f16b771db8658cfb10b9af416e03dc200a58cfd7a3ed5cba42754f982cecbae2", func := "twoslot/twoslotlaw25.HealShows", spec := "healShows", unfollowed := true, recurses := true, plainKeys := false, apart := false }
def HealShowsSaid : Prop := healShowsRow.holds Tryz.pinned (OpenSpec.ofChange healShowsSpec)

/-- ITS FALSE NEIGHBOUR: 'it returns false'. Refute it at one input. -/
def healShowsWrong : ChangeSpec := { name := "healShows", fn := fun _ => fun
  | [d] => { results := [.lit (.bool false)], args := [d] }
  | _ => none }
def HealShowsWrongFalsely : Prop := healShowsRow.holds Tryz.pinned (OpenSpec.ofChange healShowsWrong)

/-- 'twoslotlaw24.RecoverKeeps': WHATEVER THE INPUT: true; the input reads as it did. -/
def recoverKeepsSpec : ChangeSpec := { name := "recoverKeeps", fn := fun _ => fun
  | [d1, d2] => { results := [.lit (.bool true)], args := [d1, d2] }
  | _ => none }
def recoverKeepsRow : OpenClaim := { program := "ytgcicholalgbiaagreat", sum := "f16b771db8658cfb10b9af416e03dc200a58cfd7a3ed5cba42754f982cecbae2", func := "twoslot/twoslotlaw24.RecoverKeeps", spec := "recoverKeeps", unfollowed := true, recurses := true, plainKeys := false, apart := false }
def RecoverKeepsSaid : Prop := recoverKeepsRow.holds Tryz.pinned (OpenSpec.ofChange recoverKeepsSpec)

/-- ITS FALSE NEIGHBOUR: 'it returns false'. Refute it at one input. -/
def recoverKeepsWrong : ChangeSpec := { name := "recoverKeeps", fn := fun _ => fun
  | [d1, d2] => { results := [.lit (.bool false)], args := [d1, d2] }
  | _ => none }
def RecoverKeepsWrongFalsely : Prop := recoverKeepsRow.holds Tryz.pinned (OpenSpec.ofChange recoverKeepsWrong)

/-- 'twoslotlaw24.RecoverShows': WHATEVER THE INPUT: true; the input reads as it did. -/
def recoverShowsSpec : ChangeSpec := { name := "recoverShows", fn := fun _ => fun
  | [d] => { results := [.lit (.bool true)], args := [d] }
  | _ => none }
def recoverShowsRow : OpenClaim := { program := "ytgcicholalgbiaagreat", sum := "f16b771db8658cfb10b9af416e03dc200a58cfd7a3ed5cba42754f982cecbae2", func := "twoslot/twoslotlaw24.RecoverShows", spec := "recoverShows", unfollowed := true, recurses := true, plainKeys := false, apart := false }
def RecoverShowsSaid : Prop := recoverShowsRow.holds Tryz.pinned (OpenSpec.ofChange recoverShowsSpec)

/-- ITS FALSE NEIGHBOUR: 'it returns false'. Refute it at one input. -/
def recoverShowsWrong : ChangeSpec := { name := "recoverShows", fn := fun _ => fun
  | [d] => { results := [.lit (.bool false)], args := [d] }
  | _ => none }
def RecoverShowsWrongFalsely : Prop := recoverShowsRow.holds Tryz.pinned (OpenSpec.ofChange recoverShowsWrong)

/- THE SECOND FORM. 'bulk': how many values and letters a reading holds, each counted each time it is reached (what is shared counts as often as it is met; a slice's spare places count too). A statement '..UptoSaid' is the law's where the arguments, and the package variables that the reading takes, are together of bulk at most 1048576: NARROWER than '..Said'. Prove '..Said' where nothing that the law and all that it calls make is longer than what came in: it says more and counts as full. Else prove '..UptoSaid'. A law counts once. -/
mutual
def uptoBulk {H : Type} : DataW H → Nat
  | .lit (.string bytes) => bytes.length + 1
  | .lit _ => 1
  | .nil => 1
  | .ptr d => uptoBulk d + 1
  | .slice elems spare => uptoBulkAll elems + uptoBulkAll spare + 1
  | .agg parts => uptoBulkAll parts + 1
  | .iface _ d => uptoBulk d + 1
  | .map entries => uptoBulkEntries entries + 1
  | .held _ => 1
def uptoBulkAll {H : Type} : List (DataW H) → Nat
  | [] => 0
  | d :: r => uptoBulk d + uptoBulkAll r
def uptoBulkEntries {H : Type} : List (Lit × DataW H) → Nat
  | [] => 0
  | x :: r => uptoBulkEntry x + uptoBulkEntries r
def uptoBulkEntry {H : Type} : Lit × DataW H → Nat
  | (.string bytes, d) => bytes.length + uptoBulk d + 1
  | (_, d) => uptoBulk d + 1
 end
def uptoSmall : (H : Type) → List (DataW H) → Bool := fun _ ds => decide (uptoBulkAll ds ≤ 1048576)
def OpenSpec.upto (s : _root_.Go.ChangeSpec) : _root_.Go.OpenSpec := { _root_.Go.OpenSpec.ofChange s with cond := some uptoSmall }

/-- 'twoslotlaw23.LiveRows', WHERE WHAT IT READS IS OF BULK AT MOST 1048576: true; the input reads as it did. -/
def liveRowsUptoRow : OpenClaim := { program := "ytgcicholalgbiaagreat", sum := "f16b771db8658cfb10b9af416e03dc200a58cfd7a3ed5cba42754f982cecbae2", func := "twoslot/twoslotlaw23.LiveRows", spec := "liveRows", unfollowed := true, recurses := true, plainKeys := false, apart := false, narrowed := true }
def LiveRowsUptoSaid : Prop := liveRowsUptoRow.holds Tryz.pinned (OpenSpec.upto liveRowsSpec)

/-- 'twoslotlaw25.HealShows', WHERE WHAT IT READS IS OF BULK AT MOST 1048576: true; the input reads as it did. -/
def healShowsUptoRow : OpenClaim := { program := "ytgcicholalgbiaagreat", sum := "f16b771db8658cfb10b9af416e03dc200a58cfd7a3ed5cba42754f982cecbae2", func := "twoslot/twoslotlaw25.HealShows", spec := "healShows", unfollowed := true, recurses := true, plainKeys := false, apart := false, narrowed := true }
def HealShowsUptoSaid : Prop := healShowsUptoRow.holds Tryz.pinned (OpenSpec.upto healShowsSpec)

/-- 'twoslotlaw24.RecoverKeeps', WHERE WHAT IT READS IS OF BULK AT MOST 1048576: true; the input reads as it did. -/
def recoverKeepsUptoRow : OpenClaim := { program := "ytgcicholalgbiaagreat", sum := "f16b771db8658cfb10b9af416e03dc200a58cfd7a3ed5cba42754f982cecbae2", func := "twoslot/twoslotlaw24.RecoverKeeps", spec := "recoverKeeps", unfollowed := true, recurses := true, plainKeys := false, apart := false, narrowed := true }
def RecoverKeepsUptoSaid : Prop := recoverKeepsUptoRow.holds Tryz.pinned (OpenSpec.upto recoverKeepsSpec)

/-- 'twoslotlaw24.RecoverShows', WHERE WHAT IT READS IS OF BULK AT MOST 1048576: true; the input reads as it did. -/
def recoverShowsUptoRow : OpenClaim := { program := "ytgcicholalgbiaagreat", sum := "f16b771db8658cfb10b9af416e03dc200a58cfd7a3ed5cba42754f982cecbae2", func := "twoslot/twoslotlaw24.RecoverShows", spec := "recoverShows", unfollowed := true, recurses := true, plainKeys := false, apart := false, narrowed := true }
def RecoverShowsUptoSaid : Prop := recoverShowsUptoRow.holds Tryz.pinned (OpenSpec.upto recoverShowsSpec)

end Rows
end Go.Proofs.YtgcicholalgbiaaGreat
