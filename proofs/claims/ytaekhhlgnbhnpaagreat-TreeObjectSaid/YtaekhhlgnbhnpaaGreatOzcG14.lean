import Derived.Test.YtaekhhlgnbhnpaaGreatOzcG08
import Derived.Below
set_option linter.unusedVariables false
set_option linter.unusedSimpArgs false
namespace Go.Tw
open Go Go.RowKit
section
variable {P:Program}
theorem aqZ {f : FuncId} {args : List AV} {W : World} {vs : Array Value} (h : aX P f args ⟨bB true, []⟩) (hsz : vs.size = args.length) (hv : bK P W (rP W) dL args (fun j => vs[j]?)) :
   Calls P f vs W fun e w' => e = .returned (.bool true) ∧ Below W.heap.size W w' := by
 refine (h.2 W (rP W) vs (fun g hg => hg) hsz hv).mono fun e w' hq => ?_
 obtain ⟨v, I', ρ', he, h1, h2, h3⟩ := hq
 have hvt : v = .bool true := by simpa only [bB, VR] using h1
 subst hvt
 refine ⟨he, h3.os, h3.tape, h3.output, h3.size, fun k hk => h3.same k hk ?_⟩
 rintro (⟨b, kk, o, q1, q2, q3⟩ | hg)
 · simp [aF.empty] at q1
 · exact wS hg
end
end Go.Tw