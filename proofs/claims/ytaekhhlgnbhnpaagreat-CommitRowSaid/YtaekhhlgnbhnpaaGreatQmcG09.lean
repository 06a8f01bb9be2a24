import Derived.Test.YtaekhhlgnbhnpaaGreatQmcG08
import Derived.Defers
set_option linter.unusedVariables false
set_option linter.unusedSimpArgs false
namespace Go.Tw
open Go
def ag3 (P:Program) (f:FuncId) (args:List AV) (m:aF) (Q:AV→aF→Prop):Prop:=zM P f=true ∧
 ∀ (w:World) (I:Nat→Prop) (ρ:cA) (vs:Array Value),SR P w I ρ m→vs.size=args.length→bB P w I ρ args (fun j=>vs[j]?)→(∀ b,m.next≤b→ρ b=none) →
  CallsD P f vs .returning w fun c u w'=>u = .returning∧∃ v r m' a ρ',c = .returned v∧Q r m'∧VR P w' a ρ' r v∧SR P w' a ρ' m'∧cM w I ρ m w' a ρ' m'∧∀ b,m'.next≤b→ρ' b=none
section
variable {P:Program}
end
end Go.Tw