import Derived.Test.YtaekhhlgnbhnpaaGreatNzcG08
import Derived.Below
set_option linter.unusedVariables false
set_option linter.unusedSimpArgs false
namespace Go.Tw
open Go Go.RowKit
section
variable {P:Program}
theorem ar5 {f:FuncId} {args:List AV} {W:World} {vs:Array Value} (h:aR P f args ⟨aV true,[]⟩) (d:vs.size=args.length) (l:bC P W (qA W) cZ args (fun j=>vs[j]?)) :
 Calls P f vs W fun e w'=>e = .returned (.bool true)∧Below W.heap.size W w':=by
 refine (h.2 W (qA W) vs (fun g i=>i) d l).mono fun e w' q => ?_
 obtain ⟨v,s,ρ',p,r,x,a⟩:=q;have c:v = .bool true:=by simpa only [aV,VR] using r
 subst c;refine ⟨p,a.os,a.tape,a.output,a.size,fun k n=>a.same k n ?_⟩;rintro (⟨b,w,o,m,u,t⟩ | i)
 ·simp [aF.empty] at m
 ·exact q9 i
end
end Go.Tw