import Derived.Test.YtaekhhlgnbhnpaaGreatQmcG08
import Derived.Below
set_option linter.unusedVariables false
set_option linter.unusedSimpArgs false
namespace Go.Tw
open Go Go.RowKit
section
variable {P:Program}
theorem asH {f:FuncId} {args:List AV} {W:World} {vs:Array Value} (h:aQ P f args ⟨aZ true,[]⟩) (d:vs.size=args.length) (q:bB P W (qO W) dA args (fun j=>vs[j]?)) :
 Calls P f vs W fun e w'=>e = .returned (.bool true)∧Below W.heap.size W w':=by
 refine (h.2 W (qO W) vs (fun g i=>i) d q).mono fun e w' n => ?_
 obtain ⟨v,u,ρ',p,l,s,a⟩:=n;have c:v = .bool true:=by simpa only [aZ,VR] using l
 subst c;refine ⟨p,a.os,a.tape,a.output,a.size,fun k r=>a.same k r ?_⟩;rintro (⟨b,w,o,m,t,x⟩ | i)
 ·simp [aF.empty] at m
 ·exact zH i
end
end Go.Tw