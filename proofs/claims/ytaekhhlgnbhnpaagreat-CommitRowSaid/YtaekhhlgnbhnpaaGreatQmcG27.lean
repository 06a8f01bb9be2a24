import Derived.Test.YtaekhhlgnbhnpaaGreatQmcG15
import Derived.Shelf.Sort.Plain
import Derived.Shelf.Slices.In.SortNone
import Derived.Shelf.Slices.CompactI
set_option linter.unusedVariables false
set_option linter.unusedSimpArgs false
set_option maxRecDepth 10000
namespace Go.Proofs.YtaekhhlgnbhnpaaGreat
open Go Go.Proofs Go.Shelf Go.RowKit Go.Lib Go.Sort
end Go.Proofs.YtaekhhlgnbhnpaaGreat