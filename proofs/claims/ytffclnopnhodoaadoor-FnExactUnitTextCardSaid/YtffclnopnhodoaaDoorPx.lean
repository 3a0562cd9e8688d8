-- Written by pp.py, a program of this session, out of the translation: not trusted, Lean checks it.
import Derived.Test.YtffclnopnhodoaaDoorPx0
import Derived.Test.YtffclnopnhodoaaDoorPx1
import Derived.Test.YtffclnopnhodoaaDoorPx2
import Derived.Test.YtffclnopnhodoaaDoorPx3
namespace Go.Proofs.YtffclnopnhodoaaDoor.P
open Go.RowKit Go.Proofs.YtffclnopnhodoaaDoorW.PrintWords Go.Proofs.YtffclnopnhodoaaDoorW.PrintLast Go.Proofs.YtffclnopnhodoaaDoorW.PrintMore
attribute [local go_sem] max2_int min2_int max_two min_two max_three min_three max_four min_four   -- for this text's walks alone
set_option linter.unusedVariables false
set_option linter.unusedSimpArgs false

end Go.Proofs.YtffclnopnhodoaaDoor.P
