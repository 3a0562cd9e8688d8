-- Written by pp.py, a program of this session, out of the translation: not trusted, Lean checks it.
import Derived.Test.YtllllfbnbndegaaQx0
import Derived.Test.YtllllfbnbndegaaQx1
import Derived.Test.YtllllfbnbndegaaQx2
import Derived.Test.YtllllfbnbndegaaQx3
import Derived.Test.YtllllfbnbndegaaQx4
namespace Go.Proofs.Ytllllfbnbndegaa.Q
open Go.RowKit Go.Proofs.YtllllfbnbndegaaW.PrintWords Go.Proofs.YtllllfbnbndegaaW.PrintLast Go.Proofs.YtllllfbnbndegaaW.PrintMore
attribute [local go_sem] max2_int min2_int max_two min_two max_three min_three max_four min_four   -- for this text's walks alone
set_option linter.unusedVariables false
set_option linter.unusedSimpArgs false

end Go.Proofs.Ytllllfbnbndegaa.Q
