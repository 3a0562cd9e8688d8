/- What the reference tells of a form and a text, the program tells too: both read the same holes out of the form and the same values out of the text, and tell the same list in the order of the names; what is marked in the program's list is held there. No condition. -/
import Derived.Test.YtllllfbnbndegaaM5
namespace Go.Proofs.Ytllllfbnbndegaa.Pure
open Go.RowKit Go.Proofs.Ytllllfbnbndegaa.Q Go.Proofs.YtllllfbnbndegaaW.PrintWords Go.Proofs.YtllllfbnbndegaaW.PrintLast

theorem FnExactPartsOf : laws_FnExactPartsOf.Pure := fun a0 a1 _ _ => L.law_parts a0 a1
#print axioms FnExactPartsOf

end Go.Proofs.Ytllllfbnbndegaa.Pure
