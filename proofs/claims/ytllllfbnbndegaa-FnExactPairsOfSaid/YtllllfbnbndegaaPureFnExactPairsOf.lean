/- What the reference tells of a text of pairs, the program tells too: both keep the same pieces, read the same name and value out of each, and tell the same list in the order of the names; what is marked in the program's list is held there. No condition. -/
import Derived.Test.YtllllfbnbndegaaL8
namespace Go.Proofs.Ytllllfbnbndegaa.Pure
open Go.RowKit Go.Proofs.Ytllllfbnbndegaa.P Go.Proofs.YtllllfbnbndegaaW.PrintWords Go.Proofs.YtllllfbnbndegaaW.PrintLast

theorem FnExactPairsOf : laws_FnExactPairsOf.Pure := fun a0 _ => L.law_ok a0
#print axioms FnExactPairsOf

end Go.Proofs.Ytllllfbnbndegaa.Pure
