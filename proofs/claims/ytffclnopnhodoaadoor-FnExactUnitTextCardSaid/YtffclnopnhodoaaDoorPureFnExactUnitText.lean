/- What the reference writes of a number in a unit, the program writes too: both write the same digits, the same size with the same name, the same parts of a span of time. No condition. -/
import Derived.Test.YtffclnopnhodoaaDoorD2
namespace Go.Proofs.YtffclnopnhodoaaDoor.Pure
open Go.RowKit Go.Proofs.YtffclnopnhodoaaDoor.P Go.Proofs.YtffclnopnhodoaaDoorW.PrintWords Go.Proofs.YtffclnopnhodoaaDoorW.PrintLast

theorem FnExactUnitText : laws_FnExactUnitText.Pure := fun a0 a1 w0 _ => L.law_unit a0 a1 w0
#print axioms FnExactUnitText

end Go.Proofs.YtffclnopnhodoaaDoor.Pure
