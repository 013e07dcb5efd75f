/- The functions of package math that the model itself answers: what a call gives. -/
import Derived.Test.YtoeppdkhncllbaaRows
import Derived.Test.YtoeppdkhncllbaaFl2
import Derived.Test.YtoeppdkhncllbaaReg
namespace Go.Proofs.Ytoeppdkhncllbaa
open Go.RowKit Go.Fl




end Go.Proofs.Ytoeppdkhncllbaa
