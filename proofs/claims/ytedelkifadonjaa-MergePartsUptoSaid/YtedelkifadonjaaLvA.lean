/- Layer 24: sizes, limits, numbers. -/
import Derived.Test.YtedelkifadonjaaMetas
import Derived.Test.YtedelkifadonjaaChecked
namespace Go.Proofs.Ytedelkifadonjaa
open Go.RowKit Go.Lec

end Go.Proofs.Ytedelkifadonjaa
