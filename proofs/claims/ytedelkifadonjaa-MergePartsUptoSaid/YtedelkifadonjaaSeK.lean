/- Layer 18: pairs that are alike are told alike (the document's Same). -/
import Derived.Test.YtedelkifadonjaaPairsB
import Derived.Test.YtedelkifadonjaaProg
import Derived.BigQuiet
namespace Go.Proofs.Ytedelkifadonjaa
open Go.RowKit Go.Lec

end Go.Proofs.Ytedelkifadonjaa
