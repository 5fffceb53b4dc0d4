/- Layer 24: sizes, limits, numbers. -/
import Derived.Test.YtjkjlekfeelfpaaMetas
import Derived.Test.YtjkjlekfeelfpaaChecked
namespace Go.Proofs.Ytjkjlekfeelfpaa
open Go.RowKit Go.Lec

end Go.Proofs.Ytjkjlekfeelfpaa
