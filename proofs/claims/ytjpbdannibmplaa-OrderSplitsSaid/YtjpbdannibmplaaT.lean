/- The program's structs as plain data, how they lie in cells, and how the rows' readings give them (own lemmas, printed by an own program). -/
import Derived.Test.YtjpbdannibmplaaSyN
import Derived.Test.YtjpbdannibmplaaProg
namespace Go.Proofs.Ytjpbdannibmplaa.Sy
open Go
end Go.Proofs.Ytjpbdannibmplaa.Sy
