/- The program's structs as plain data, how they lie in cells, and how the rows' readings give them (own lemmas, printed by an own program). -/
import Derived.Test.YtgnaigfgeofmmaaSyN
import Derived.Test.YtgnaigfgeofmmaaProg
namespace Go.Proofs.Ytgnaigfgeofmmaa.Sy
open Go
end Go.Proofs.Ytgnaigfgeofmmaa.Sy
