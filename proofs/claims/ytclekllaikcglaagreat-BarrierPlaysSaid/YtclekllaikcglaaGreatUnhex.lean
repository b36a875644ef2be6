import Derived.Test.YtclekllaikcglaaGreatBase
import Derived.Test.YtclekllaikcglaaGreatLoud

/- Contracts: word.Hex, four, Unhex and their references. -/
namespace Go.Proofs.YtclekllaikcglaaGreat
open Go Go.RowKit
end Go.Proofs.YtclekllaikcglaaGreat
