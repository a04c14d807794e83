import Derived.Test.Qxb6500283aGreatPkWRoad2
namespace Go.Proofs.Qxb6500283aGreat
open Go Go.RowKit

end Go.Proofs.Qxb6500283aGreat
