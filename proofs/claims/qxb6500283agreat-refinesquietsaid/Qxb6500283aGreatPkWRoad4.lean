import Derived.Test.Qxb6500283aGreatPkWRoad3
namespace Go.Proofs.Qxb6500283aGreat
open Go Go.RowKit
end Go.Proofs.Qxb6500283aGreat
