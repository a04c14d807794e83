import Derived.Test.Qxb6500284aRow
import Derived.Test.Qxb6500284aSim7
namespace Go.Proofs.Qxb6500284a

theorem quiet_said : Rows.RefinesQuietSaid := quiet_holds plain
end Go.Proofs.Qxb6500284a
