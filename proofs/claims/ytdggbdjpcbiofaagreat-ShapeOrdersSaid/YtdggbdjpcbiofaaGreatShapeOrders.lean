/- The law on orders holds for every description of a program and every number: it returns true, and its arguments read afterwards as before. No condition. -/
import Derived.Test.YtdggbdjpcbiofaaGreatRowB
import Derived.Test.YtdggbdjpcbiofaaGreatLawB
namespace Go.Proofs.YtdggbdjpcbiofaaGreat

theorem shapeOrders_holds : Rows.ShapeOrdersSaid := over_ShapeOrders fun l n _ => Go.Par.shapeOrders_walk l n

end Go.Proofs.YtdggbdjpcbiofaaGreat
