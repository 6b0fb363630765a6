/- The law on sites holds for every description of a program and every number: it returns true, and its arguments read afterwards as before. No condition. -/
import Derived.Test.YtdggbdjpcbiofaaGreatRowZ
import Derived.Test.YtdggbdjpcbiofaaGreatLawA
namespace Go.Proofs.YtdggbdjpcbiofaaGreat

theorem shapeSites_holds : Rows.ShapeSitesSaid := over_ShapeSites fun l n _ => Go.Par.shapeSites_walk l n

end Go.Proofs.YtdggbdjpcbiofaaGreat
