/- The ways through a region that draws its order, for the laws. -/
import Derived.Test.YtoihfmjnonanjaaDoorBulkU
import Derived.Deep.RegionHeld3
namespace Go.Proofs.YtoihfmjnonanjaaDoor
end Go.Proofs.YtoihfmjnonanjaaDoor
