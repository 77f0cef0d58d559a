/- The walk of the file's reader. -/
import Derived.Test.YtipligidnoajfaaDoorBytes
import Derived.StillTailTactics
namespace Go.Proofs.YtipligidnoajfaaDoor
open Go.RowKit

end Go.Proofs.YtipligidnoajfaaDoor
