/- The walks of groyneref01's small functions: Copy, Cmp, Equal, In, After. -/
import Derived.Test.YtnoimmhdoaeeiaaDoorBase
import Derived.Test.YtnoimmhdoaeeiaaDoorCmp
namespace Go.Proofs.YtnoimmhdoaeeiaaDoor
open Go.RowKit

end Go.Proofs.YtnoimmhdoaeeiaaDoor
