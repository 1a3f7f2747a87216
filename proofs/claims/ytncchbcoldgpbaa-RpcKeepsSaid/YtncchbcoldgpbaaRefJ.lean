/- The walks of groyneref01's Copies, Equals, Join and Split. -/
import Derived.Test.YtncchbcoldgpbaaBaM
import Derived.Test.YtncchbcoldgpbaaBB
namespace Go.Proofs.Ytncchbcoldgpbaa
open Go.RowKit

end Go.Proofs.Ytncchbcoldgpbaa
