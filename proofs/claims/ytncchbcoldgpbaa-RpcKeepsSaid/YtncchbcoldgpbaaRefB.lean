/- The walks of groyneref01.Number and Take. -/
import Derived.Test.YtncchbcoldgpbaaBaM
import Derived.Test.YtncchbcoldgpbaaPackC
namespace Go.Proofs.Ytncchbcoldgpbaa
open Go.RowKit

end Go.Proofs.Ytncchbcoldgpbaa
