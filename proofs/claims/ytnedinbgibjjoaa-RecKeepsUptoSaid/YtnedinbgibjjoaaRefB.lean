/- The walks of groyneref01.Number and Take. -/
import Derived.Test.YtnedinbgibjjoaaRefA
import Derived.Test.YtnedinbgibjjoaaPackC
namespace Go.Proofs.Ytnedinbgibjjoaa
open Go.RowKit

end Go.Proofs.Ytnedinbgibjjoaa
