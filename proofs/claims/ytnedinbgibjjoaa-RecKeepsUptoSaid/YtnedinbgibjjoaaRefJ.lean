/- The walks of groyneref01's Copies, Equals, Join and Split. -/
import Derived.Test.YtnedinbgibjjoaaRefA
import Derived.Test.YtnedinbgibjjoaaBB
import Derived.Test.YtnedinbgibjjoaaSlc
namespace Go.Proofs.Ytnedinbgibjjoaa
open Go.RowKit

end Go.Proofs.Ytnedinbgibjjoaa
