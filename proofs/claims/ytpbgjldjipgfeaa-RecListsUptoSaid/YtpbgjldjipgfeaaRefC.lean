/- The walk of groyneref01.Take. -/
import Derived.Test.YtpbgjldjipgfeaaRefB
import Derived.Deep.RegionHeld3
namespace Go.Proofs.Ytpbgjldjipgfeaa
open Go.RowKit

end Go.Proofs.Ytpbgjldjipgfeaa
