/- What stands in a frame of a film: dyeref1.conv, div and At. (printed by gen_daw.py) -/
import Derived.Test.YtemlabmmafcapaaGreatDoorDaW
import Derived.Deep.RegionHeld3
namespace Go.Proofs.YtemlabmmafcapaaGreatDoor
open Go.RowKit

end Go.Proofs.YtemlabmmafcapaaGreatDoor
