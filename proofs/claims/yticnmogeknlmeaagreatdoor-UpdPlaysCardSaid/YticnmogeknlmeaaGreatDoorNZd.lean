/- Helper: an image comes in pieces, plainly. No condition. -/
import Derived.Test.YticnmogeknlmeaaGreatDoorN31
namespace Go.Proofs.YticnmogeknlmeaaGreatDoor.B
open Go.RowKit Go.Maps
end Go.Proofs.YticnmogeknlmeaaGreatDoor.B
