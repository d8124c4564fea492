/- Joined texts: M5w, M7. -/
import Derived.Test.YtjhfgiieicloeaaGreatDoorGf
import Derived.Test.YtjhfgiieicloeaaGreatDoorGp
import Derived.Test.YtjhfgiieicloeaaGreatDoorGn
import Derived.Test.YtjhfgiieicloeaaGreatDoorGq
import Derived.Test.YtjhfgiieicloeaaGreatDoorGl
/- The document's example of layer 8, at the program. -/
namespace Go.Proofs.YtjhfgiieicloeaaGreatDoor
open Go Go.Am Go.Sx
end Go.Proofs.YtjhfgiieicloeaaGreatDoor

/- A program's text: its tree, or where it is refused. -/
namespace Go.Proofs.YtjhfgiieicloeaaGreatDoor
open Go Go.Am Go.Sx
end Go.Proofs.YtjhfgiieicloeaaGreatDoor

