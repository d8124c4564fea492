/- Joined texts: SxJ. -/
import Derived.Test.YtnogkihchgnbcaaGreatDoorGd
import Derived.Shelf.Strings.OnBuilder
/- strings.Join by the library's own contract: what it comes to, as a signature. -/
namespace Go.Sx
open Go Go.Am Go.RowKit
variable {P : Program}

end Go.Sx

