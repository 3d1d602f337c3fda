/- The runs, together. -/
import Derived.Test.YtljcpclabnamjaaGreatDoorRla0
import Derived.Test.YtljcpclabnamjaaGreatDoorRla1
import Derived.Test.YtljcpclabnamjaaGreatDoorRlb0
import Derived.Test.YtljcpclabnamjaaGreatDoorRlc0
import Derived.Test.YtljcpclabnamjaaGreatDoorRlc1
import Derived.Test.YtljcpclabnamjaaGreatDoorRld0
import Derived.Test.YtljcpclabnamjaaGreatDoorRle
import Derived.Test.YtljcpclabnamjaaGreatDoorRlo
import Derived.Test.YtljcpclabnamjaaGreatDoorKa2
open Go Go.Ev Go.Proofs
namespace Go.Proofs.YtljcpclabnamjaaGreatDoor
namespace Brk
end Brk
end Go.Proofs.YtljcpclabnamjaaGreatDoor
