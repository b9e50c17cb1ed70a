/- the shelf of log. -/
import Derived.Test.YtnlppcjfpmnahaaGreatDoorLgShelf
namespace Go.Proofs.YtnlppcjfpmnahaaGreatDoor
set_option linter.all false
end Go.Proofs.YtnlppcjfpmnahaaGreatDoor
