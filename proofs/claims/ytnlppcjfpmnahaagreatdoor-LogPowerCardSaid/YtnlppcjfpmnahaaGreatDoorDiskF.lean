/- disk: Boot; printed by wip/lgsplit.py. -/
import Derived.Test.YtnlppcjfpmnahaaGreatDoorDiskE
import Derived.Test.YtnlppcjfpmnahaaGreatDoorNums
import Derived.Test.YtnlppcjfpmnahaaGreatDoorSl
namespace Go.Proofs.YtnlppcjfpmnahaaGreatDoor
set_option linter.all false
end Go.Proofs.YtnlppcjfpmnahaaGreatDoor
