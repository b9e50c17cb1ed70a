/- the shelf of log. -/
import Derived.Test.YtnlppcjfpmnahaaDoorLgShelf
namespace Go.Proofs.YtnlppcjfpmnahaaDoor
set_option linter.all false
end Go.Proofs.YtnlppcjfpmnahaaDoor
