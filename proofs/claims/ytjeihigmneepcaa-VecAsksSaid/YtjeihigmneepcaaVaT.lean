/- VecAsks holds: words of a graph answer as asked; conditions: none beyond the statement's own. -/
import Derived.Test.YtjeihigmneepcaaRow
import Derived.Test.YtjeihigmneepcaaAgG
namespace Go.Proofs.Ytjeihigmneepcaa
theorem vecAsks_holds : Rows.VecAsksSaid := Go.Vm.VecAsks.said Go.Vm.plainVA
end Go.Proofs.Ytjeihigmneepcaa
