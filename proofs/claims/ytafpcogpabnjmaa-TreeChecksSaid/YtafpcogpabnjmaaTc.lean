/- TreeChecks holds: the program's checker of trees and the reference agree on every program; conditions: none beyond the statement's own. -/
import Derived.Test.YtafpcogpabnjmaaRowTC
import Derived.Test.YtafpcogpabnjmaaPlL
namespace Go.Proofs.Ytafpcogpabnjmaa
theorem treeChecks_holds : Rows.TreeChecksSaid := Go.Vm.TreeChecks.said Go.Vm.plain
end Go.Proofs.Ytafpcogpabnjmaa
