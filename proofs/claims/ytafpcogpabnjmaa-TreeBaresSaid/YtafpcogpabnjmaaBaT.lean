/- TreeBares holds: depths agree with the reference's, and a program's copy without places is alike to it; conditions: none beyond the statement's own. -/
import Derived.Test.YtafpcogpabnjmaaRow
import Derived.Test.YtafpcogpabnjmaaBaC
namespace Go.Proofs.Ytafpcogpabnjmaa
theorem treeBares_holds : Rows.TreeBaresSaid := Go.Vm.TreeBares.said Go.Vm.plainB
end Go.Proofs.Ytafpcogpabnjmaa
