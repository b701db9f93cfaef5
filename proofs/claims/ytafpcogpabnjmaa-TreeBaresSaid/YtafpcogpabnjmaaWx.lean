/- All that is printed. -/
import Derived.Test.YtafpcogpabnjmaaWf2
