/- All that is printed. -/
import Derived.Test.YtjeihigmneepcaaWf1
