/- All functions. -/
import Derived.Test.YtabindnaedchgaaRtA0
import Derived.Test.YtabindnaedchgaaRtA1
import Derived.Test.YtabindnaedchgaaRtA2
import Derived.Test.YtabindnaedchgaaRtA3
