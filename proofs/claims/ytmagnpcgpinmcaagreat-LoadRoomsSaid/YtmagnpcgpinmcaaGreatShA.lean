/- All the printed texts. -/
import Derived.Test.YtmagnpcgpinmcaaGreatSh0
import Derived.Test.YtmagnpcgpinmcaaGreatSh1
import Derived.Test.YtmagnpcgpinmcaaGreatSh2
import Derived.Test.YtmagnpcgpinmcaaGreatSh3
import Derived.Test.YtmagnpcgpinmcaaGreatSh4
import Derived.Test.YtmagnpcgpinmcaaGreatSh5
