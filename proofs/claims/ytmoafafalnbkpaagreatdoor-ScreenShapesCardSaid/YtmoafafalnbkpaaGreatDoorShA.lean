/- All the printed texts. -/
import Derived.Test.YtmoafafalnbkpaaGreatDoorSh0
import Derived.Test.YtmoafafalnbkpaaGreatDoorSh1
import Derived.Test.YtmoafafalnbkpaaGreatDoorSh2
import Derived.Test.YtmoafafalnbkpaaGreatDoorSh3
import Derived.Test.YtmoafafalnbkpaaGreatDoorSh4
