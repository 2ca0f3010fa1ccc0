/- All conditions. Written by mkall.py. -/
import Derived.Test.YtgepmlgkeljelaaGreatT1
import Derived.Test.YtgepmlgkeljelaaGreatT2
import Derived.Test.YtgepmlgkeljelaaGreatT3
import Derived.Test.YtgepmlgkeljelaaGreatT4
