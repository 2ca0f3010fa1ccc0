/- All conditions. Written by mkall.py. -/
import Derived.Test.YtgepmlgkeljelaaGreatTall
