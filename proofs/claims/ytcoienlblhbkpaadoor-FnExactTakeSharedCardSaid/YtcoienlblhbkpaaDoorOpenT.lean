/- The frame's words of an exact law beside listed variables. -/
import Derived.Test.YtcoienlblhbkpaaDoorCards
import Derived.Test.YtcoienlblhbkpaaDoorTie
import Derived.Test.YtcoienlblhbkpaaDoorOpenSh
import Derived.Test.YtcoienlblhbkpaaDoorTab
import Derived.LaidMore
import Derived.Stop.Joined
import Derived.SevenTiedAt
