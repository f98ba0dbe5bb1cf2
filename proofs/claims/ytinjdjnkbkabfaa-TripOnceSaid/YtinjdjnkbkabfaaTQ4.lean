/- The law of the one reason and what comes in, together. Own work. -/
import Derived.Test.YtinjdjnkbkabfaaT10
import Derived.Test.YtinjdjnkbkabfaaTR
