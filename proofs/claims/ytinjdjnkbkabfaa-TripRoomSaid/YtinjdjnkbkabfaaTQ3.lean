/- The law of room and what comes in, together. Own work. -/
import Derived.Test.YtinjdjnkbkabfaaT9
import Derived.Test.YtinjdjnkbkabfaaTR
