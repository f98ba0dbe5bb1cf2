/- The law of plays and what comes in, together. Own work. -/
import Derived.Test.YtinjdjnkbkabfaaT6
import Derived.Test.YtinjdjnkbkabfaaTR
