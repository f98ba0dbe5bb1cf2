/- The law of what stays and what comes in, together. Own work. -/
import Derived.Test.YtinjdjnkbkabfaaT8
import Derived.Test.YtinjdjnkbkabfaaTR
