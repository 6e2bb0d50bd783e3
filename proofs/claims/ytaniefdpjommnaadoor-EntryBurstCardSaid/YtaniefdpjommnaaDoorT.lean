/-
  The trees of the program's functions, gathered.
-/
import Derived.Test.YtaniefdpjommnaaDoorT0
import Derived.Test.YtaniefdpjommnaaDoorT1
