/-
  The trees of the program's functions, gathered.
-/
import Derived.Test.YtaniefdpjommnaaT0
import Derived.Test.YtaniefdpjommnaaT1
import Derived.Test.YtaniefdpjommnaaT2
