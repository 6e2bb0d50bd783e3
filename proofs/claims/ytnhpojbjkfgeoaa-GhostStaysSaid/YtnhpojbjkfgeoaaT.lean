/-
  The trees of the program's functions, gathered.
-/
import Derived.Test.YtnhpojbjkfgeoaaT0
import Derived.Test.YtnhpojbjkfgeoaaT1
