/-
  The trees of the program's functions, gathered.
-/
import Derived.Test.YtefllmfoneocaaaT0
import Derived.Test.YtefllmfoneocaaaT1
import Derived.Test.YtefllmfoneocaaaT2
