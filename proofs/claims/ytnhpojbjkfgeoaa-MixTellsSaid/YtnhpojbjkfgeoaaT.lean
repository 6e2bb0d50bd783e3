import Derived.Test.YtnhpojbjkfgeoaaT0
import Derived.Test.YtnhpojbjkfgeoaaT1
