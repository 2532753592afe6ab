/- What comes besides the texts that are packed. No condition. -/
import Derived.Test.YtkkmageogkkchaaGreatT1
import Derived.Test.YtkkmageogkkchaaGreatT2
import Derived.Test.YtkkmageogkkchaaGreatT3
import Derived.Test.YtkkmageogkkchaaGreatT4
import Derived.Test.YtkkmageogkkchaaGreatT5
import Derived.Test.YtkkmageogkkchaaGreatT6
import Derived.Test.YtkkmageogkkchaaGreatT7
import Derived.Test.YtkkmageogkkchaaGreatT8
import Derived.Test.YtkkmageogkkchaaGreatT9
import Derived.Test.YtkkmageogkkchaaGreatT10
import Derived.Test.YtkkmageogkkchaaGreatT11
import Derived.Test.YtkkmageogkkchaaGreatT12
import Derived.Test.YtkkmageogkkchaaGreatT13
import Derived.Test.YtkkmageogkkchaaGreatT14
import Derived.Test.YtkkmageogkkchaaGreatT15
import Derived.Test.YtkkmageogkkchaaGreatT16
import Derived.Test.YtkkmageogkkchaaGreatT17
import Derived.Test.YtkkmageogkkchaaGreatT18
import Derived.Test.YtkkmageogkkchaaGreatT19
import Derived.Test.YtkkmageogkkchaaGreatT20
import Derived.Test.YtkkmageogkkchaaGreatT21
import Derived.Test.YtkkmageogkkchaaGreatT22
import Derived.Test.YtkkmageogkkchaaGreatT23
import Derived.Test.YtkkmageogkkchaaGreatT24
set_option linter.unusedSimpArgs false
set_option linter.unusedVariables false
set_option maxHeartbeats 1000000

