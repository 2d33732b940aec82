/- Sets of points as digits in base 2, with what search brings. No condition. -/
import Derived.Test.YthadgdmooacccaaBits
import Derived.Test.YthadgdmooacccaaSearch
import Derived.Test.YthadgdmooacccaaFirst
