/- The walk, whole. -/
import Derived.Test.YtcjaknnihjcajaaGreatF1
import Derived.Test.YtcjaknnihjcajaaGreatF2
import Derived.Test.YtcjaknnihjcajaaGreatF3
import Derived.Test.YtcjaknnihjcajaaGreatF4
import Derived.Test.YtcjaknnihjcajaaGreatF5
