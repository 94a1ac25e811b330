/- All printed functions of this seat. No condition. -/
import Derived.Test.YtibngikhlgmhaaaGx1
