/- What stands under layer 1, gathered (for the seats without layer 4). -/
import Derived.Test.YtdlfmchpaohoaaaDoorBase
import Derived.Test.YtdlfmchpaohoaaaDoorLebGets
