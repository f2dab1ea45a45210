/- Types in memory: blocks known whole. -/
import Derived.Test.YtbdhihgokkcmfaaTy
import Derived.Test.YtbdhihgokkcmfaaMw
