/- All printed functions. -/
import Derived.Test.YtmbaennilhdieaaR35
