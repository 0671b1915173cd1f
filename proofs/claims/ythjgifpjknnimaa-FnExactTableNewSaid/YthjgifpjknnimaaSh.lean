/- Nothing is laid of the shelf in this seat. -/
import Derived.Test.YthjgifpjknnimaaProg
import Derived.Lib.AtoiAll
import Derived.Lib.Strings
