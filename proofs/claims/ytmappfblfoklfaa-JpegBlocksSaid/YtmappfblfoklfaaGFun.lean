/-
  The functions, all.
-/
import Derived.Test.YtmappfblfoklfaaGFunA
import Derived.Test.YtmappfblfoklfaaGFunB
import Derived.Test.YtmappfblfoklfaaGFunC
import Derived.Test.YtmappfblfoklfaaGFunD
