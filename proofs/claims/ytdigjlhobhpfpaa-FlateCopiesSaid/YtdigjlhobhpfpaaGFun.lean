/-
  The functions, all.
-/
import Derived.Test.YtdigjlhobhpfpaaGFunA
import Derived.Test.YtdigjlhobhpfpaaGFunB
