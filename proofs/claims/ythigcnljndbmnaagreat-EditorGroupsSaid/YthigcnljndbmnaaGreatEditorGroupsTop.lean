/-
  OWN WORK. EditorGroups: whatever the input, it answers true, and the input reads as it did. Conditions: none.
-/
import Derived.Test.YthigcnljndbmnaaGreatRows
import Derived.Test.YthigcnljndbmnaaGreatMgEditorGroupsB
import Derived.Test.YthigcnljndbmnaaGreatMgEditorGroupsJ
import Derived.OpenShut
import Derived.JoinedCond
namespace Go.Proofs.YthigcnljndbmnaaGreat.editorGroups
open Go.ChangeShapes Go.WideShapes Go.ChangeAt Go.RowKit Go.Sh
set_option linter.unusedVariables false

theorem own : ownKnob Tryz.prog.godebug = none := by kernel_rfl
theorem laidOut : laidOutB Tryz.prog = true := by kernel_rfl

end Go.Proofs.YthigcnljndbmnaaGreat.editorGroups
