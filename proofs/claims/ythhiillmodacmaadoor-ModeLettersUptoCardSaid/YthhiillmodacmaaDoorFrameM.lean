/- The frame of the laws of the modes: the table of the mode keys besides. -/
import Derived.Test.YthhiillmodacmaaDoorFrame
import Derived.Test.YthhiillmodacmaaDoorTog
namespace Go.Proofs.YthhiillmodacmaaDoor
open Go.ChangeShapes Go.WideShapes Go.ChangeAt Go.RowKit Go.Lib Go.Shelf
set_option linter.unusedSimpArgs false
set_option linter.unusedVariables false
set_option maxRecDepth 100000

theorem tog_is : (Rows.laid_henkan_mode_toggles : DataW Unit) = togData := by kernel_rfl
theorem envM_of {W : World} (hL : laidMetH Tryd.prog laidOf W) (hsh : W.ShapedOpen Tryd.prog) : EnvM W := by
  refine ⟨env_of hL hsh, togW_of ?_⟩
  rw [MakeChecks.laidMetH_plain _ _ _ laidOf_plain] at hL
  rw [← tog_is]
  exact laidMet.reads hL (by simp [laidOf])
end Go.Proofs.YthhiillmodacmaaDoor
