/- The library's variables, and utf.Valid. -/
import Derived.Test.YtleflnbcgkfojaaDoorRef2
import Derived.Test.YtleflnbcgkfojaaDoorText
import Derived.Test.YtleflnbcgkfojaaDoorShelf
import Derived.Deep.QuietTactic
import Derived.BigQuiet
import Derived.Deep.RegionWith
import Derived.Outline
import Derived.Lib.SmallJoins
namespace Go.Proofs.YtleflnbcgkfojaaDoor
open Go.RowKit Go.Lib Go.Shelf Hk
set_option linter.unusedSimpArgs false
set_option linter.unusedVariables false
set_option maxRecDepth 100000

/-- The library's variables are as the program's text lays them. -/
def Env (w : World) : Prop := Lib.Utf8Tabs 0 1 w ∧ ∃ m, w.cell? ⟨2, 0, none⟩ = some (.int .i64 m)
theorem Env.below {w w' : World} (h : Env w) (hb : Below w.heap.size w w') : Env w' := ⟨Utf8Tabs_below h.1 hb, let ⟨m, hm⟩ := h.2; ⟨m, cell_later hb hm⟩⟩


set_option maxHeartbeats 400000 in
theorem utfValid_calls (s : ByteArray) (w : World) (hs : s.size ≤ 9223372036854775807) (he : Env w) : Calls Tryd.prog 44 #[.string s] w fun e w' => e = .returned (.bool (validD s.data.toList)) ∧ Below w.heap.size w w' := by
  have hV := Lib.hid (Tryd.utf8_ValidString s w hs he.1)
  clear he
  go_enter Tryd.func44, Tryd.ntmps44
  go_wp2_with (go_at_call 41; refine hV.out.mono ?_; rintro e w' ⟨rfl, hb⟩)
  go_ret
  exact ⟨rfl, hb⟩
end Go.Proofs.YtleflnbcgkfojaaDoor
