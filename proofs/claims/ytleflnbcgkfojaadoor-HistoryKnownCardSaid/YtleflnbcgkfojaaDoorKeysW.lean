/- What the functions of the packages keys and henkanref30 compute. -/
import Derived.Test.YtleflnbcgkfojaaDoorEnv
import Derived.Test.YtleflnbcgkfojaaDoorKeysP
import Derived.Deep.QuietTactic
import Derived.BigQuiet
import Derived.Deep.RegionWith
import Derived.Outline
import Derived.Lib.SmallJoins
namespace Go.Proofs.YtleflnbcgkfojaaDoor
open Go.RowKit Go.Lib Go.Shelf Hk
set_option linter.unusedSimpArgs false
set_option linter.unusedVariables false
set_option maxRecDepth 100000

theorem zero_pred (w : World) : PredAt Tryd.prog 45 #[] encR (fun r => r == 0) w := fun W r _ => by
  unfold FnGives
  go_enter Tryd.func45, Tryd.ntmps45
  go_wp2
  go_ret
  refine ⟨?_, 0, rfl⟩
  have : ((r : Int) == 0) = (r == 0) := by rw [Bool.eq_iff_iff]; simp
  first | exact congrArg (fun b => Ending.returned (.bool b)) this | simp [this]

theorem containsZero_calls (s : ByteArray) (w : World) : Calls Tryd.prog 34 #[.string s, .func (.func 45) #[] #[]] w fun e w' => e = .returned (.bool (decide (0 ≤ Lib.idxFunc (fun r => r == 0) true s))) ∧ Below w.heap.size w w' :=
  Tryd.strings_ContainsFunc 45 #[] (enters_of Tryd.func45 (by kernel_rfl) rfl) _ s w (zero_pred w)

set_option maxHeartbeats 400000 in
theorem isPart_calls (s : ByteArray) (w : World) (hs : s.size ≤ 9223372036854775807) (he : Env w) : Calls Tryd.prog 37 #[.string s] w fun e w' => e = .returned (.bool (kpart s.data.toList)) ∧ Below w.heap.size w w' := by
  have hV := Lib.hid (utfValid_calls s w hs he)
  clear he
  by_cases h0' : s.data.toList = []
  · have HP : Hid (kpart s.data.toList = false) := by show _ = _; rw [h0']; rfl
    have h0 : s.toList = [] := by rw [ByteArray.toList_eq]; exact h0'
    have h1 : s.toList.isEmpty = true := by rw [h0]; rfl
    clear h0'
    go_enter Tryd.func37, Tryd.ntmps37
    go_wp2_with fail
    go_ret
    exact ⟨by rw [HP.out]; rfl, Below.refl _ _⟩
  · have h1' : s.data.toList.isEmpty = false := by simpa using h0'
    have h1 : s.toList.isEmpty = false := by rw [ByteArray.toList_eq]; exact h1'
    have h0 : ¬ s.toList = [] := by rw [ByteArray.toList_eq]; exact h0'
    cases hv : validD s.data.toList with
    | false =>
      have HP : Hid (kpart s.data.toList = false) := by show _ = _; simp [kpart, hv]
      rw [hv] at hV
      clear hv h0' h1'
      go_enter Tryd.func37, Tryd.ntmps37
      go_wp2_with (go_at_call 44; refine hV.out.mono ?_; rintro e w' ⟨rfl, hb⟩)
      go_ret
      exact ⟨by rw [HP.out]; rfl, hb⟩
    | true =>
      have HP : Hid (kpart s.data.toList = !decide (0 ≤ Lib.idxFunc (fun r => r == 0) true s)) := by
        obtain ⟨rs, hrs⟩ := Option.isSome_iff_exists.1 ((validD_eq s.data.toList).symm.trans hv)
        show _ = _
        rw [contains_any _ _ _ hrs, any_zero hrs]
        simp [kpart, hv, h1']
      rw [hv] at hV
      clear hv h0' h1'
      go_enter Tryd.func37, Tryd.ntmps37
      go_wp2_with (first | (go_at_call 44; refine hV.out.mono ?_; rintro e w' ⟨rfl, hb⟩) | (go_at_call 34; refine (containsZero_calls s _).mono ?_; rintro e w2 ⟨rfl, hb2⟩))
      go_ret
      exact ⟨by rw [HP.out]; rfl, qtrans hb hb2⟩
end Go.Proofs.YtleflnbcgkfojaaDoor
