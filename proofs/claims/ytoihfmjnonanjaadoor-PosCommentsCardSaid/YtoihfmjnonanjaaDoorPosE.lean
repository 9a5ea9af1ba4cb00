/- What is needed of a world; what pos.named, pos.Find and the reference's Name and Find compute. -/
import Derived.Test.YtoihfmjnonanjaaDoorPosN
import Derived.Test.YtoihfmjnonanjaaDoorPosT
import Derived.Test.YtoihfmjnonanjaaDoorMem
import Derived.Test.YtoihfmjnonanjaaDoorShelf
import Derived.Deep.QuietTactic
import Derived.BigQuiet
import Derived.Deep.RegionWith
import Derived.Outline
import Derived.Lib.SmallJoins
import Derived.WalkLawsBesides
import Derived.WalkMore
namespace Go.Proofs.YtoihfmjnonanjaaDoor
open Go.RowKit Go.Lib Go.Shelf Hk
set_option linter.unusedSimpArgs false
set_option linter.unusedVariables false
set_option maxRecDepth 100000

/-- The words for the kinds lie in their variable. -/
def kindRow : Array Value := #[.string contentB, .string functionB, .string prefixB]
def KindsW (w : World) : Prop := ∃ t fr, w.heap[0]? = some (.cells kindRow t fr)
theorem KindsW.below {w w' : World} (h : KindsW w) (hb : Below w.heap.size w w') : KindsW w' := by
  obtain ⟨t, fr, hh⟩ := h
  exact ⟨t, fr, (hb.block _ (Array.getElem?_eq_some_iff.1 hh).1).trans hh⟩
theorem KindsW.cell {w : World} (h : KindsW w) (j : Nat) (hj : j < 3) : w.cell? ⟨0, 0 + j, none⟩ = some (.string (kindsL.getD j ByteArray.empty)) := by
  obtain ⟨t, fr, hh⟩ := h
  rw [Nat.zero_add, cell_of_row w _ j _ _ _ hh]
  have : j = 0 ∨ j = 1 ∨ j = 2 := by omega
  rcases this with rfl | rfl | rfl <;> rfl
def Env (w : World) : Prop := KindsW w ∧ ∃ m, w.cell? ⟨1, 0, none⟩ = some (.int .i64 m)
theorem Env.below {w w' : World} (h : Env w) (hb : Below w.heap.size w w') : Env w' := ⟨h.1.below hb, let ⟨m, hm⟩ := h.2; ⟨m, cell_later hb hm⟩⟩

/-- The literal that named hands over. -/
theorem bad_pred (w : World) : PredAt Tryd.prog 59 #[] encR badc w := fun W r _ => by
  unfold FnGives
  show Calls _ _ _ _ fun e w' => e = .returned (.bool (badc r)) ∧ _
  go_enter Tryd.func59, Tryd.ntmps59
  go_wp2_with fail
  all_goals
    go_ret
    refine ⟨ret_bool ?_, 0, rfl⟩
    unfold badc okc
    rw [Bool.eq_iff_iff]
    simp
    try omega
theorem containsBad_calls (s : ByteArray) (w : World) : Calls Tryd.prog 58 #[.string s, .func (.func 59) #[] #[]] w fun e w' => e = .returned (.bool (!(s.data.toList.all fun c => okc c.toNat))) ∧ Below w.heap.size w w' := by
  rw [← bad_any]
  exact Tryd.strings_ContainsFunc 59 #[] (enters_of Tryd.func59 (by kernel_rfl) rfl) _ s w (bad_pred w)

set_option maxHeartbeats 400000 in
theorem named_calls (s : ByteArray) (w : World) : Calls Tryd.prog 38 #[.string s] w fun e w' => e = .returned (.bool (nameD s)) ∧ Below w.heap.size w w' := by
  have hsz : s.data.toList.length = s.size := by simp
  by_cases h0 : s.size = 0
  · have HX : Hid (nameD s = false) := by
      show _ = _
      unfold nameD nameL
      rw [hsz, h0]
      rfl
    have e0 : s.data.toList = [] := List.eq_nil_of_length_eq_zero (by omega)
    have q : s.toList.isEmpty = true := by rw [ByteArray.toList_eq, e0]; rfl
    clear hsz h0 e0
    go_enter Tryd.func38, Tryd.ntmps38
    go_wp2_with fail
    go_ret
    exact ⟨ret_bool HX.out.symm, Below.refl _ _⟩
  · have q : s.toList.isEmpty = false := by
      rw [ByteArray.toList_eq]
      cases hl : s.data.toList with
      | nil => rw [hl] at hsz; simp at hsz; omega
      | cons c t => rfl
    by_cases h16 : s.size ≤ 16
    · have CB := Lib.hid (containsBad_calls s)
      have HX : Hid (nameD s = s.data.toList.all fun c => okc c.toNat) := by
        show _ = _
        unfold nameD nameL
        rw [hsz, decide_eq_true (by omega), decide_eq_true (by omega)]
        rfl
      clear hsz h0
      go_enter Tryd.func38, Tryd.ntmps38
      go_wp2_with fail
      refine (CB.out _).mono ?_
      rintro e w1 ⟨rfl, hb1⟩
      go_wp2_with fail
      go_ret
      exact ⟨ret_bool (by rw [HX.out]; simp), hb1⟩
    · have HX : Hid (nameD s = false) := by
        show _ = _
        unfold nameD nameL
        rw [hsz, decide_eq_false h16]
        simp
      have h17 : 16 < s.size := by omega
      clear hsz h0 h16
      go_enter Tryd.func38, Tryd.ntmps38
      go_wp2_with fail
      go_ret
      exact ⟨ret_bool HX.out.symm, Below.refl _ _⟩
end Go.Proofs.YtoihfmjnonanjaaDoor
