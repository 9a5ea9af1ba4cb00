/- What mode.Toggle, Roman, Show, Form, Char and the reference's compute. -/
import Derived.Test.YthhiillmodacmaaDoorTog
import Derived.Test.YthhiillmodacmaaDoorKanaX
import Derived.Test.YthhiillmodacmaaDoorKanaH
import Derived.Outline
namespace Go.Proofs.YthhiillmodacmaaDoor
open Go.RowKit Go.Lib Go.Shelf Hk
set_option linter.unusedSimpArgs false
set_option linter.unusedVariables false
set_option maxRecDepth 100000

def toggleD (m key : Int) : Int :=
  if key = 107 then (if m = 1 then 2 else if m = 2 then 1 else m) else if key = 104 then (if m = 2 then 3 else if m = 3 then 2 else m) else if key = 119 then (if m = 5 then 4 else if m = 4 then 5 else m)
  else if key = 114 then (if m = 5 then 1 else if 1 ≤ m ∧ m ≤ 4 then 5 else m) else m
/-- Key i does not change the mode. -/
def missB (m key : Int) (i : Nat) : Prop := key = togKey i → toggleD m key = m
theorem miss_all {m key : Int} (h : ∀ j, j < 4 → missB m key j) : toggleD m key = m := by
  have h0 := h 0 (by omega)
  have h1 := h 1 (by omega)
  have h2 := h 2 (by omega)
  have h3 := h 3 (by omega)
  simp only [missB, togKey] at h0 h1 h2 h3
  by_cases k0 : key = 107
  · exact h0 k0
  · by_cases k1 : key = 104
    · exact h1 k1
    · by_cases k2 : key = 119
      · exact h2 k2
      · by_cases k3 : key = 114
        · exact h3 k3
        · unfold toggleD; rw [if_neg k0, if_neg k1, if_neg k2, if_neg k3]
theorem togOut {m key : Int} (h : ¬ (0 < m ∧ m < 6)) : toggleD m key = m := by
  unfold toggleD
  (repeat' split) <;> omega
theorem tog_size : (Tryd.prog.info? 49).map (·.size) = some togRow.size := by kernel_rfl

set_option maxHeartbeats 8000000 in
theorem toggle_calls (m key : Int) (w : World) (ht : TogW w) : Calls Tryd.prog 20 #[.int .i64 m, .int .u8 key] w fun e w' => e = .returned (.int .i64 (toggleD m key)) ∧ Below w.heap.size w w' := by
  obtain ⟨t, fr, hh⟩ := ht
  have i0 : ∀ W, (Instr.index 49 (.agg togRow) (.int .i64 0)).run Tryd.prog W = .ok (.agg #[.int .u8 107, .int .i64 0, .int .i64 2, .int .i64 1, .int .i64 0, .int .i64 0, .int .i64 0]) W := fun _ => by kernel_rfl
  have i1 : ∀ W, (Instr.index 49 (.agg togRow) (.int .i64 1)).run Tryd.prog W = .ok (.agg #[.int .u8 104, .int .i64 0, .int .i64 0, .int .i64 3, .int .i64 2, .int .i64 0, .int .i64 0]) W := fun _ => by kernel_rfl
  have i2 : ∀ W, (Instr.index 49 (.agg togRow) (.int .i64 2)).run Tryd.prog W = .ok (.agg #[.int .u8 119, .int .i64 0, .int .i64 0, .int .i64 0, .int .i64 0, .int .i64 5, .int .i64 4]) W := fun _ => by kernel_rfl
  have i3 : ∀ W, (Instr.index 49 (.agg togRow) (.int .i64 3)).run Tryd.prog W = .ok (.agg #[.int .u8 114, .int .i64 0, .int .i64 5, .int .i64 5, .int .i64 5, .int .i64 5, .int .i64 1]) W := fun _ => by kernel_rfl
  go_enter Tryd.func20, Tryd.ntmps20
  go_wp2_with (refine wpList_load_row rfl 49 (.global 0) rfl 0 rfl t togRow fr _ hh Tryd.underlying49 rfl tog_size ?_)
  go_loopw [8] (fun i wr => ∃ k : Nat, k ≤ 4 ∧ i = .int .i64 (k : Int) ∧ Hid (∀ j, j < k → missB m key j) ∧ Below w.heap.size w wr) (fun i _ => 4 - (intOf i).toNat)
  case atStart => exact ⟨0, Nat.zero_le _, rfl, fun j hj => by omega, Below.refl _ _⟩
  case round =>
    obtain ⟨k, hk, rfl, HA, hbw⟩ := hrel
    by_cases hlt : k < 4
    · have hk3 : k = 0 ∨ k = 1 ∨ k = 2 ∨ k = 3 := by omega
      clear hlt hk hh
      rcases hk3 with rfl | rfl | rfl | rfl
      · have hbx := hbw.alloc hbw.size (.cells #[.int .u8 107, .int .i64 0, .int .i64 2, .int .i64 1, .int .i64 0, .int .i64 0, .int .i64 0] 48)
        by_cases hkey : key = 107
        · subst hkey
          by_cases hm : 0 < m ∧ m < 6
          · have hm5 : m = 1 ∨ m = 2 ∨ m = 3 ∨ m = 4 ∨ m = 5 := by omega
            clear hm
            rcases hm5 with rfl | rfl | rfl | rfl | rfl
            · go_wp2_with fail
              go_ret
              exact ⟨rfl, hbx⟩
            · go_wp2_with fail
              go_ret
              exact ⟨rfl, hbx⟩
            · have HMISS : Hid (∀ j, j < 1 → missB 3 107 j) := fun j hj => by
                by_cases e : j = 0
                · subst e; intro _; rfl
                · exact HA.out j (by omega)
              go_wp2_with fail
              go_roundw
              case rel => exact ⟨1, by omega, rfl, HMISS, hbx⟩
              case measure => simp [intOf]
            · have HMISS : Hid (∀ j, j < 1 → missB 4 107 j) := fun j hj => by
                by_cases e : j = 0
                · subst e; intro _; rfl
                · exact HA.out j (by omega)
              go_wp2_with fail
              go_roundw
              case rel => exact ⟨1, by omega, rfl, HMISS, hbx⟩
              case measure => simp [intOf]
            · have HMISS : Hid (∀ j, j < 1 → missB 5 107 j) := fun j hj => by
                by_cases e : j = 0
                · subst e; intro _; rfl
                · exact HA.out j (by omega)
              go_wp2_with fail
              go_roundw
              case rel => exact ⟨1, by omega, rfl, HMISS, hbx⟩
              case measure => simp [intOf]
          · have HMISS : Hid (∀ j, j < 1 → missB m 107 j) := fun j hj => by
              by_cases e : j = 0
              · subst e; intro _; exact togOut hm
              · exact HA.out j (by omega)
            by_cases h0 : 0 < m
            · have h6 : ¬ m < 6 := fun e => hm ⟨h0, e⟩
              clear hm
              go_wp2_with fail
              go_roundw
              case rel => exact ⟨1, by omega, rfl, HMISS, hbx⟩
              case measure => simp [intOf]
            · clear hm
              go_wp2_with fail
              go_roundw
              case rel => exact ⟨1, by omega, rfl, HMISS, hbx⟩
              case measure => simp [intOf]
        · have q : ((107 : Int) == key) = false := by rw [beq_eq_false_iff_ne]; exact fun e => hkey e.symm
          have HMISS : Hid (∀ j, j < 1 → missB m key j) := fun j hj => by
            by_cases e : j = 0
            · subst e; intro e; exact absurd e hkey
            · exact HA.out j (by omega)
          clear hkey
          go_wp2_with fail
          go_roundw
          case rel => exact ⟨1, by omega, rfl, HMISS, hbx⟩
          case measure => simp [intOf]
      · have hbx := hbw.alloc hbw.size (.cells #[.int .u8 104, .int .i64 0, .int .i64 0, .int .i64 3, .int .i64 2, .int .i64 0, .int .i64 0] 48)
        by_cases hkey : key = 104
        · subst hkey
          by_cases hm : 0 < m ∧ m < 6
          · have hm5 : m = 1 ∨ m = 2 ∨ m = 3 ∨ m = 4 ∨ m = 5 := by omega
            clear hm
            rcases hm5 with rfl | rfl | rfl | rfl | rfl
            · have HMISS : Hid (∀ j, j < 2 → missB 1 104 j) := fun j hj => by
                by_cases e : j = 1
                · subst e; intro _; rfl
                · exact HA.out j (by omega)
              go_wp2_with fail
              go_roundw
              case rel => exact ⟨2, by omega, rfl, HMISS, hbx⟩
              case measure => simp [intOf]
            · go_wp2_with fail
              go_ret
              exact ⟨rfl, hbx⟩
            · go_wp2_with fail
              go_ret
              exact ⟨rfl, hbx⟩
            · have HMISS : Hid (∀ j, j < 2 → missB 4 104 j) := fun j hj => by
                by_cases e : j = 1
                · subst e; intro _; rfl
                · exact HA.out j (by omega)
              go_wp2_with fail
              go_roundw
              case rel => exact ⟨2, by omega, rfl, HMISS, hbx⟩
              case measure => simp [intOf]
            · have HMISS : Hid (∀ j, j < 2 → missB 5 104 j) := fun j hj => by
                by_cases e : j = 1
                · subst e; intro _; rfl
                · exact HA.out j (by omega)
              go_wp2_with fail
              go_roundw
              case rel => exact ⟨2, by omega, rfl, HMISS, hbx⟩
              case measure => simp [intOf]
          · have HMISS : Hid (∀ j, j < 2 → missB m 104 j) := fun j hj => by
              by_cases e : j = 1
              · subst e; intro _; exact togOut hm
              · exact HA.out j (by omega)
            by_cases h0 : 0 < m
            · have h6 : ¬ m < 6 := fun e => hm ⟨h0, e⟩
              clear hm
              go_wp2_with fail
              go_roundw
              case rel => exact ⟨2, by omega, rfl, HMISS, hbx⟩
              case measure => simp [intOf]
            · clear hm
              go_wp2_with fail
              go_roundw
              case rel => exact ⟨2, by omega, rfl, HMISS, hbx⟩
              case measure => simp [intOf]
        · have q : ((104 : Int) == key) = false := by rw [beq_eq_false_iff_ne]; exact fun e => hkey e.symm
          have HMISS : Hid (∀ j, j < 2 → missB m key j) := fun j hj => by
            by_cases e : j = 1
            · subst e; intro e; exact absurd e hkey
            · exact HA.out j (by omega)
          clear hkey
          go_wp2_with fail
          go_roundw
          case rel => exact ⟨2, by omega, rfl, HMISS, hbx⟩
          case measure => simp [intOf]
      · have hbx := hbw.alloc hbw.size (.cells #[.int .u8 119, .int .i64 0, .int .i64 0, .int .i64 0, .int .i64 0, .int .i64 5, .int .i64 4] 48)
        by_cases hkey : key = 119
        · subst hkey
          by_cases hm : 0 < m ∧ m < 6
          · have hm5 : m = 1 ∨ m = 2 ∨ m = 3 ∨ m = 4 ∨ m = 5 := by omega
            clear hm
            rcases hm5 with rfl | rfl | rfl | rfl | rfl
            · have HMISS : Hid (∀ j, j < 3 → missB 1 119 j) := fun j hj => by
                by_cases e : j = 2
                · subst e; intro _; rfl
                · exact HA.out j (by omega)
              go_wp2_with fail
              go_roundw
              case rel => exact ⟨3, by omega, rfl, HMISS, hbx⟩
              case measure => simp [intOf]
            · have HMISS : Hid (∀ j, j < 3 → missB 2 119 j) := fun j hj => by
                by_cases e : j = 2
                · subst e; intro _; rfl
                · exact HA.out j (by omega)
              go_wp2_with fail
              go_roundw
              case rel => exact ⟨3, by omega, rfl, HMISS, hbx⟩
              case measure => simp [intOf]
            · have HMISS : Hid (∀ j, j < 3 → missB 3 119 j) := fun j hj => by
                by_cases e : j = 2
                · subst e; intro _; rfl
                · exact HA.out j (by omega)
              go_wp2_with fail
              go_roundw
              case rel => exact ⟨3, by omega, rfl, HMISS, hbx⟩
              case measure => simp [intOf]
            · go_wp2_with fail
              go_ret
              exact ⟨rfl, hbx⟩
            · go_wp2_with fail
              go_ret
              exact ⟨rfl, hbx⟩
          · have HMISS : Hid (∀ j, j < 3 → missB m 119 j) := fun j hj => by
              by_cases e : j = 2
              · subst e; intro _; exact togOut hm
              · exact HA.out j (by omega)
            by_cases h0 : 0 < m
            · have h6 : ¬ m < 6 := fun e => hm ⟨h0, e⟩
              clear hm
              go_wp2_with fail
              go_roundw
              case rel => exact ⟨3, by omega, rfl, HMISS, hbx⟩
              case measure => simp [intOf]
            · clear hm
              go_wp2_with fail
              go_roundw
              case rel => exact ⟨3, by omega, rfl, HMISS, hbx⟩
              case measure => simp [intOf]
        · have q : ((119 : Int) == key) = false := by rw [beq_eq_false_iff_ne]; exact fun e => hkey e.symm
          have HMISS : Hid (∀ j, j < 3 → missB m key j) := fun j hj => by
            by_cases e : j = 2
            · subst e; intro e; exact absurd e hkey
            · exact HA.out j (by omega)
          clear hkey
          go_wp2_with fail
          go_roundw
          case rel => exact ⟨3, by omega, rfl, HMISS, hbx⟩
          case measure => simp [intOf]
      · have hbx := hbw.alloc hbw.size (.cells #[.int .u8 114, .int .i64 0, .int .i64 5, .int .i64 5, .int .i64 5, .int .i64 5, .int .i64 1] 48)
        by_cases hkey : key = 114
        · subst hkey
          by_cases hm : 0 < m ∧ m < 6
          · have hm5 : m = 1 ∨ m = 2 ∨ m = 3 ∨ m = 4 ∨ m = 5 := by omega
            clear hm
            rcases hm5 with rfl | rfl | rfl | rfl | rfl
            · go_wp2_with fail
              go_ret
              exact ⟨rfl, hbx⟩
            · go_wp2_with fail
              go_ret
              exact ⟨rfl, hbx⟩
            · go_wp2_with fail
              go_ret
              exact ⟨rfl, hbx⟩
            · go_wp2_with fail
              go_ret
              exact ⟨rfl, hbx⟩
            · go_wp2_with fail
              go_ret
              exact ⟨rfl, hbx⟩
          · have HMISS : Hid (∀ j, j < 4 → missB m 114 j) := fun j hj => by
              by_cases e : j = 3
              · subst e; intro _; exact togOut hm
              · exact HA.out j (by omega)
            by_cases h0 : 0 < m
            · have h6 : ¬ m < 6 := fun e => hm ⟨h0, e⟩
              clear hm
              go_wp2_with fail
              go_roundw
              case rel => exact ⟨4, by omega, rfl, HMISS, hbx⟩
              case measure => simp [intOf]
            · clear hm
              go_wp2_with fail
              go_roundw
              case rel => exact ⟨4, by omega, rfl, HMISS, hbx⟩
              case measure => simp [intOf]
        · have q : ((114 : Int) == key) = false := by rw [beq_eq_false_iff_ne]; exact fun e => hkey e.symm
          have HMISS : Hid (∀ j, j < 4 → missB m key j) := fun j hj => by
            by_cases e : j = 3
            · subst e; intro e; exact absurd e hkey
            · exact HA.out j (by omega)
          clear hkey
          go_wp2_with fail
          go_roundw
          case rel => exact ⟨4, by omega, rfl, HMISS, hbx⟩
          case measure => simp [intOf]
    · obtain rfl : k = 4 := by omega
      have HF : Hid (toggleD m key = m) := miss_all HA.out
      clear hh
      go_wp2_with fail
      go_ret
      exact ⟨by rw [HF.out]; rfl, hbw⟩

set_option maxHeartbeats 4000000 in
theorem refToggle_calls (m key : Int) (w : World) : Calls Tryd.prog 21 #[.int .i64 m, .int .u8 key] w fun e w' => e = .returned (.int .i64 (toggleD m key)) ∧ w = w' := by
  by_cases k0 : key = 107
  · subst k0
    by_cases h1 : m = 1
    · subst h1
      have HX : Hid (toggleD 1 107 = 2) := rfl
      go_enter Tryd.func21, Tryd.ntmps21
      go_wp2_with fail
      go_ret
      exact ⟨by rw [HX.out]; rfl, rfl⟩
    · have q1 : (m == 1) = false := by simpa using h1
      by_cases h2 : m = 2
      · subst h2
        have HX : Hid (toggleD 2 107 = 1) := rfl
        clear h1
        go_enter Tryd.func21, Tryd.ntmps21
        go_wp2_with fail
        go_ret
        exact ⟨by rw [HX.out]; rfl, rfl⟩
      · have q2 : (m == 2) = false := by simpa using h2
        have HX : Hid (toggleD m 107 = m) := by show _ = _; unfold toggleD; simp [h1, h2]
        clear h1 h2
        go_enter Tryd.func21, Tryd.ntmps21
        go_wp2_with fail
        go_ret
        exact ⟨by rw [HX.out]; rfl, rfl⟩
  · have p0 : (key == 107) = false := by simpa using k0
    by_cases k1 : key = 104
    · subst k1
      by_cases h1 : m = 2
      · subst h1
        have HX : Hid (toggleD 2 104 = 3) := rfl
        go_enter Tryd.func21, Tryd.ntmps21
        go_wp2_with fail
        go_ret
        exact ⟨by rw [HX.out]; rfl, rfl⟩
      · have q1 : (m == 2) = false := by simpa using h1
        by_cases h2 : m = 3
        · subst h2
          have HX : Hid (toggleD 3 104 = 2) := rfl
          clear h1
          go_enter Tryd.func21, Tryd.ntmps21
          go_wp2_with fail
          go_ret
          exact ⟨by rw [HX.out]; rfl, rfl⟩
        · have q2 : (m == 3) = false := by simpa using h2
          have HX : Hid (toggleD m 104 = m) := by show _ = _; unfold toggleD; simp [h1, h2]
          clear h1 h2
          go_enter Tryd.func21, Tryd.ntmps21
          go_wp2_with fail
          go_ret
          exact ⟨by rw [HX.out]; rfl, rfl⟩
    · have p1 : (key == 104) = false := by simpa using k1
      by_cases k2 : key = 119
      · subst k2
        by_cases h1 : m = 5
        · subst h1
          have HX : Hid (toggleD 5 119 = 4) := rfl
          go_enter Tryd.func21, Tryd.ntmps21
          go_wp2_with fail
          go_ret
          exact ⟨by rw [HX.out]; rfl, rfl⟩
        · have q1 : (m == 5) = false := by simpa using h1
          by_cases h2 : m = 4
          · subst h2
            have HX : Hid (toggleD 4 119 = 5) := rfl
            clear h1
            go_enter Tryd.func21, Tryd.ntmps21
            go_wp2_with fail
            go_ret
            exact ⟨by rw [HX.out]; rfl, rfl⟩
          · have q2 : (m == 4) = false := by simpa using h2
            have HX : Hid (toggleD m 119 = m) := by show _ = _; unfold toggleD; simp [h1, h2]
            clear h1 h2
            go_enter Tryd.func21, Tryd.ntmps21
            go_wp2_with fail
            go_ret
            exact ⟨by rw [HX.out]; rfl, rfl⟩
      · have p2 : (key == 119) = false := by simpa using k2
        by_cases k3 : key = 114
        · subst k3
          by_cases h1 : m = 5
          · subst h1
            have HX : Hid (toggleD 5 114 = 1) := rfl
            go_enter Tryd.func21, Tryd.ntmps21
            go_wp2_with fail
            go_ret
            exact ⟨by rw [HX.out]; rfl, rfl⟩
          · have q1 : (m == 5) = false := by simpa using h1
            by_cases h2 : 1 ≤ m
            · by_cases h3 : m ≤ 4
              · have HX : Hid (toggleD m 114 = 5) := by show _ = _; unfold toggleD; simp [h1, h2, h3]
                have g1 : decide (1 ≤ m) = true := decide_eq_true h2
                have g2 : decide (m ≤ 4) = true := decide_eq_true h3
                clear h1
                go_enter Tryd.func21, Tryd.ntmps21
                go_wp2_with fail
                go_ret
                exact ⟨by rw [HX.out]; rfl, rfl⟩
              · have HX : Hid (toggleD m 114 = m) := by show _ = _; unfold toggleD; simp [h1, h3]
                have g1 : decide (1 ≤ m) = true := decide_eq_true h2
                have g2 : decide (m ≤ 4) = false := decide_eq_false h3
                clear h1
                go_enter Tryd.func21, Tryd.ntmps21
                go_wp2_with fail
                go_ret
                exact ⟨by rw [HX.out]; rfl, rfl⟩
            · have HX : Hid (toggleD m 114 = m) := by show _ = _; unfold toggleD; simp [h1, h2]
              have g1 : decide (1 ≤ m) = false := decide_eq_false h2
              clear h1
              go_enter Tryd.func21, Tryd.ntmps21
              go_wp2_with fail
              go_ret
              exact ⟨by rw [HX.out]; rfl, rfl⟩
        · have p3 : (key == 114) = false := by simpa using k3
          have HX : Hid (toggleD m key = m) := by show _ = _; unfold toggleD; simp [k0, k1, k2, k3]
          clear k0 k1 k2 k3
          go_enter Tryd.func21, Tryd.ntmps21
          go_wp2_with fail
          go_ret
          exact ⟨by rw [HX.out]; rfl, rfl⟩

def romanD (m : Int) : Bool := decide (1 ≤ m) && decide (m ≤ 3)
theorem roman_facts (m : Int) : (1 ≤ m ∧ m ≤ 3 ∧ romanD m = true) ∨ (1 ≤ m ∧ ¬ m ≤ 3 ∧ romanD m = false) ∨ (¬ 1 ≤ m ∧ romanD m = false) := by
  unfold romanD
  by_cases h1 : 1 ≤ m <;> by_cases h2 : m ≤ 3 <;> simp [h1, h2]
theorem roman_calls (m : Int) (w : World) : Calls Tryd.prog 18 #[.int .i64 m] w fun e w' => e = .returned (.bool (romanD m)) ∧ w = w' := by
  rcases roman_facts m with ⟨h1, h2, h⟩ | ⟨h1, h2, h⟩ | ⟨h1, h⟩
  · have HX := Lib.hid h
    have g1 : decide (1 ≤ m) = true := decide_eq_true h1
    have g2 : decide (m ≤ 3) = true := decide_eq_true h2
    clear h
    go_enter Tryd.func18, Tryd.ntmps18
    go_wp2_with fail
    go_ret
    exact ⟨by rw [HX.out]; rfl, rfl⟩
  · have HX := Lib.hid h
    have g1 : decide (1 ≤ m) = true := decide_eq_true h1
    have g2 : decide (m ≤ 3) = false := decide_eq_false h2
    clear h
    go_enter Tryd.func18, Tryd.ntmps18
    go_wp2_with fail
    go_ret
    exact ⟨by rw [HX.out]; rfl, rfl⟩
  · have HX := Lib.hid h
    have g1 : decide (1 ≤ m) = false := decide_eq_false h1
    clear h
    go_enter Tryd.func18, Tryd.ntmps18
    go_wp2_with fail
    go_ret
    exact ⟨by rw [HX.out]; rfl, rfl⟩
theorem refRoman_calls (m : Int) (w : World) : Calls Tryd.prog 19 #[.int .i64 m] w fun e w' => e = .returned (.bool (romanD m)) ∧ w = w' := by
  rcases roman_facts m with ⟨h1, h2, h⟩ | ⟨h1, h2, h⟩ | ⟨h1, h⟩
  · have HX := Lib.hid h
    have g1 : decide (1 ≤ m) = true := decide_eq_true h1
    have g2 : decide (m ≤ 3) = true := decide_eq_true h2
    clear h
    go_enter Tryd.func19, Tryd.ntmps19
    go_wp2_with fail
    go_ret
    exact ⟨by rw [HX.out]; rfl, rfl⟩
  · have HX := Lib.hid h
    have g1 : decide (1 ≤ m) = true := decide_eq_true h1
    have g2 : decide (m ≤ 3) = false := decide_eq_false h2
    clear h
    go_enter Tryd.func19, Tryd.ntmps19
    go_wp2_with fail
    go_ret
    exact ⟨by rw [HX.out]; rfl, rfl⟩
  · have HX := Lib.hid h
    have g1 : decide (1 ≤ m) = false := decide_eq_false h1
    clear h
    go_enter Tryd.func19, Tryd.ntmps19
    go_wp2_with fail
    go_ret
    exact ⟨by rw [HX.out]; rfl, rfl⟩
end Go.Proofs.YthhiillmodacmaaDoor
