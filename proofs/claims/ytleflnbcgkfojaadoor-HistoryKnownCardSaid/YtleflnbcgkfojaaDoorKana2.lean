/- What henkanref02.Reading computes. -/
import Derived.Test.YtleflnbcgkfojaaDoorKana1
namespace Go.Proofs.YtleflnbcgkfojaaDoor
open Go.RowKit Go.Lib Go.Shelf Hk
set_option linter.unusedSimpArgs false
set_option linter.unusedVariables false
set_option maxRecDepth 100000

set_option maxHeartbeats 1000000 in
theorem refReading_calls (s : ByteArray) (w : World) (hs : s.size ≤ 35184372088831) : Calls Tryd.prog 39 #[.string s] w fun e w' => e = .returned (.bool (readingD s.data.toList)) ∧ Below w.heap.size w w' := by
  have CR := Lib.hid (runes_calls s w hs)
  have CC := Lib.hid refClass_calls
  obtain ⟨x, hx⟩ : ∃ x, readingD s.data.toList = x := ⟨_, rfl⟩
  have HX := Lib.hid hx
  rw [hx]
  clear hx
  go_enter Tryd.func39, Tryd.ntmps39
  go_wp2_with fail
  refine CR.out.mono ?_
  rintro e w1 ⟨hb1, ⟨hD, rfl⟩ | ⟨rs, v, hD, rfl, ho⟩⟩
  · have HY : Hid (x = false) := by show _ = _; rw [← HX.out]; unfold readingD; rw [hD]
    clear hD
    go_wp2_with fail
    go_ret
    exact ⟨ret_bool HY.out.symm, hb1⟩
  · have HY : Hid (x = (decide (1 ≤ rs.length ∧ rs.length ≤ 64) && rs.all hiraD)) := by show _ = _; rw [← HX.out]; unfold readingD; rw [hD]
    clear HX
    have hl : rs.length ≤ s.size := by have := runesD_length _ _ _ (Nat.le_refl _) hD; simpa using this
    obtain ⟨A, c, rfl, _, _, hlies⟩ := own_lies ho
    clear hD ho
    by_cases h1 : 1 ≤ rs.length
    · by_cases h2 : rs.length ≤ 64
      · have HZ : Hid (x = rs.all hiraD) := by show _ = _; rw [HY.out]; simp [h1, h2]
        have g1 : decide ((rs.length : Int) < 1) = false := decide_eq_false (by omega)
        have g2 : decide ((64 : Int) < (rs.length : Int)) = false := decide_eq_false (by omega)
        have g3 : decide (rs.length < 1) = false := decide_eq_false (by omega)
        have g4 : decide (64 < rs.length) = false := decide_eq_false (by omega)
        have HL := Lib.hid hlies
        obtain ⟨n, hn⟩ : ∃ n, rs.length = n := ⟨_, rfl⟩
        have HN := Lib.hid hn
        rw [hn] at h1 h2 g1 g2 g3 g4 HL ⊢
        clear HY hlies hn hl
        go_wp2_with fail
        go_loop [5] (fun i => ∃ k : Nat, k ≤ n ∧ i = .int .i64 (k : Int) ∧ Hid ((rs.take k).all hiraD = true)) (fun i => n - (intOf i).toNat)
        case atStart => exact ⟨0, Nat.zero_le _, rfl, by show _ = _; simp⟩
        case round =>
          obtain ⟨k, hk, rfl, HA⟩ := hrel
          clear g1 g2 g3 g4
          by_cases hlt : k < n
          · obtain ⟨r, hr⟩ : ∃ r, rs[k]? = some r := ⟨_, List.getElem?_eq_getElem (by rw [HN.out]; exact hlt)⟩
            have hcell := HL.out.at1 hlt (u := .int .i32 (r : Int)) (by unfold runeCellsOf; rw [List.getElem?_map, hr]; rfl)
            obtain ⟨b, off, rfl, _, c0⟩ := hcell
            have hts : rs.take (k + 1) = rs.take k ++ [r] := by
              obtain ⟨hl2, e⟩ := List.getElem?_eq_some_iff.1 hr
              rw [List.take_succ_eq_append_getElem hl2, e]
            by_cases hh : hiraD r = true
            · have HA2 : Hid ((rs.take (k + 1)).all hiraD = true) := by
                show _ = _
                rw [hts, List.all_append, HA.out]
                simp [hh]
              by_cases h3 : classD (r : Int) = 1
              · have q : (classD (r : Int) != 1) = false := by simp [h3]
                clear h3 hts hr hh
                generalize hcl : classD (r : Int) = cl at *
                have HCL := Lib.hid hcl
                clear hcl
                go_wp2_with fail
                refine (CC.out _ _).mono ?_
                rintro e w2 ⟨rfl, rfl⟩
                rw [HCL.out]
                go_wp2_with fail
                go_round
                case rel => exact ⟨k + 1, by omega, by go_num, HA2⟩
                case measure => simp [intOf]; omega
              · have h4 : r = 12540 := by
                  rcases (hira_class r).2 hh with e | e
                  · exact absurd e h3
                  · exact e
                have q : (classD (r : Int) != 1) = true := by simpa using h3
                have q2 : ((r : Int) != 12540) = false := by rw [h4]; rfl
                clear h3 hts hr hh h4
                generalize hcl : classD (r : Int) = cl at *
                have HCL := Lib.hid hcl
                clear hcl
                go_wp2_with fail
                refine (CC.out _ _).mono ?_
                rintro e w2 ⟨rfl, rfl⟩
                rw [HCL.out]
                go_wp2_with fail
                go_round
                case rel => exact ⟨k + 1, by omega, by go_num, HA2⟩
                case measure => simp [intOf]; omega
            · have HF : Hid (x = false) := by
                show _ = _
                rw [HZ.out, List.all_eq_false]
                exact ⟨r, List.mem_of_getElem? hr, hh⟩
              have h5 : ¬ (classD (r : Int) = 1 ∨ r = 12540) := fun e => hh ((hira_class r).1 e)
              have q : (classD (r : Int) != 1) = true := by simp; exact fun e => h5 (.inl e)
              have q2 : ((r : Int) != 12540) = true := by simp; exact fun e => h5 (.inr (by omega))
              clear h5 hts hr hh
              generalize hcl : classD (r : Int) = cl at *
              have HCL := Lib.hid hcl
              clear hcl
              go_wp2_with fail
              refine (CC.out _ _).mono ?_
              rintro e w2 ⟨rfl, rfl⟩
              rw [HCL.out]
              go_wp2_with fail
              go_ret
              exact ⟨ret_bool HF.out.symm, hb1⟩
          · have HF : Hid (x = true) := by
              show _ = _
              rw [HZ.out]
              have := HA.out
              rwa [List.take_of_length_le (by rw [HN.out]; omega)] at this
            go_wp2_with fail
            go_ret
            exact ⟨ret_bool HF.out.symm, hb1⟩
      · have HZ : Hid (x = false) := by show _ = _; rw [HY.out]; simp [h2]
        have g1 : decide ((rs.length : Int) < 1) = false := decide_eq_false (by omega)
        have g2 : decide ((64 : Int) < (rs.length : Int)) = true := decide_eq_true (by omega)
        have g3 : decide (rs.length < 1) = false := decide_eq_false (by omega)
        have g4 : decide (64 < rs.length) = true := decide_eq_true (by omega)
        clear HY hlies
        generalize rs.length = n at *
        go_wp2_with fail
        go_ret
        exact ⟨ret_bool HZ.out.symm, hb1⟩
    · have HZ : Hid (x = false) := by show _ = _; rw [HY.out]; simp [h1]
      have g1 : decide ((rs.length : Int) < 1) = true := decide_eq_true (by omega)
      have g3 : decide (rs.length < 1) = true := decide_eq_true (by omega)
      clear HY hlies
      generalize rs.length = n at *
      go_wp2_with fail
      go_ret
      exact ⟨ret_bool HZ.out.symm, hb1⟩
end Go.Proofs.YtleflnbcgkfojaaDoor
