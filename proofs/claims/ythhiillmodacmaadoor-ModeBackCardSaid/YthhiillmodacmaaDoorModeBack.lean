/- Proved: henkanlaw07.ModeBack returns true for every number and every key: mode keys lead from modes to modes, back when pressed twice, and from each mode to each other one. No condition of ours. -/
import Derived.Test.YthhiillmodacmaaDoorFrameM
import Derived.Test.YthhiillmodacmaaDoorMode3
namespace Go.Proofs.YthhiillmodacmaaDoor
open Go.ChangeShapes Go.WideShapes Go.ChangeAt Go.RowKit Go.Lib Go.Shelf Hk
open Go.ChangeMaps (open_string shut_string)
set_option linter.unusedSimpArgs false
set_option linter.unusedVariables false
set_option maxRecDepth 100000

theorem toggle_range (m key : Int) (h1 : 1 ≤ m) (h5 : m ≤ 5) : 1 ≤ toggleD m key ∧ toggleD m key ≤ 5 := by
  unfold toggleD
  (repeat' split) <;> omega
theorem toggle_twice (m key : Int) (h1 : 1 ≤ m) (h5 : m ≤ 5) (hk : key ≠ 114) : toggleD (toggleD m key) key = m := by
  have hm : m = 1 ∨ m = 2 ∨ m = 3 ∨ m = 4 ∨ m = 5 := by omega
  by_cases k0 : key = 107
  · subst k0; rcases hm with rfl | rfl | rfl | rfl | rfl <;> rfl
  · by_cases k1 : key = 104
    · subst k1; rcases hm with rfl | rfl | rfl | rfl | rfl <;> rfl
    · by_cases k2 : key = 119
      · subst k2; rcases hm with rfl | rfl | rfl | rfl | rfl <;> rfl
      · have e : ∀ z, toggleD z key = z := fun z => by unfold toggleD; rw [if_neg k0, if_neg k1, if_neg k2, if_neg hk]
        rw [e, e]
set_option maxHeartbeats 2000000 in
theorem back1_calls (n : Nat) (key : Int) (w : World) (hn : n < 256) (hm : n % 5 = 0) (he : EnvM w) :
    Calls Tryd.prog 8 #[.int .u8 (n : Int), .int .u8 key] w fun e w' => e = .returned (.bool true) ∧ Below w.heap.size w w' := by
  have HE := Lib.hid he
  have CW := Lib.hid works_calls
  have hmi : (n : Int) % 5 = 0 := by omega
  have A1 := Lib.hid fun W (hW : EnvM W) => after_calls 1 ⟨#[114, 114]⟩ W (by decide) hW
  rw [show afterD 1 (⟨#[114, 114]⟩ : ByteArray).data.toList = 1 by decide +kernel] at A1
  have A2 := Lib.hid fun W (hW : EnvM W) => after_calls 1 ⟨#[114]⟩ W (by decide) hW
  rw [show afterD 1 (⟨#[114]⟩ : ByteArray).data.toList = 5 by decide +kernel] at A2
  have A4 := Lib.hid fun W (hW : EnvM W) => after_calls 5 ⟨#[114]⟩ W (by decide) hW
  rw [show afterD 5 (⟨#[114]⟩ : ByteArray).data.toList = 1 by decide +kernel] at A4
  have A5 := Lib.hid fun W (hW : EnvM W) => after_calls 5 ⟨#[114, 107]⟩ W (by decide) hW
  rw [show afterD 5 (⟨#[114, 107]⟩ : ByteArray).data.toList = 2 by decide +kernel] at A5
  have A6 := Lib.hid fun W (hW : EnvM W) => after_calls 5 ⟨#[114, 107, 104]⟩ W (by decide) hW
  rw [show afterD 5 (⟨#[114, 107, 104]⟩ : ByteArray).data.toList = 3 by decide +kernel] at A6
  have A7 := Lib.hid fun W (hW : EnvM W) => after_calls 5 ⟨#[119]⟩ W (by decide) hW
  rw [show afterD 5 (⟨#[119]⟩ : ByteArray).data.toList = 4 by decide +kernel] at A7
  have T1 := Lib.hid fun W (hW : EnvM W) => toggle_calls 1 key W hW.2
  have hto := toggle_range 1 key (by omega) (by omega)
  by_cases hk : key = 114
  · subst hk
    rw [show toggleD 1 114 = 5 from rfl] at T1
    clear he hto hm
    go_enter Tryd.func8, Tryd.ntmps8
    go_wp2_with fail
    refine (T1.out _ HE.out).mono ?_
    rintro e w1 ⟨rfl, hb1⟩
    go_wp2_with fail
    refine (A1.out _ (HE.out.below hb1)).mono ?_
    rintro e w2 ⟨rfl, hb2⟩
    replace hb2 := qtrans hb1 hb2
    clear hb1
    go_wp2_with fail
    refine (A2.out _ (HE.out.below hb2)).mono ?_
    rintro e w3 ⟨rfl, hb3⟩
    replace hb3 := qtrans hb2 hb3
    clear hb2
    go_wp2_with fail
    refine (A4.out _ (HE.out.below hb3)).mono ?_
    rintro e w4 ⟨rfl, hb4⟩
    replace hb4 := qtrans hb3 hb4
    clear hb3
    go_wp2_with fail
    refine (A5.out _ (HE.out.below hb4)).mono ?_
    rintro e w5 ⟨rfl, hb5⟩
    replace hb5 := qtrans hb4 hb5
    clear hb4
    go_wp2_with fail
    refine (A6.out _ (HE.out.below hb5)).mono ?_
    rintro e w6 ⟨rfl, hb6⟩
    replace hb6 := qtrans hb5 hb6
    clear hb5
    go_wp2_with fail
    refine (A7.out _ (HE.out.below hb6)).mono ?_
    rintro e w7 ⟨rfl, hb7⟩
    replace hb7 := qtrans hb6 hb7
    clear hb6
    go_wp2_with fail
    refine (CW.out _ (HE.out.below hb7)).mono ?_
    rintro e w8 ⟨rfl, hb8⟩
    replace hb8 := qtrans hb7 hb8
    clear hb7
    go_wp2_with fail
    go_ret
    exact ⟨rfl, hb8⟩
  · have qk : (key != 114) = true := by simpa using hk
    have T2 := Lib.hid fun W (hW : EnvM W) => toggle_calls (toggleD 1 key) key W hW.2
    rw [toggle_twice 1 key (by omega) (by omega) hk] at T2
    obtain ⟨t1, t2⟩ := hto
    generalize toggleD 1 key = tq at *
    clear he hm hk
    go_enter Tryd.func8, Tryd.ntmps8
    go_wp2_with fail
    refine (T1.out _ HE.out).mono ?_
    rintro e w1 ⟨rfl, hb1⟩
    go_wp2_with fail
    refine (T2.out _ (HE.out.below hb1)).mono ?_
    rintro e w2 ⟨rfl, hb2⟩
    replace hb2 := qtrans hb1 hb2
    clear hb1
    go_wp2_with fail
    refine (A1.out _ (HE.out.below hb2)).mono ?_
    rintro e w3 ⟨rfl, hb3⟩
    replace hb3 := qtrans hb2 hb3
    clear hb2
    go_wp2_with fail
    refine (A2.out _ (HE.out.below hb3)).mono ?_
    rintro e w4 ⟨rfl, hb4⟩
    replace hb4 := qtrans hb3 hb4
    clear hb3
    go_wp2_with fail
    refine (A4.out _ (HE.out.below hb4)).mono ?_
    rintro e w5 ⟨rfl, hb5⟩
    replace hb5 := qtrans hb4 hb5
    clear hb4
    go_wp2_with fail
    refine (A5.out _ (HE.out.below hb5)).mono ?_
    rintro e w6 ⟨rfl, hb6⟩
    replace hb6 := qtrans hb5 hb6
    clear hb5
    go_wp2_with fail
    refine (A6.out _ (HE.out.below hb6)).mono ?_
    rintro e w7 ⟨rfl, hb7⟩
    replace hb7 := qtrans hb6 hb7
    clear hb6
    go_wp2_with fail
    refine (A7.out _ (HE.out.below hb7)).mono ?_
    rintro e w8 ⟨rfl, hb8⟩
    replace hb8 := qtrans hb7 hb8
    clear hb7
    go_wp2_with fail
    refine (CW.out _ (HE.out.below hb8)).mono ?_
    rintro e w9 ⟨rfl, hb9⟩
    replace hb9 := qtrans hb8 hb9
    clear hb8
    go_wp2_with fail
    go_ret
    exact ⟨rfl, hb9⟩
set_option maxHeartbeats 2000000 in
theorem back2_calls (n : Nat) (key : Int) (w : World) (hn : n < 256) (hm : n % 5 = 1) (he : EnvM w) :
    Calls Tryd.prog 8 #[.int .u8 (n : Int), .int .u8 key] w fun e w' => e = .returned (.bool true) ∧ Below w.heap.size w w' := by
  have HE := Lib.hid he
  have CW := Lib.hid works_calls
  have hmi : (n : Int) % 5 = 1 := by omega
  have A1 := Lib.hid fun W (hW : EnvM W) => after_calls 2 ⟨#[114, 114]⟩ W (by decide) hW
  rw [show afterD 2 (⟨#[114, 114]⟩ : ByteArray).data.toList = 1 by decide +kernel] at A1
  have A2 := Lib.hid fun W (hW : EnvM W) => after_calls 2 ⟨#[114]⟩ W (by decide) hW
  rw [show afterD 2 (⟨#[114]⟩ : ByteArray).data.toList = 5 by decide +kernel] at A2
  have A4 := Lib.hid fun W (hW : EnvM W) => after_calls 5 ⟨#[114]⟩ W (by decide) hW
  rw [show afterD 5 (⟨#[114]⟩ : ByteArray).data.toList = 1 by decide +kernel] at A4
  have A5 := Lib.hid fun W (hW : EnvM W) => after_calls 5 ⟨#[114, 107]⟩ W (by decide) hW
  rw [show afterD 5 (⟨#[114, 107]⟩ : ByteArray).data.toList = 2 by decide +kernel] at A5
  have A6 := Lib.hid fun W (hW : EnvM W) => after_calls 5 ⟨#[114, 107, 104]⟩ W (by decide) hW
  rw [show afterD 5 (⟨#[114, 107, 104]⟩ : ByteArray).data.toList = 3 by decide +kernel] at A6
  have A7 := Lib.hid fun W (hW : EnvM W) => after_calls 5 ⟨#[119]⟩ W (by decide) hW
  rw [show afterD 5 (⟨#[119]⟩ : ByteArray).data.toList = 4 by decide +kernel] at A7
  have T1 := Lib.hid fun W (hW : EnvM W) => toggle_calls 2 key W hW.2
  have hto := toggle_range 2 key (by omega) (by omega)
  by_cases hk : key = 114
  · subst hk
    rw [show toggleD 2 114 = 5 from rfl] at T1
    clear he hto hm
    go_enter Tryd.func8, Tryd.ntmps8
    go_wp2_with fail
    refine (T1.out _ HE.out).mono ?_
    rintro e w1 ⟨rfl, hb1⟩
    go_wp2_with fail
    refine (A1.out _ (HE.out.below hb1)).mono ?_
    rintro e w2 ⟨rfl, hb2⟩
    replace hb2 := qtrans hb1 hb2
    clear hb1
    go_wp2_with fail
    refine (A2.out _ (HE.out.below hb2)).mono ?_
    rintro e w3 ⟨rfl, hb3⟩
    replace hb3 := qtrans hb2 hb3
    clear hb2
    go_wp2_with fail
    refine (A4.out _ (HE.out.below hb3)).mono ?_
    rintro e w4 ⟨rfl, hb4⟩
    replace hb4 := qtrans hb3 hb4
    clear hb3
    go_wp2_with fail
    refine (A5.out _ (HE.out.below hb4)).mono ?_
    rintro e w5 ⟨rfl, hb5⟩
    replace hb5 := qtrans hb4 hb5
    clear hb4
    go_wp2_with fail
    refine (A6.out _ (HE.out.below hb5)).mono ?_
    rintro e w6 ⟨rfl, hb6⟩
    replace hb6 := qtrans hb5 hb6
    clear hb5
    go_wp2_with fail
    refine (A7.out _ (HE.out.below hb6)).mono ?_
    rintro e w7 ⟨rfl, hb7⟩
    replace hb7 := qtrans hb6 hb7
    clear hb6
    go_wp2_with fail
    refine (CW.out _ (HE.out.below hb7)).mono ?_
    rintro e w8 ⟨rfl, hb8⟩
    replace hb8 := qtrans hb7 hb8
    clear hb7
    go_wp2_with fail
    go_ret
    exact ⟨rfl, hb8⟩
  · have qk : (key != 114) = true := by simpa using hk
    have T2 := Lib.hid fun W (hW : EnvM W) => toggle_calls (toggleD 2 key) key W hW.2
    rw [toggle_twice 2 key (by omega) (by omega) hk] at T2
    obtain ⟨t1, t2⟩ := hto
    generalize toggleD 2 key = tq at *
    clear he hm hk
    go_enter Tryd.func8, Tryd.ntmps8
    go_wp2_with fail
    refine (T1.out _ HE.out).mono ?_
    rintro e w1 ⟨rfl, hb1⟩
    go_wp2_with fail
    refine (T2.out _ (HE.out.below hb1)).mono ?_
    rintro e w2 ⟨rfl, hb2⟩
    replace hb2 := qtrans hb1 hb2
    clear hb1
    go_wp2_with fail
    refine (A1.out _ (HE.out.below hb2)).mono ?_
    rintro e w3 ⟨rfl, hb3⟩
    replace hb3 := qtrans hb2 hb3
    clear hb2
    go_wp2_with fail
    refine (A2.out _ (HE.out.below hb3)).mono ?_
    rintro e w4 ⟨rfl, hb4⟩
    replace hb4 := qtrans hb3 hb4
    clear hb3
    go_wp2_with fail
    refine (A4.out _ (HE.out.below hb4)).mono ?_
    rintro e w5 ⟨rfl, hb5⟩
    replace hb5 := qtrans hb4 hb5
    clear hb4
    go_wp2_with fail
    refine (A5.out _ (HE.out.below hb5)).mono ?_
    rintro e w6 ⟨rfl, hb6⟩
    replace hb6 := qtrans hb5 hb6
    clear hb5
    go_wp2_with fail
    refine (A6.out _ (HE.out.below hb6)).mono ?_
    rintro e w7 ⟨rfl, hb7⟩
    replace hb7 := qtrans hb6 hb7
    clear hb6
    go_wp2_with fail
    refine (A7.out _ (HE.out.below hb7)).mono ?_
    rintro e w8 ⟨rfl, hb8⟩
    replace hb8 := qtrans hb7 hb8
    clear hb7
    go_wp2_with fail
    refine (CW.out _ (HE.out.below hb8)).mono ?_
    rintro e w9 ⟨rfl, hb9⟩
    replace hb9 := qtrans hb8 hb9
    clear hb8
    go_wp2_with fail
    go_ret
    exact ⟨rfl, hb9⟩
set_option maxHeartbeats 2000000 in
theorem back3_calls (n : Nat) (key : Int) (w : World) (hn : n < 256) (hm : n % 5 = 2) (he : EnvM w) :
    Calls Tryd.prog 8 #[.int .u8 (n : Int), .int .u8 key] w fun e w' => e = .returned (.bool true) ∧ Below w.heap.size w w' := by
  have HE := Lib.hid he
  have CW := Lib.hid works_calls
  have hmi : (n : Int) % 5 = 2 := by omega
  have A1 := Lib.hid fun W (hW : EnvM W) => after_calls 3 ⟨#[114, 114]⟩ W (by decide) hW
  rw [show afterD 3 (⟨#[114, 114]⟩ : ByteArray).data.toList = 1 by decide +kernel] at A1
  have A2 := Lib.hid fun W (hW : EnvM W) => after_calls 3 ⟨#[114]⟩ W (by decide) hW
  rw [show afterD 3 (⟨#[114]⟩ : ByteArray).data.toList = 5 by decide +kernel] at A2
  have A4 := Lib.hid fun W (hW : EnvM W) => after_calls 5 ⟨#[114]⟩ W (by decide) hW
  rw [show afterD 5 (⟨#[114]⟩ : ByteArray).data.toList = 1 by decide +kernel] at A4
  have A5 := Lib.hid fun W (hW : EnvM W) => after_calls 5 ⟨#[114, 107]⟩ W (by decide) hW
  rw [show afterD 5 (⟨#[114, 107]⟩ : ByteArray).data.toList = 2 by decide +kernel] at A5
  have A6 := Lib.hid fun W (hW : EnvM W) => after_calls 5 ⟨#[114, 107, 104]⟩ W (by decide) hW
  rw [show afterD 5 (⟨#[114, 107, 104]⟩ : ByteArray).data.toList = 3 by decide +kernel] at A6
  have A7 := Lib.hid fun W (hW : EnvM W) => after_calls 5 ⟨#[119]⟩ W (by decide) hW
  rw [show afterD 5 (⟨#[119]⟩ : ByteArray).data.toList = 4 by decide +kernel] at A7
  have T1 := Lib.hid fun W (hW : EnvM W) => toggle_calls 3 key W hW.2
  have hto := toggle_range 3 key (by omega) (by omega)
  by_cases hk : key = 114
  · subst hk
    rw [show toggleD 3 114 = 5 from rfl] at T1
    clear he hto hm
    go_enter Tryd.func8, Tryd.ntmps8
    go_wp2_with fail
    refine (T1.out _ HE.out).mono ?_
    rintro e w1 ⟨rfl, hb1⟩
    go_wp2_with fail
    refine (A1.out _ (HE.out.below hb1)).mono ?_
    rintro e w2 ⟨rfl, hb2⟩
    replace hb2 := qtrans hb1 hb2
    clear hb1
    go_wp2_with fail
    refine (A2.out _ (HE.out.below hb2)).mono ?_
    rintro e w3 ⟨rfl, hb3⟩
    replace hb3 := qtrans hb2 hb3
    clear hb2
    go_wp2_with fail
    refine (A4.out _ (HE.out.below hb3)).mono ?_
    rintro e w4 ⟨rfl, hb4⟩
    replace hb4 := qtrans hb3 hb4
    clear hb3
    go_wp2_with fail
    refine (A5.out _ (HE.out.below hb4)).mono ?_
    rintro e w5 ⟨rfl, hb5⟩
    replace hb5 := qtrans hb4 hb5
    clear hb4
    go_wp2_with fail
    refine (A6.out _ (HE.out.below hb5)).mono ?_
    rintro e w6 ⟨rfl, hb6⟩
    replace hb6 := qtrans hb5 hb6
    clear hb5
    go_wp2_with fail
    refine (A7.out _ (HE.out.below hb6)).mono ?_
    rintro e w7 ⟨rfl, hb7⟩
    replace hb7 := qtrans hb6 hb7
    clear hb6
    go_wp2_with fail
    refine (CW.out _ (HE.out.below hb7)).mono ?_
    rintro e w8 ⟨rfl, hb8⟩
    replace hb8 := qtrans hb7 hb8
    clear hb7
    go_wp2_with fail
    go_ret
    exact ⟨rfl, hb8⟩
  · have qk : (key != 114) = true := by simpa using hk
    have T2 := Lib.hid fun W (hW : EnvM W) => toggle_calls (toggleD 3 key) key W hW.2
    rw [toggle_twice 3 key (by omega) (by omega) hk] at T2
    obtain ⟨t1, t2⟩ := hto
    generalize toggleD 3 key = tq at *
    clear he hm hk
    go_enter Tryd.func8, Tryd.ntmps8
    go_wp2_with fail
    refine (T1.out _ HE.out).mono ?_
    rintro e w1 ⟨rfl, hb1⟩
    go_wp2_with fail
    refine (T2.out _ (HE.out.below hb1)).mono ?_
    rintro e w2 ⟨rfl, hb2⟩
    replace hb2 := qtrans hb1 hb2
    clear hb1
    go_wp2_with fail
    refine (A1.out _ (HE.out.below hb2)).mono ?_
    rintro e w3 ⟨rfl, hb3⟩
    replace hb3 := qtrans hb2 hb3
    clear hb2
    go_wp2_with fail
    refine (A2.out _ (HE.out.below hb3)).mono ?_
    rintro e w4 ⟨rfl, hb4⟩
    replace hb4 := qtrans hb3 hb4
    clear hb3
    go_wp2_with fail
    refine (A4.out _ (HE.out.below hb4)).mono ?_
    rintro e w5 ⟨rfl, hb5⟩
    replace hb5 := qtrans hb4 hb5
    clear hb4
    go_wp2_with fail
    refine (A5.out _ (HE.out.below hb5)).mono ?_
    rintro e w6 ⟨rfl, hb6⟩
    replace hb6 := qtrans hb5 hb6
    clear hb5
    go_wp2_with fail
    refine (A6.out _ (HE.out.below hb6)).mono ?_
    rintro e w7 ⟨rfl, hb7⟩
    replace hb7 := qtrans hb6 hb7
    clear hb6
    go_wp2_with fail
    refine (A7.out _ (HE.out.below hb7)).mono ?_
    rintro e w8 ⟨rfl, hb8⟩
    replace hb8 := qtrans hb7 hb8
    clear hb7
    go_wp2_with fail
    refine (CW.out _ (HE.out.below hb8)).mono ?_
    rintro e w9 ⟨rfl, hb9⟩
    replace hb9 := qtrans hb8 hb9
    clear hb8
    go_wp2_with fail
    go_ret
    exact ⟨rfl, hb9⟩
set_option maxHeartbeats 2000000 in
theorem back4_calls (n : Nat) (key : Int) (w : World) (hn : n < 256) (hm : n % 5 = 3) (he : EnvM w) :
    Calls Tryd.prog 8 #[.int .u8 (n : Int), .int .u8 key] w fun e w' => e = .returned (.bool true) ∧ Below w.heap.size w w' := by
  have HE := Lib.hid he
  have CW := Lib.hid works_calls
  have hmi : (n : Int) % 5 = 3 := by omega
  have A1 := Lib.hid fun W (hW : EnvM W) => after_calls 4 ⟨#[114, 114]⟩ W (by decide) hW
  rw [show afterD 4 (⟨#[114, 114]⟩ : ByteArray).data.toList = 1 by decide +kernel] at A1
  have A2 := Lib.hid fun W (hW : EnvM W) => after_calls 4 ⟨#[114]⟩ W (by decide) hW
  rw [show afterD 4 (⟨#[114]⟩ : ByteArray).data.toList = 5 by decide +kernel] at A2
  have A4 := Lib.hid fun W (hW : EnvM W) => after_calls 5 ⟨#[114]⟩ W (by decide) hW
  rw [show afterD 5 (⟨#[114]⟩ : ByteArray).data.toList = 1 by decide +kernel] at A4
  have A5 := Lib.hid fun W (hW : EnvM W) => after_calls 5 ⟨#[114, 107]⟩ W (by decide) hW
  rw [show afterD 5 (⟨#[114, 107]⟩ : ByteArray).data.toList = 2 by decide +kernel] at A5
  have A6 := Lib.hid fun W (hW : EnvM W) => after_calls 5 ⟨#[114, 107, 104]⟩ W (by decide) hW
  rw [show afterD 5 (⟨#[114, 107, 104]⟩ : ByteArray).data.toList = 3 by decide +kernel] at A6
  have A7 := Lib.hid fun W (hW : EnvM W) => after_calls 5 ⟨#[119]⟩ W (by decide) hW
  rw [show afterD 5 (⟨#[119]⟩ : ByteArray).data.toList = 4 by decide +kernel] at A7
  have T1 := Lib.hid fun W (hW : EnvM W) => toggle_calls 4 key W hW.2
  have hto := toggle_range 4 key (by omega) (by omega)
  by_cases hk : key = 114
  · subst hk
    rw [show toggleD 4 114 = 5 from rfl] at T1
    clear he hto hm
    go_enter Tryd.func8, Tryd.ntmps8
    go_wp2_with fail
    refine (T1.out _ HE.out).mono ?_
    rintro e w1 ⟨rfl, hb1⟩
    go_wp2_with fail
    refine (A1.out _ (HE.out.below hb1)).mono ?_
    rintro e w2 ⟨rfl, hb2⟩
    replace hb2 := qtrans hb1 hb2
    clear hb1
    go_wp2_with fail
    refine (A2.out _ (HE.out.below hb2)).mono ?_
    rintro e w3 ⟨rfl, hb3⟩
    replace hb3 := qtrans hb2 hb3
    clear hb2
    go_wp2_with fail
    refine (A4.out _ (HE.out.below hb3)).mono ?_
    rintro e w4 ⟨rfl, hb4⟩
    replace hb4 := qtrans hb3 hb4
    clear hb3
    go_wp2_with fail
    refine (A5.out _ (HE.out.below hb4)).mono ?_
    rintro e w5 ⟨rfl, hb5⟩
    replace hb5 := qtrans hb4 hb5
    clear hb4
    go_wp2_with fail
    refine (A6.out _ (HE.out.below hb5)).mono ?_
    rintro e w6 ⟨rfl, hb6⟩
    replace hb6 := qtrans hb5 hb6
    clear hb5
    go_wp2_with fail
    refine (A7.out _ (HE.out.below hb6)).mono ?_
    rintro e w7 ⟨rfl, hb7⟩
    replace hb7 := qtrans hb6 hb7
    clear hb6
    go_wp2_with fail
    refine (CW.out _ (HE.out.below hb7)).mono ?_
    rintro e w8 ⟨rfl, hb8⟩
    replace hb8 := qtrans hb7 hb8
    clear hb7
    go_wp2_with fail
    go_ret
    exact ⟨rfl, hb8⟩
  · have qk : (key != 114) = true := by simpa using hk
    have T2 := Lib.hid fun W (hW : EnvM W) => toggle_calls (toggleD 4 key) key W hW.2
    rw [toggle_twice 4 key (by omega) (by omega) hk] at T2
    obtain ⟨t1, t2⟩ := hto
    generalize toggleD 4 key = tq at *
    clear he hm hk
    go_enter Tryd.func8, Tryd.ntmps8
    go_wp2_with fail
    refine (T1.out _ HE.out).mono ?_
    rintro e w1 ⟨rfl, hb1⟩
    go_wp2_with fail
    refine (T2.out _ (HE.out.below hb1)).mono ?_
    rintro e w2 ⟨rfl, hb2⟩
    replace hb2 := qtrans hb1 hb2
    clear hb1
    go_wp2_with fail
    refine (A1.out _ (HE.out.below hb2)).mono ?_
    rintro e w3 ⟨rfl, hb3⟩
    replace hb3 := qtrans hb2 hb3
    clear hb2
    go_wp2_with fail
    refine (A2.out _ (HE.out.below hb3)).mono ?_
    rintro e w4 ⟨rfl, hb4⟩
    replace hb4 := qtrans hb3 hb4
    clear hb3
    go_wp2_with fail
    refine (A4.out _ (HE.out.below hb4)).mono ?_
    rintro e w5 ⟨rfl, hb5⟩
    replace hb5 := qtrans hb4 hb5
    clear hb4
    go_wp2_with fail
    refine (A5.out _ (HE.out.below hb5)).mono ?_
    rintro e w6 ⟨rfl, hb6⟩
    replace hb6 := qtrans hb5 hb6
    clear hb5
    go_wp2_with fail
    refine (A6.out _ (HE.out.below hb6)).mono ?_
    rintro e w7 ⟨rfl, hb7⟩
    replace hb7 := qtrans hb6 hb7
    clear hb6
    go_wp2_with fail
    refine (A7.out _ (HE.out.below hb7)).mono ?_
    rintro e w8 ⟨rfl, hb8⟩
    replace hb8 := qtrans hb7 hb8
    clear hb7
    go_wp2_with fail
    refine (CW.out _ (HE.out.below hb8)).mono ?_
    rintro e w9 ⟨rfl, hb9⟩
    replace hb9 := qtrans hb8 hb9
    clear hb8
    go_wp2_with fail
    go_ret
    exact ⟨rfl, hb9⟩
set_option maxHeartbeats 2000000 in
theorem back5_calls (n : Nat) (key : Int) (w : World) (hn : n < 256) (hm : n % 5 = 4) (he : EnvM w) :
    Calls Tryd.prog 8 #[.int .u8 (n : Int), .int .u8 key] w fun e w' => e = .returned (.bool true) ∧ Below w.heap.size w w' := by
  have HE := Lib.hid he
  have CW := Lib.hid works_calls
  have hmi : (n : Int) % 5 = 4 := by omega
  have A1 := Lib.hid fun W (hW : EnvM W) => after_calls 5 ⟨#[114, 114]⟩ W (by decide) hW
  rw [show afterD 5 (⟨#[114, 114]⟩ : ByteArray).data.toList = 5 by decide +kernel] at A1
  have A2 := Lib.hid fun W (hW : EnvM W) => after_calls 5 ⟨#[114]⟩ W (by decide) hW
  rw [show afterD 5 (⟨#[114]⟩ : ByteArray).data.toList = 1 by decide +kernel] at A2
  have A3 := Lib.hid fun W (hW : EnvM W) => after_calls 1 ⟨#[114]⟩ W (by decide) hW
  rw [show afterD 1 (⟨#[114]⟩ : ByteArray).data.toList = 5 by decide +kernel] at A3
  have A4 := Lib.hid fun W (hW : EnvM W) => after_calls 5 ⟨#[114]⟩ W (by decide) hW
  rw [show afterD 5 (⟨#[114]⟩ : ByteArray).data.toList = 1 by decide +kernel] at A4
  have A5 := Lib.hid fun W (hW : EnvM W) => after_calls 5 ⟨#[114, 107]⟩ W (by decide) hW
  rw [show afterD 5 (⟨#[114, 107]⟩ : ByteArray).data.toList = 2 by decide +kernel] at A5
  have A6 := Lib.hid fun W (hW : EnvM W) => after_calls 5 ⟨#[114, 107, 104]⟩ W (by decide) hW
  rw [show afterD 5 (⟨#[114, 107, 104]⟩ : ByteArray).data.toList = 3 by decide +kernel] at A6
  have A7 := Lib.hid fun W (hW : EnvM W) => after_calls 5 ⟨#[119]⟩ W (by decide) hW
  rw [show afterD 5 (⟨#[119]⟩ : ByteArray).data.toList = 4 by decide +kernel] at A7
  have T1 := Lib.hid fun W (hW : EnvM W) => toggle_calls 5 key W hW.2
  have hto := toggle_range 5 key (by omega) (by omega)
  by_cases hk : key = 114
  · subst hk
    rw [show toggleD 5 114 = 1 from rfl] at T1
    clear he hto hm
    go_enter Tryd.func8, Tryd.ntmps8
    go_wp2_with fail
    refine (T1.out _ HE.out).mono ?_
    rintro e w1 ⟨rfl, hb1⟩
    go_wp2_with fail
    refine (A1.out _ (HE.out.below hb1)).mono ?_
    rintro e w2 ⟨rfl, hb2⟩
    replace hb2 := qtrans hb1 hb2
    clear hb1
    go_wp2_with fail
    refine (A2.out _ (HE.out.below hb2)).mono ?_
    rintro e w3 ⟨rfl, hb3⟩
    replace hb3 := qtrans hb2 hb3
    clear hb2
    go_wp2_with fail
    refine (A3.out _ (HE.out.below hb3)).mono ?_
    rintro e w4 ⟨rfl, hb4⟩
    replace hb4 := qtrans hb3 hb4
    clear hb3
    go_wp2_with fail
    refine (A4.out _ (HE.out.below hb4)).mono ?_
    rintro e w5 ⟨rfl, hb5⟩
    replace hb5 := qtrans hb4 hb5
    clear hb4
    go_wp2_with fail
    refine (A5.out _ (HE.out.below hb5)).mono ?_
    rintro e w6 ⟨rfl, hb6⟩
    replace hb6 := qtrans hb5 hb6
    clear hb5
    go_wp2_with fail
    refine (A6.out _ (HE.out.below hb6)).mono ?_
    rintro e w7 ⟨rfl, hb7⟩
    replace hb7 := qtrans hb6 hb7
    clear hb6
    go_wp2_with fail
    refine (A7.out _ (HE.out.below hb7)).mono ?_
    rintro e w8 ⟨rfl, hb8⟩
    replace hb8 := qtrans hb7 hb8
    clear hb7
    go_wp2_with fail
    refine (CW.out _ (HE.out.below hb8)).mono ?_
    rintro e w9 ⟨rfl, hb9⟩
    replace hb9 := qtrans hb8 hb9
    clear hb8
    go_wp2_with fail
    go_ret
    exact ⟨rfl, hb9⟩
  · have qk : (key != 114) = true := by simpa using hk
    have T2 := Lib.hid fun W (hW : EnvM W) => toggle_calls (toggleD 5 key) key W hW.2
    rw [toggle_twice 5 key (by omega) (by omega) hk] at T2
    obtain ⟨t1, t2⟩ := hto
    generalize toggleD 5 key = tq at *
    clear he hm hk
    go_enter Tryd.func8, Tryd.ntmps8
    go_wp2_with fail
    refine (T1.out _ HE.out).mono ?_
    rintro e w1 ⟨rfl, hb1⟩
    go_wp2_with fail
    refine (T2.out _ (HE.out.below hb1)).mono ?_
    rintro e w2 ⟨rfl, hb2⟩
    replace hb2 := qtrans hb1 hb2
    clear hb1
    go_wp2_with fail
    refine (A1.out _ (HE.out.below hb2)).mono ?_
    rintro e w3 ⟨rfl, hb3⟩
    replace hb3 := qtrans hb2 hb3
    clear hb2
    go_wp2_with fail
    refine (A2.out _ (HE.out.below hb3)).mono ?_
    rintro e w4 ⟨rfl, hb4⟩
    replace hb4 := qtrans hb3 hb4
    clear hb3
    go_wp2_with fail
    refine (A3.out _ (HE.out.below hb4)).mono ?_
    rintro e w5 ⟨rfl, hb5⟩
    replace hb5 := qtrans hb4 hb5
    clear hb4
    go_wp2_with fail
    refine (A4.out _ (HE.out.below hb5)).mono ?_
    rintro e w6 ⟨rfl, hb6⟩
    replace hb6 := qtrans hb5 hb6
    clear hb5
    go_wp2_with fail
    refine (A5.out _ (HE.out.below hb6)).mono ?_
    rintro e w7 ⟨rfl, hb7⟩
    replace hb7 := qtrans hb6 hb7
    clear hb6
    go_wp2_with fail
    refine (A6.out _ (HE.out.below hb7)).mono ?_
    rintro e w8 ⟨rfl, hb8⟩
    replace hb8 := qtrans hb7 hb8
    clear hb7
    go_wp2_with fail
    refine (A7.out _ (HE.out.below hb8)).mono ?_
    rintro e w9 ⟨rfl, hb9⟩
    replace hb9 := qtrans hb8 hb9
    clear hb8
    go_wp2_with fail
    refine (CW.out _ (HE.out.below hb9)).mono ?_
    rintro e w10 ⟨rfl, hb10⟩
    replace hb10 := qtrans hb9 hb10
    clear hb9
    go_wp2_with fail
    go_ret
    exact ⟨rfl, hb10⟩

theorem modeBack_calls (z key : Int) (w : World) (hz : (Lit.int .u8 z).wf = true) (hk : (Lit.int .u8 key).wf = true) (he : EnvM w) :
    Calls Tryd.prog 8 #[.int .u8 z, .int .u8 key] w fun e w' => e = .returned (.bool true) ∧ Below w.heap.size w w' := by
  obtain ⟨n, hn, rfl⟩ := u8_nat hz
  have hm : n % 5 = 0 ∨ n % 5 = 1 ∨ n % 5 = 2 ∨ n % 5 = 3 ∨ n % 5 = 4 := by omega
  rcases hm with h | h | h | h | h
  · exact back1_calls n key w hn h he
  · exact back2_calls n key w hn h he
  · exact back3_calls n key w hn h he
  · exact back4_calls n key w hn h he
  · exact back5_calls n key w hn h he

theorem modeBack_lifted (os : Os) (started : os.Started) (H : Type) (enc : TypeId × Value → H) :
    ReturnsInHanded {} Tryd.checked os 8 .any (fun w args => (Rows.modeBackSpec.pre enc Tryd.prog Tryd.f8 Rows.modeBackRow.domain false w args ∧ laidMetH Tryd.prog laidOf w) ∧ sizedMet enc Tryd.prog Tryd.f8 (OpenSpec.ofChange Rows.modeBackSpec) false w args)
      (Rows.modeBackSpec.post enc Tryd.prog Tryd.f8 false true false false) := by
  refine returns_shaped (C := Tryd.checked) (X := fun w _ => laidMetH Tryd.prog laidOf w) (fun _ _ _ hh h => h.of_heap hh) own started (by kernel_rfl) Tryd.func8
    (ChangeSpec.witness_shaped (enc := enc) (C := Tryd.checked) (os := os) (X := fun w _ => laidMetH Tryd.prog laidOf w) false (World.laidAll Tryd.prog os laidOf) #[.int .u8 0, .int .u8 0] 8 (World.laidAll_os _ _ _)
      (World.shaped_of_ZipB (by kernel_rfl) (by kernel_rfl)) (by kernel_rfl) (by kernel_rfl) (by kernel_rfl)
      (by rw [MakeChecks.laidMetH_plain _ _ _ laidOf_plain]; exact laidMet_laidAll _ (by kernel_rfl) (by kernel_rfl))) ?_
  intro W base args ds gs before hval0 hW hz hL hsh
  have hval : ∀ (j : Nat) t v, Tryd.f8.params[j]? = some t → args[j]? = some v → Value.okWide Tryd.prog W .any base t v := hval0
  have hW' := hW
  obtain ⟨p, q, hA0, hV, rfl, _, _⟩ := hW
  have hA : DataW.TrodAll enc Tryd.prog W 0 (fun _ => true) true Tryd.f8.params.toList args.toList ds p := hA0
  have hpar : Tryd.f8.params = #[5, 5] := by kernel_rfl
  rw [hpar] at hA hval
  obtain ⟨v0, v1, d0, d1, p0, p1, hargs, rfl, rfl, h0, h1⟩ := trodAll_two hA
  obtain rfl : args = #[v0, v1] := by first | exact hargs | (cases args; simp_all)
  obtain ⟨x0, rfl, rfl, rfl, w0⟩ := open_int Tryd.underlying5 (hval 0 5 v0 rfl rfl) h0
  obtain ⟨x1, rfl, rfl, rfl, w1⟩ := open_int Tryd.underlying5 (hval 1 5 v1 rfl rfl) h1
  refine (modeBack_calls x0 x1 W w0 w1 (envM_of hL hsh)).mono fun e W' ⟨he, hbl⟩ => ?_
  subst he
  exact ⟨_, rfl, law_post rfl rfl (by kernel_rfl) hW' rfl rfl rfl hbl⟩

theorem modeBack_row : Rows.ModeBackSaid :=
  OpenClaim.holds_of_wide 8 Tryd.f8 rfl rfl rfl rfl rfl rfl rfl ⟨rfl, rfl, rfl, rfl, rfl⟩ rfl rfl rfl rfl rfl (by kernel_rfl) Tryd.func8 (by kernel_rfl)
    (of_decide_eq_true (by kernel_rfl)) (by unfold Func.isWrapper; first | (rw [if_pos (by decide +kernel)]; kernel_rfl) | (rw [if_neg (by decide +kernel)]; exact ⟨rfl, rfl⟩))
    (fun os started H enc _ => modeBack_lifted os started H enc)
theorem modeBack_holds : Rows.ModeBackCardSaid :=
  Claim7.holds_tied_plain_at .later [] [.data, .data, .pinned] true Rows.modeBackCard.stood.harness false modeBack_row (fun _ h => by cases h) (by kernel_rfl) (fun _ h => by cases h) modeBack_row_tie rfl ⟨rfl, rfl⟩ (by kernel_rfl) rfl
    (fun f fn hf hfn => by
      obtain rfl : f = 8 := Option.some.inj ((show Tryd.prog.funcNamed Rows.modeBackRow.func = some 8 by kernel_rfl).symm.trans hf) |>.symm
      obtain rfl : fn = Tryd.f8 := (Option.some.inj (Tryd.func8.symm.trans hfn)).symm
      exact ⟨by kernel_rfl, fun j t ht => by
        have hpar : Tryd.f8.params = #[5, 5] := by kernel_rfl
        rw [hpar] at ht
        have hm : t ∈ [5, 5] := by simpa using Array.mem_of_getElem? ht
        have hall : ([5, 5].all fun u => !Tryd.prog.wantsStandIn u) = true := by kernel_rfl
        exact (show Tryd.prog.wantsStandIn t = false by simpa using List.all_eq_true.1 hall t hm)⟩)
    (by kernel_rfl)
#print axioms modeBack_holds
end Go.Proofs.YthhiillmodacmaaDoor
