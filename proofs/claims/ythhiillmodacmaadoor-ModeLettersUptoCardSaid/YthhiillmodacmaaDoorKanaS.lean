/- What kana.Hira, Kata, Wide and Narrow compute. -/
import Derived.Test.YthhiillmodacmaaDoorKanaE
import Derived.Test.YthhiillmodacmaaDoorKana1
namespace Go.Proofs.YthhiillmodacmaaDoor
open Go.RowKit Go.Lib Go.Shelf Hk
set_option linter.unusedSimpArgs false
set_option linter.unusedVariables false
set_option maxRecDepth 100000

theorem ret_bs {a b : ByteArray} (h : a = b) : Ending.returned (.string a) = .returned (.string b) := by rw [h]
theorem ret_i32 {a b : Int} (h : a = b) : Ending.returned (.int .i32 a) = .returned (.int .i32 b) := by rw [h]

theorem class_hira (r : Nat) : (classD (r : Int) == 1) = decide (12353 ≤ r ∧ r ≤ 12438) := by
  unfold classD
  by_cases h : 12353 ≤ r ∧ r ≤ 12438
  · rw [if_pos (by omega), decide_eq_true h]; rfl
  · rw [if_neg (by omega), decide_eq_false h]
    (repeat' split) <;> rfl
theorem class_kata (r : Nat) : (classD (r : Int) == 2) = decide ((12449 ≤ r ∧ r ≤ 12534) ∨ r = 12540) := by
  unfold classD
  by_cases h : (12449 ≤ r ∧ r ≤ 12534) ∨ r = 12540
  · rw [if_neg (by omega), if_pos (by omega), decide_eq_true h]; rfl
  · rw [decide_eq_false h]
    by_cases h0 : 12353 ≤ (r : Int) ∧ (r : Int) ≤ 12438
    · rw [if_pos h0]; rfl
    · rw [if_neg h0, if_neg (by omega)]
      (repeat' split) <;> rfl
theorem class_wide (r : Nat) : (classD (r : Int) == 4) = decide ((65281 ≤ r ∧ r ≤ 65374) ∨ r = 12288) := by
  unfold classD
  by_cases h : (65281 ≤ r ∧ r ≤ 65374) ∨ r = 12288
  · rw [if_neg (by omega), if_neg (by omega), if_neg (by omega), if_pos (by omega), decide_eq_true h]; rfl
  · rw [decide_eq_false h]
    (repeat' split) <;> first | rfl | (exfalso; omega)
theorem class_ascii (r : Nat) : (classD (r : Int) == 5) = decide (32 ≤ r ∧ r ≤ 126) := by
  unfold classD
  by_cases h : 32 ≤ r ∧ r ≤ 126
  · rw [if_neg (by omega), if_neg (by omega), if_neg (by omega), if_neg (by omega), if_pos (by omega), decide_eq_true h]; rfl
  · rw [decide_eq_false h]
    (repeat' split) <;> first | rfl | (exfalso; omega)

theorem map_hira (w : World) : MapAtRunes Tryd.prog 49 #[] (fun c => (hiraC c.toNat : Int)) w := fun W r hr _ => by
  unfold FnGives
  show Calls _ _ _ _ fun e w' => e = .returned (.int .i32 (hiraC ((r : Int).toNat) : Int)) ∧ _
  rw [Int.toNat_natCast]
  have CC := Lib.hid class_calls
  have q := class_kata r
  by_cases h1 : 12449 ≤ r ∧ r ≤ 12534
  · have HX : Hid (hiraC r = r - 96) := by show _ = _; unfold hiraC; rw [if_pos h1]
    rw [decide_eq_true (.inl h1)] at q
    have q2 : ((r : Int) != 12540) = true := by simp; omega
    obtain ⟨l1, l2⟩ := h1
    go_enter Tryd.func49, Tryd.ntmps49
    go_wp2_with fail
    refine (CC.out _ _).mono ?_
    rintro e w1 ⟨rfl, rfl⟩
    go_wp2_with fail
    go_ret
    exact ⟨by rw [HX.out]; exact ret_i32 (by omega), 0, rfl⟩
  · have HX : Hid (hiraC r = r) := by show _ = _; unfold hiraC; rw [if_neg h1]
    by_cases h2 : r = 12540
    · rw [decide_eq_true (.inr h2)] at q
      have q2 : ((r : Int) != 12540) = false := by simp; omega
      clear h1 h2
      go_enter Tryd.func49, Tryd.ntmps49
      go_wp2_with fail
      refine (CC.out _ _).mono ?_
      rintro e w1 ⟨rfl, rfl⟩
      go_wp2_with fail
      go_ret
      exact ⟨by rw [HX.out]; rfl, 0, rfl⟩
    · rw [decide_eq_false (by omega)] at q
      clear h1 h2
      go_enter Tryd.func49, Tryd.ntmps49
      go_wp2_with fail
      refine (CC.out _ _).mono ?_
      rintro e w1 ⟨rfl, rfl⟩
      go_wp2_with fail
      go_ret
      exact ⟨by rw [HX.out]; rfl, 0, rfl⟩

theorem katakana_calls (r : Nat) (w : World) (hr : r ≤ 1114111) : Calls Tryd.prog 36 #[.int .i32 (r : Int)] w fun e w' => e = .returned (.int .i32 (kataC r : Int)) ∧ w = w' := by
  have CC := Lib.hid class_calls
  have q := class_hira r
  by_cases h1 : 12353 ≤ r ∧ r ≤ 12438
  · have HX : Hid (kataC r = r + 96) := by show _ = _; unfold kataC; rw [if_pos h1]
    rw [decide_eq_true h1] at q
    obtain ⟨l1, l2⟩ := h1
    go_enter Tryd.func36, Tryd.ntmps36
    go_wp2_with fail
    refine (CC.out _ _).mono ?_
    rintro e w1 ⟨rfl, rfl⟩
    go_wp2_with fail
    go_ret
    exact ⟨by rw [HX.out]; exact ret_i32 (by omega), rfl⟩
  · have HX : Hid (kataC r = r) := by show _ = _; unfold kataC; rw [if_neg h1]
    rw [decide_eq_false h1] at q
    clear h1
    go_enter Tryd.func36, Tryd.ntmps36
    go_wp2_with fail
    refine (CC.out _ _).mono ?_
    rintro e w1 ⟨rfl, rfl⟩
    go_wp2_with fail
    go_ret
    exact ⟨by rw [HX.out]; rfl, rfl⟩
theorem map_kata (w : World) : MapAtRunes Tryd.prog 36 #[] (fun c => (kataC c.toNat : Int)) w := fun W r hr _ => by
  unfold FnGives
  show Calls _ _ _ _ fun e w' => e = .returned (.int .i32 (kataC ((r : Int).toNat) : Int)) ∧ _
  rw [Int.toNat_natCast]
  refine (katakana_calls r W hr).mono ?_
  rintro e w1 ⟨rfl, rfl⟩
  exact ⟨rfl, 0, rfl⟩

theorem map_wide (w : World) : MapAtRunes Tryd.prog 50 #[] (fun c => (wideC c.toNat : Int)) w := fun W r hr _ => by
  unfold FnGives
  show Calls _ _ _ _ fun e w' => e = .returned (.int .i32 (wideC ((r : Int).toNat) : Int)) ∧ _
  rw [Int.toNat_natCast]
  have CC := Lib.hid class_calls
  have q := class_ascii r
  by_cases h1 : r = 32
  · have HX : Hid (wideC r = 12288) := by show _ = _; unfold wideC; rw [if_pos h1]
    have q2 : ((r : Int) == 32) = true := by simp; omega
    clear q h1
    go_enter Tryd.func50, Tryd.ntmps50
    go_wp2_with fail
    go_ret
    exact ⟨by rw [HX.out]; rfl, 0, rfl⟩
  · have q2 : ((r : Int) == 32) = false := by simp; omega
    by_cases h2 : 33 ≤ r ∧ r ≤ 126
    · have HX : Hid (wideC r = r + 65248) := by show _ = _; unfold wideC; rw [if_neg h1, if_pos h2]
      rw [decide_eq_true (by omega)] at q
      obtain ⟨l1, l2⟩ := h2
      clear h1
      go_enter Tryd.func50, Tryd.ntmps50
      go_wp2_with fail
      refine (CC.out _ _).mono ?_
      rintro e w1 ⟨rfl, rfl⟩
      go_wp2_with fail
      go_ret
      exact ⟨by rw [HX.out]; exact ret_i32 (by omega), 0, rfl⟩
    · have HX : Hid (wideC r = r) := by show _ = _; unfold wideC; rw [if_neg h1, if_neg h2]
      rw [decide_eq_false (by omega)] at q
      clear h1 h2
      go_enter Tryd.func50, Tryd.ntmps50
      go_wp2_with fail
      refine (CC.out _ _).mono ?_
      rintro e w1 ⟨rfl, rfl⟩
      go_wp2_with fail
      go_ret
      exact ⟨by rw [HX.out]; rfl, 0, rfl⟩

theorem map_narrow (w : World) : MapAtRunes Tryd.prog 43 #[] (fun c => (narrowC c.toNat : Int)) w := fun W r hr _ => by
  unfold FnGives
  show Calls _ _ _ _ fun e w' => e = .returned (.int .i32 (narrowC ((r : Int).toNat) : Int)) ∧ _
  rw [Int.toNat_natCast]
  have CC := Lib.hid class_calls
  have q := class_wide r
  by_cases h1 : r = 12288
  · have HX : Hid (narrowC r = 32) := by show _ = _; unfold narrowC; rw [if_pos h1]
    have q2 : ((r : Int) == 12288) = true := by simp; omega
    clear q h1
    go_enter Tryd.func43, Tryd.ntmps43
    go_wp2_with fail
    go_ret
    exact ⟨by rw [HX.out]; rfl, 0, rfl⟩
  · have q2 : ((r : Int) == 12288) = false := by simp; omega
    by_cases h2 : 65281 ≤ r ∧ r ≤ 65374
    · have HX : Hid (narrowC r = r - 65248) := by show _ = _; unfold narrowC; rw [if_neg h1, if_pos h2]
      rw [decide_eq_true (.inl h2)] at q
      obtain ⟨l1, l2⟩ := h2
      clear h1
      go_enter Tryd.func43, Tryd.ntmps43
      go_wp2_with fail
      refine (CC.out _ _).mono ?_
      rintro e w1 ⟨rfl, rfl⟩
      go_wp2_with fail
      go_ret
      exact ⟨by rw [HX.out]; exact ret_i32 (by omega), 0, rfl⟩
    · have HX : Hid (narrowC r = r) := by show _ = _; unfold narrowC; rw [if_neg h1, if_neg h2]
      rw [decide_eq_false (by omega)] at q
      clear h1 h2
      go_enter Tryd.func43, Tryd.ntmps43
      go_wp2_with fail
      refine (CC.out _ _).mono ?_
      rintro e w1 ⟨rfl, rfl⟩
      go_wp2_with fail
      go_ret
      exact ⟨by rw [HX.out]; rfl, 0, rfl⟩

theorem lt_small {f : Nat → Nat} (hf : ∀ x, x ≤ 1114111 → f x ≤ 1114111) (x : Nat) (hx : x ≤ 1114111) : 0 ≤ ((f ((x : Int).toNat) : Nat) : Int) ∧ ((f ((x : Int).toNat) : Nat) : Int) ≤ 2147483647 := by
  rw [Int.toNat_natCast]
  have := hf x hx
  omega

set_option maxHeartbeats 400000 in
theorem each_calls (g : Nat) (hg : ∀ args w, (callFunc g args).run Tryd.prog w = .ok (.enter g args) w) (f : Nat → Nat) (hf : ∀ x, x ≤ 1114111 → f x ≤ 1114111) (hm : ∀ W, MapAtRunes Tryd.prog g #[] (fun c => (f c.toNat : Int)) W)
    (s : ByteArray) (w : World) (hs : s.size ≤ 16777216) (he : Env w) : Calls Tryd.prog 35 #[.string s, .func (.func g) #[] #[]] w fun e w' => e = .returned (.string (strB (List.map f) s)) ∧ Below w.heap.size w w' := by
  have CV := Lib.hid (utfValid_calls s w (by omega) he)
  have HE := Lib.hid he
  clear he
  cases hr : runesD s.data.toList with
  | none =>
    have HX : Hid (strB (List.map f) s = s) := strB_none hr
    rw [validD_eq, hr] at CV
    simp only [Option.isSome_none] at CV
    clear hr
    go_enter Tryd.func35, Tryd.ntmps35
    go_wp2_with fail
    refine CV.out.mono ?_
    rintro e w1 ⟨rfl, hb1⟩
    go_wp2_with fail
    go_ret
    exact ⟨by rw [HX.out]; rfl, hb1⟩
  | some rs =>
    have HX : Hid (strB (List.map f) s = ⟨(mapD (fun c => (f c.toNat : Int)) s.data.toList).toArray⟩) := by
      show _ = _
      rw [strB_some hr]
      have e1 := enc_of hr
      rw [e1, mapD_enc (fun c => (f c.toNat : Int)) f rs (runesD_are hr) (fun r _ => by simp)]
      rfl
    have CM := Lib.hid fun W (hW : Env W) => Tryd.strings_Map_runes g #[] hg (fun c => (f c.toNat : Int)) s W (by omega) (hm W) (lt_small hf) hW.1
    rw [validD_eq, hr] at CV
    simp only [Option.isSome_some] at CV
    clear hr
    go_enter Tryd.func35, Tryd.ntmps35
    go_wp2_with fail
    refine CV.out.mono ?_
    rintro e w1 ⟨rfl, hb1⟩
    go_wp2_with fail
    refine (CM.out _ (HE.out.below hb1)).mono ?_
    rintro e w2 ⟨rfl, hb2⟩
    go_wp2_with fail
    go_ret
    exact ⟨by rw [HX.out]; rfl, qtrans hb1 hb2⟩

theorem hira_small (x : Nat) (h : x ≤ 1114111) : hiraC x ≤ 1114111 := by unfold hiraC; split <;> omega
theorem kata_small (x : Nat) (h : x ≤ 1114111) : kataC x ≤ 1114111 := by unfold kataC; split <;> omega
theorem wide_small (x : Nat) (h : x ≤ 1114111) : wideC x ≤ 1114111 := by unfold wideC; (repeat' split) <;> omega
theorem narrow_small (x : Nat) (h : x ≤ 1114111) : narrowC x ≤ 1114111 := by unfold narrowC; (repeat' split) <;> omega

theorem hira_calls (s : ByteArray) (w : World) (hs : s.size ≤ 16777216) (he : Env w) : Calls Tryd.prog 28 #[.string s] w fun e w' => e = .returned (.string (hiraS s)) ∧ Below w.heap.size w w' := by
  have CE := Lib.hid (each_calls 49 (enters_of Tryd.func49 (by kernel_rfl) rfl) hiraC hira_small map_hira s w hs he)
  clear he
  go_enter Tryd.func28, Tryd.ntmps28
  go_wp2_with fail
  refine CE.out.mono ?_
  rintro e w1 ⟨rfl, hb1⟩
  go_wp2_with fail
  go_ret
  exact ⟨rfl, hb1⟩
theorem kata_calls (s : ByteArray) (w : World) (hs : s.size ≤ 16777216) (he : Env w) : Calls Tryd.prog 15 #[.string s] w fun e w' => e = .returned (.string (kataS s)) ∧ Below w.heap.size w w' := by
  have CE := Lib.hid (each_calls 36 (enters_of Tryd.func36 (by kernel_rfl) rfl) kataC kata_small map_kata s w hs he)
  clear he
  go_enter Tryd.func15, Tryd.ntmps15
  go_wp2_with fail
  refine CE.out.mono ?_
  rintro e w1 ⟨rfl, hb1⟩
  go_wp2_with fail
  go_ret
  exact ⟨rfl, hb1⟩
theorem wide_calls (s : ByteArray) (w : World) (hs : s.size ≤ 16777216) (he : Env w) : Calls Tryd.prog 30 #[.string s] w fun e w' => e = .returned (.string (wideS s)) ∧ Below w.heap.size w w' := by
  have CE := Lib.hid (each_calls 50 (enters_of Tryd.func50 (by kernel_rfl) rfl) wideC wide_small map_wide s w hs he)
  clear he
  go_enter Tryd.func30, Tryd.ntmps30
  go_wp2_with fail
  refine CE.out.mono ?_
  rintro e w1 ⟨rfl, hb1⟩
  go_wp2_with fail
  go_ret
  exact ⟨rfl, hb1⟩
theorem narrow_calls (s : ByteArray) (w : World) (hs : s.size ≤ 16777216) (he : Env w) : Calls Tryd.prog 26 #[.string s] w fun e w' => e = .returned (.string (narrowS s)) ∧ Below w.heap.size w w' := by
  have CE := Lib.hid (each_calls 43 (enters_of Tryd.func43 (by kernel_rfl) rfl) narrowC narrow_small map_narrow s w hs he)
  clear he
  go_enter Tryd.func26, Tryd.ntmps26
  go_wp2_with fail
  refine CE.out.mono ?_
  rintro e w1 ⟨rfl, hb1⟩
  go_wp2_with fail
  go_ret
  exact ⟨rfl, hb1⟩
end Go.Proofs.YthhiillmodacmaaDoor
