/- Kinds of characters and readings: what kana.Class, kana.Reading and the reference's compute. -/
import Derived.Test.YtleflnbcgkfojaaDoorEnv
import Derived.Test.YtleflnbcgkfojaaDoorMem
import Derived.Lib.RuneCount
namespace Go.Proofs.YtleflnbcgkfojaaDoor
open Go.RowKit Go.Lib Go.Shelf Hk
set_option linter.unusedSimpArgs false
set_option linter.unusedVariables false
set_option maxRecDepth 100000

namespace Hk
/-- The kind of a character. -/
def classD (c : Int) : Int :=
  if 12353 ≤ c ∧ c ≤ 12438 then 1 else if (12449 ≤ c ∧ c ≤ 12534) ∨ c = 12540 then 2 else if 65377 ≤ c ∧ c ≤ 65439 then 3 else if (65281 ≤ c ∧ c ≤ 65374) ∨ c = 12288 then 4
  else if 32 ≤ c ∧ c ≤ 126 then 5 else if (13312 ≤ c ∧ c ≤ 19903) ∨ (19968 ≤ c ∧ c ≤ 40959) ∨ c = 12293 then 6 else 0
/-- Hiragana and the long vowel mark. -/
def hiraD (r : Nat) : Bool := decide (12353 ≤ r ∧ r ≤ 12438) || decide (r = 12540)
def readingD (l : List UInt8) : Bool := match runesD l with
  | some rs => decide (1 ≤ rs.length ∧ rs.length ≤ 64) && rs.all hiraD
  | none => false
theorem hira_class (r : Nat) : (classD (r : Int) = 1 ∨ r = 12540) ↔ hiraD r = true := by
  unfold classD hiraD
  simp only [Bool.or_eq_true, decide_eq_true_eq]
  constructor
  · rintro (h | h)
    · left
      by_cases hh : 12353 ≤ (r : Int) ∧ (r : Int) ≤ 12438
      · omega
      · rw [if_neg hh] at h
        (repeat' split at h) <;> omega
    · exact .inr h
  · rintro (h | h)
    · left; rw [if_pos (by omega)]
    · exact .inr h
theorem all_any (p : Nat → Bool) : ∀ rs : List Nat, (!(rs.any fun r => !p r)) = rs.all p
  | [] => rfl
  | r :: rs => by
    have := all_any p rs
    simp only [List.any_cons, List.all_cons, Bool.not_or, Bool.not_not, this]
theorem count_from (s : ByteArray) : ∀ (f pos : Nat) (rs : List Nat), s.size ≤ pos + f → runesD (s.data.toList.drop pos) = some rs → Lib.runeCountFrom s f pos = rs.length
  | 0, pos, rs, h, hr => by
    have hn : s.data.toList.drop pos = [] := List.drop_eq_nil_of_le (by have h2 : s.size = s.data.toList.length := by simp
                                                                        omega)
    rw [hn, runesD_nil] at hr
    obtain rfl := Option.some.inj hr
    rfl
  | f + 1, pos, rs, h, hr => by
    have h2 : s.size = s.data.toList.length := by simp
    unfold Lib.runeCountFrom
    by_cases hp : pos < s.size
    · rw [if_pos hp]
      have hne := drop_ne_nil s pos hp
      rw [runesD_step _ hne] at hr
      by_cases hb : badAt (s.data.toList.drop pos)
      · rw [if_pos hb] at hr; cases hr
      · rw [if_neg hb] at hr
        obtain ⟨rs', h1, rfl⟩ := Option.map_eq_some_iff.1 hr
        have hw := decodeL_width (s.data.toList.drop pos)
        rw [decodeL_drop] at hw h1
        rw [List.drop_drop] at h1
        rw [count_from s f _ rs' (by omega) h1, List.length_cons]
        omega
    · rw [if_neg hp]
      have hn : s.data.toList.drop pos = [] := List.drop_eq_nil_of_le (by omega)
      rw [hn, runesD_nil] at hr
      obtain rfl := Option.some.inj hr
      rfl
theorem count_runes (s : ByteArray) (rs : List Nat) (h : runesD s.data.toList = some rs) : Lib.runeCount s = rs.length := count_from s s.size 0 rs (by omega) (by simpa using h)
end Hk

theorem ret_i64 {a b : Int} (h : a = b) : Ending.returned (.int .i64 a) = .returned (.int .i64 b) := by rw [h]
theorem ret_bool {a b : Bool} (h : a = b) : Ending.returned (.bool a) = .returned (.bool b) := by rw [h]

set_option maxHeartbeats 1000000 in
theorem class_calls (c : Int) (w : World) : Calls Tryd.prog 36 #[.int .i32 c] w fun e w' => e = .returned (.int .i64 (classD c)) ∧ w = w' := by
  go_enter Tryd.func36, Tryd.ntmps36
  go_wp2
  all_goals
    go_ret
    refine ⟨ret_i64 ?_, rfl⟩
    unfold classD
    (repeat' split) <;> first | rfl | (exfalso; omega) | (exfalso; simp only [beq_iff_eq, beq_eq_false_iff_ne, ne_eq] at *; omega)

/-- From lo to hi. -/
def betB (c lo hi : Int) : Bool := decide (lo ≤ c) && decide (c ≤ hi)
theorem betB_iff (c lo hi : Int) : betB c lo hi = true ↔ lo ≤ c ∧ c ≤ hi := by unfold betB; simp
theorem betB_not (c lo hi : Int) : betB c lo hi = false ↔ ¬ (lo ≤ c ∧ c ≤ hi) := by rw [← betB_iff]; simp
theorem between_calls (c lo hi : Int) (w : World) : Calls Tryd.prog 55 #[.int .i32 c, .int .i32 lo, .int .i32 hi] w fun e w' => e = .returned (.bool (betB c lo hi)) ∧ w = w' := by
  by_cases h1 : lo ≤ c
  · by_cases h2 : c ≤ hi
    · have HX : Hid (betB c lo hi = true) := (betB_iff _ _ _).2 ⟨h1, h2⟩
      go_enter Tryd.func55, Tryd.ntmps55
      go_wp2
      go_ret
      exact ⟨by rw [HX.out]; exact ret_bool (by simp [h2]), rfl⟩
    · have HX : Hid (betB c lo hi = false) := (betB_not _ _ _).2 fun h => h2 h.2
      have h3 : decide (c ≤ hi) = false := decide_eq_false h2
      go_enter Tryd.func55, Tryd.ntmps55
      go_wp2
      go_ret
      exact ⟨by rw [HX.out]; exact ret_bool rfl, rfl⟩
  · have HX : Hid (betB c lo hi = false) := (betB_not _ _ _).2 fun h => h1 h.1
    go_enter Tryd.func55, Tryd.ntmps55
    go_wp2
    go_ret
    exact ⟨by rw [HX.out]; exact ret_bool rfl, rfl⟩

set_option maxHeartbeats 2000000 in
theorem refClass_calls (c : Int) (w : World) : Calls Tryd.prog 49 #[.int .i32 c] w fun e w' => e = .returned (.int .i64 (classD c)) ∧ w = w' := by
  have CB := Lib.hid between_calls
  go_enter Tryd.func49, Tryd.ntmps49
  go_wp2_with (go_at_call 55; refine (CB.out _ _ _ _).mono ?_; rintro e w' ⟨rfl, rfl⟩)
  all_goals
    go_ret
    refine ⟨ret_i64 ?_, rfl⟩
    unfold classD
    (repeat' split) <;> first | rfl | (exfalso; omega) | (exfalso; simp only [beq_iff_eq, beq_eq_false_iff_ne, ne_eq, betB_iff, betB_not] at *; omega)

set_option maxHeartbeats 400000 in
theorem count_calls (s : ByteArray) (w : World) (hs : s.size < 9223372036854775807) (he : Env w) : Calls Tryd.prog 33 #[.string s] w fun e w' => e = .returned (.int .i64 (match runesD s.data.toList with | some rs => (rs.length : Int) | none => -1)) ∧ Below w.heap.size w w' := by
  have CV := Lib.hid (Tryd.utf8_ValidString s w (by omega) he.1)
  clear he
  cases hr : runesD s.data.toList with
  | none =>
    rw [validD_eq, hr] at CV
    simp only [Option.isSome_none] at CV
    clear hr
    go_enter Tryd.func33, Tryd.ntmps33
    go_wp2_with fail
    refine CV.out.mono ?_
    rintro e w1 ⟨rfl, hb1⟩
    go_wp2_with fail
    go_ret
    exact ⟨ret_i64 rfl, hb1⟩
  | some rs =>
    have CC := Lib.hid fun W => Tryd.utf8_RuneCountInString s W hs
    rw [count_runes s rs hr] at CC
    rw [validD_eq, hr] at CV
    simp only [Option.isSome_some] at CV
    clear hr
    go_enter Tryd.func33, Tryd.ntmps33
    go_wp2_with fail
    refine CV.out.mono ?_
    rintro e w1 ⟨rfl, hb1⟩
    go_wp2_with fail
    refine (CC.out _).mono ?_
    rintro e w2 ⟨rfl, pos, rfl⟩
    go_wp2_with fail
    go_ret
    exact ⟨ret_i64 rfl, qtrans hb1 ((Below.refl _ _).alloc (Nat.le_refl _) _)⟩

theorem hira_pred (w : World) : PredAt Tryd.prog 35 #[] encR (fun r => !hiraD r) w := fun W r _ => by
  unfold FnGives
  have CC := Lib.hid class_calls
  by_cases h1 : r = 12540
  · have q : ((r : Int) != 12540) = false := by simp; omega
    have HX : Hid (hiraD r = true) := (hira_class r).1 (.inr h1)
    clear h1
    go_enter Tryd.func35, Tryd.ntmps35
    go_wp2_with fail
    go_ret
    exact ⟨by rw [HX.out]; exact ret_bool rfl, 0, rfl⟩
  · have q : ((r : Int) != 12540) = true := by simp; omega
    have HX : Hid ((classD (r : Int) != 1) = !hiraD r) := by
      show _ = _
      have := hira_class r
      cases hh : hiraD r
      · rw [hh] at this
        simp; intro e; exact absurd (this.1 (.inl e)) (by simp)
      · have := this.2 hh
        simp; rcases this with e | e
        · exact e
        · exact absurd e h1
    clear h1
    go_enter Tryd.func35, Tryd.ntmps35
    go_wp2_with fail
    refine (CC.out _ _).mono ?_
    rintro e w1 ⟨rfl, rfl⟩
    go_wp2_with fail
    go_ret
    exact ⟨ret_bool HX.out, 0, rfl⟩

theorem containsHira_calls (s : ByteArray) (w : World) : Calls Tryd.prog 34 #[.string s, .func (.func 35) #[] #[]] w fun e w' => e = .returned (.bool (decide (0 ≤ Lib.idxFunc (fun r => !hiraD r) true s))) ∧ Below w.heap.size w w' :=
  Tryd.strings_ContainsFunc 35 #[] (enters_of Tryd.func35 (by kernel_rfl) rfl) _ s w (hira_pred w)

set_option maxHeartbeats 1000000 in
theorem reading_calls (s : ByteArray) (w : World) (hs : s.size < 9223372036854775807) (he : Env w) : Calls Tryd.prog 20 #[.string s] w fun e w' => e = .returned (.bool (readingD s.data.toList)) ∧ Below w.heap.size w w' := by
  have CC := Lib.hid (count_calls s w hs he)
  have CF := Lib.hid fun W => containsHira_calls s W
  clear he
  cases hr : runesD s.data.toList with
  | none =>
    have HX : Hid (readingD s.data.toList = false) := by show _ = _; unfold readingD; rw [hr]
    rw [hr] at CC
    simp only at CC
    clear hr
    go_enter Tryd.func20, Tryd.ntmps20
    go_wp2_with fail
    refine CC.out.mono ?_
    rintro e w1 ⟨rfl, hb1⟩
    go_wp2_with fail
    go_ret
    exact ⟨by rw [HX.out]; exact ret_bool rfl, hb1⟩
  | some rs =>
    have HX : Hid (readingD s.data.toList = (decide (1 ≤ rs.length ∧ rs.length ≤ 64) && rs.all hiraD)) := by show _ = _; unfold readingD; rw [hr]
    have HA : Hid ((!decide (0 ≤ Lib.idxFunc (fun r => !hiraD r) true s)) = rs.all hiraD) := by
      show _ = _
      rw [contains_any _ _ _ hr, all_any]
    rw [hr] at CC
    simp only at CC
    have hl : rs.length ≤ s.size := by have := runesD_length _ _ _ (Nat.le_refl _) hr; simpa using this
    clear hr
    by_cases h1 : 1 ≤ rs.length
    · by_cases h2 : rs.length ≤ 64
      · have HY : Hid (readingD s.data.toList = rs.all hiraD) := by show _ = _; rw [HX.out]; simp [h1, h2]
        have g1 : decide ((1 : Int) ≤ (rs.length : Int)) = true := decide_eq_true (by omega)
        have g2 : decide ((rs.length : Int) ≤ 64) = true := decide_eq_true (by omega)
        have g3 : decide (1 ≤ rs.length) = true := decide_eq_true h1
        have g4 : decide (rs.length ≤ 64) = true := decide_eq_true h2
        clear HX
        generalize rs.length = n at *
        go_enter Tryd.func20, Tryd.ntmps20
        go_wp2_with fail
        refine CC.out.mono ?_
        rintro e w1 ⟨rfl, hb1⟩
        go_wp2_with fail
        refine (CF.out _).mono ?_
        rintro e w2 ⟨rfl, hb2⟩
        go_wp2_with fail
        go_ret
        exact ⟨by rw [HY.out]; exact ret_bool HA.out, qtrans hb1 hb2⟩
      · have HY : Hid (readingD s.data.toList = false) := by show _ = _; rw [HX.out]; simp [h2]
        have g1 : decide ((1 : Int) ≤ (rs.length : Int)) = true := decide_eq_true (by omega)
        have g2 : decide ((rs.length : Int) ≤ 64) = false := decide_eq_false (by omega)
        have g3 : decide (1 ≤ rs.length) = true := decide_eq_true h1
        have g4 : decide (rs.length ≤ 64) = false := decide_eq_false h2
        clear HX HA
        generalize rs.length = n at *
        go_enter Tryd.func20, Tryd.ntmps20
        go_wp2_with fail
        refine CC.out.mono ?_
        rintro e w1 ⟨rfl, hb1⟩
        go_wp2_with fail
        go_ret
        exact ⟨by rw [HY.out]; exact ret_bool rfl, hb1⟩
    · have HY : Hid (readingD s.data.toList = false) := by show _ = _; rw [HX.out]; simp [h1]
      have g1 : decide ((1 : Int) ≤ (rs.length : Int)) = false := decide_eq_false (by omega)
      have g3 : decide (1 ≤ rs.length) = false := decide_eq_false h1
      clear HX HA
      generalize rs.length = n at *
      go_enter Tryd.func20, Tryd.ntmps20
      go_wp2_with fail
      refine CC.out.mono ?_
      rintro e w1 ⟨rfl, hb1⟩
      go_wp2_with fail
      go_ret
      exact ⟨by rw [HY.out]; exact ret_bool rfl, hb1⟩

end Go.Proofs.YtleflnbcgkfojaaDoor
