/- What henkanlaw02.simple computes; back from half-width. -/
import Derived.Test.YtllfgonmkgookaaDoorKanaL
import Derived.Test.YtllfgonmkgookaaDoorKanaZ
import Derived.Test.YtllfgonmkgookaaDoorKanaV
import Derived.Outline
namespace Go.Proofs.YtllfgonmkgookaaDoor
open Go.RowKit Go.Lib Go.Shelf Hk
set_option linter.unusedSimpArgs false
set_option linter.unusedVariables false
set_option maxRecDepth 100000

def clsB (c : Nat) : Bool := decide (12353 ≤ c ∧ c ≤ 12438) || decide ((12449 ≤ c ∧ c ≤ 12534) ∨ c = 12540)
theorem simple_gen {c : Nat} (h0 : c ≠ 12290) (h1 : c ≠ 12300) (h2 : c ≠ 12301) (h3 : c ≠ 12289) (h4 : c ≠ 12539) (h5 : c ≠ 12526) (h6 : c ≠ 12528) (h7 : c ≠ 12529) (h8 : c ≠ 12533) (h9 : c ≠ 12534) (h10 : c ≠ 12430) (h11 : c ≠ 12432) (h12 : c ≠ 12433) (h13 : c ≠ 12437) (h14 : c ≠ 12438) : simpleB c = clsB c := by
  unfold simpleB clsB
  simp [h0, h1, h2, h3, h4, h5, h6, h7, h8, h9, h10, h11, h12, h13, h14]

set_option maxHeartbeats 4000000 in
theorem simple_calls (c : Nat) (w : World) : Calls Tryd.prog 26 #[.int .i32 (c : Int)] w fun e w' => e = .returned (.bool (simpleB c)) ∧ w = w' := by
  by_cases h0 : c = 12290
  · subst h0
    have HX : Hid (simpleB 12290 = true) := rfl
    go_enter Tryd.func26, Tryd.ntmps26
    go_wp2_with fail
    go_ret
    exact ⟨by rw [HX.out]; rfl, rfl⟩
  have q0 : ((c : Int) == 12290) = false := by simp; omega
  by_cases h1 : c = 12300
  · subst h1
    clear h0
    have HX : Hid (simpleB 12300 = true) := rfl
    go_enter Tryd.func26, Tryd.ntmps26
    go_wp2_with fail
    go_ret
    exact ⟨by rw [HX.out]; rfl, rfl⟩
  have q1 : ((c : Int) == 12300) = false := by simp; omega
  by_cases h2 : c = 12301
  · subst h2
    clear h0 h1
    have HX : Hid (simpleB 12301 = true) := rfl
    go_enter Tryd.func26, Tryd.ntmps26
    go_wp2_with fail
    go_ret
    exact ⟨by rw [HX.out]; rfl, rfl⟩
  have q2 : ((c : Int) == 12301) = false := by simp; omega
  by_cases h3 : c = 12289
  · subst h3
    clear h0 h1 h2
    have HX : Hid (simpleB 12289 = true) := rfl
    go_enter Tryd.func26, Tryd.ntmps26
    go_wp2_with fail
    go_ret
    exact ⟨by rw [HX.out]; rfl, rfl⟩
  have q3 : ((c : Int) == 12289) = false := by simp; omega
  by_cases h4 : c = 12539
  · subst h4
    clear h0 h1 h2 h3
    have HX : Hid (simpleB 12539 = true) := rfl
    go_enter Tryd.func26, Tryd.ntmps26
    go_wp2_with fail
    go_ret
    exact ⟨by rw [HX.out]; rfl, rfl⟩
  have q4 : ((c : Int) == 12539) = false := by simp; omega
  by_cases h5 : c = 12526
  · subst h5
    clear h0 h1 h2 h3 h4
    have HX : Hid (simpleB 12526 = false) := rfl
    go_enter Tryd.func26, Tryd.ntmps26
    go_wp2_with fail
    go_ret
    exact ⟨by rw [HX.out]; rfl, rfl⟩
  have q5 : ((c : Int) == 12526) = false := by simp; omega
  by_cases h6 : c = 12528
  · subst h6
    clear h0 h1 h2 h3 h4 h5
    have HX : Hid (simpleB 12528 = false) := rfl
    go_enter Tryd.func26, Tryd.ntmps26
    go_wp2_with fail
    go_ret
    exact ⟨by rw [HX.out]; rfl, rfl⟩
  have q6 : ((c : Int) == 12528) = false := by simp; omega
  by_cases h7 : c = 12529
  · subst h7
    clear h0 h1 h2 h3 h4 h5 h6
    have HX : Hid (simpleB 12529 = false) := rfl
    go_enter Tryd.func26, Tryd.ntmps26
    go_wp2_with fail
    go_ret
    exact ⟨by rw [HX.out]; rfl, rfl⟩
  have q7 : ((c : Int) == 12529) = false := by simp; omega
  by_cases h8 : c = 12533
  · subst h8
    clear h0 h1 h2 h3 h4 h5 h6 h7
    have HX : Hid (simpleB 12533 = false) := rfl
    go_enter Tryd.func26, Tryd.ntmps26
    go_wp2_with fail
    go_ret
    exact ⟨by rw [HX.out]; rfl, rfl⟩
  have q8 : ((c : Int) == 12533) = false := by simp; omega
  by_cases h9 : c = 12534
  · subst h9
    clear h0 h1 h2 h3 h4 h5 h6 h7 h8
    have HX : Hid (simpleB 12534 = false) := rfl
    go_enter Tryd.func26, Tryd.ntmps26
    go_wp2_with fail
    go_ret
    exact ⟨by rw [HX.out]; rfl, rfl⟩
  have q9 : ((c : Int) == 12534) = false := by simp; omega
  by_cases h10 : c = 12430
  · subst h10
    clear h0 h1 h2 h3 h4 h5 h6 h7 h8 h9
    have HX : Hid (simpleB 12430 = false) := rfl
    go_enter Tryd.func26, Tryd.ntmps26
    go_wp2_with fail
    go_ret
    exact ⟨by rw [HX.out]; rfl, rfl⟩
  have q10 : ((c : Int) == 12430) = false := by simp; omega
  by_cases h11 : c = 12432
  · subst h11
    clear h0 h1 h2 h3 h4 h5 h6 h7 h8 h9 h10
    have HX : Hid (simpleB 12432 = false) := rfl
    go_enter Tryd.func26, Tryd.ntmps26
    go_wp2_with fail
    go_ret
    exact ⟨by rw [HX.out]; rfl, rfl⟩
  have q11 : ((c : Int) == 12432) = false := by simp; omega
  by_cases h12 : c = 12433
  · subst h12
    clear h0 h1 h2 h3 h4 h5 h6 h7 h8 h9 h10 h11
    have HX : Hid (simpleB 12433 = false) := rfl
    go_enter Tryd.func26, Tryd.ntmps26
    go_wp2_with fail
    go_ret
    exact ⟨by rw [HX.out]; rfl, rfl⟩
  have q12 : ((c : Int) == 12433) = false := by simp; omega
  by_cases h13 : c = 12437
  · subst h13
    clear h0 h1 h2 h3 h4 h5 h6 h7 h8 h9 h10 h11 h12
    have HX : Hid (simpleB 12437 = false) := rfl
    go_enter Tryd.func26, Tryd.ntmps26
    go_wp2_with fail
    go_ret
    exact ⟨by rw [HX.out]; rfl, rfl⟩
  have q13 : ((c : Int) == 12437) = false := by simp; omega
  by_cases h14 : c = 12438
  · subst h14
    clear h0 h1 h2 h3 h4 h5 h6 h7 h8 h9 h10 h11 h12 h13
    have HX : Hid (simpleB 12438 = false) := rfl
    go_enter Tryd.func26, Tryd.ntmps26
    go_wp2_with fail
    go_ret
    exact ⟨by rw [HX.out]; rfl, rfl⟩
  have q14 : ((c : Int) == 12438) = false := by simp; omega
  have HS := Lib.hid (simple_gen h0 h1 h2 h3 h4 h5 h6 h7 h8 h9 h10 h11 h12 h13 h14)
  have CC := Lib.hid fun W => refClass_calls (c : Int) W
  have k1 := class_hira c
  have k2 := class_kata c
  clear h0 h1 h2 h3 h4 h5 h6 h7 h8 h9 h10 h11 h12 h13 h14
  unfold clsB at HS
  generalize decide (12353 ≤ c ∧ c ≤ 12438) = x at *
  generalize decide ((12449 ≤ c ∧ c ≤ 12534) ∨ c = 12540) = y at *
  generalize classD (c : Int) = k at *
  generalize simpleB c = z at *
  cases x with
  | true =>
    have HZ : Hid (z = true) := by show _ = _; rw [HS.out]; rfl
    go_enter Tryd.func26, Tryd.ntmps26
    go_wp2_with fail
    refine (CC.out _).mono ?_
    rintro e w1 ⟨rfl, rfl⟩
    go_wp2_with fail
    go_ret
    exact ⟨by rw [HZ.out]; rfl, rfl⟩
  | false =>
    have HZ : Hid (z = y) := by show _ = _; rw [HS.out]; rfl
    go_enter Tryd.func26, Tryd.ntmps26
    go_wp2_with fail
    refine (CC.out _).mono ?_
    rintro e w1 ⟨rfl, rfl⟩
    go_wp2_with fail
    go_ret
    exact ⟨by rw [HZ.out]; rfl, rfl⟩

theorem back_ok {l : List Nat} (h : ∀ r ∈ l, isRune r ∧ simpleB r = true) : fullS (halfS (bstr (encT l))) = kataS (bstr (encT l)) := by
  have hr : runesD (bstr (encT l)).data.toList = some l := by rw [bstr_data]; exact runesD_enc l fun r hm => (h r hm).1
  rw [show fullS (halfS (bstr (encT l))) = strB (fun rs => fullC (rs.flatMap halfC)) (bstr (encT l)) from strB_strB keeps_half _, strB_some hr, show kataS (bstr (encT l)) = bstr (encT (l.map kataC)) from strB_some hr, full_half l fun r hm => (h r hm).2]
end Go.Proofs.YtllfgonmkgookaaDoor
