/- What wrong of henkanlaw15 computes. -/
import Derived.Test.YtoihfmjnonanjaaDoorPosM
import Derived.Test.YtoihfmjnonanjaaDoorPosBG
namespace Go.Proofs.YtoihfmjnonanjaaDoor
open Go.RowKit Go.Lib Go.Shelf Hk
set_option linter.unusedSimpArgs false
set_option linter.unusedVariables false
set_option maxRecDepth 100000

theorem wrong_calls (s : ByteArray) (n e : Int) (w : World) (hs : s.size ≤ 9223372036854775807) (he : Env w) (hp : parseD s = ([], n, e)) :
    Calls Tryd.prog 14 #[.string s, .int .i64 n, .int .i64 e] w fun x w' => x = .returned (.bool true) ∧ Below w.heap.size w w' := by
  have C1 := Lib.hid (parse_calls s w hs he)
  unfold ParsePost at C1
  rw [hp] at C1
  simp only at C1
  have s0 : (n == n) = true := by simp
  have s1 : (e == e) = true := by simp
  clear hp he hs
  go_enter Tryd.func14, Tryd.ntmps14
  go_wp2_with fail
  refine C1.out.mono ?_
  rintro x w1 ⟨v, rfl, ho, hb1⟩
  obtain ⟨A, c, rfl, _, _⟩ := own_slice ho
  simp only [List.length_nil]
  clear ho C1
  go_wp2_with fail
  go_ret
  exact ⟨rfl, hb1⟩
/-- A digit, as the program makes it. -/
theorem dig_enc (d : Nat) (h : d < 10) : Utf8.encode ((48 + d : Nat) : Int) = digB d := by
  have : d = 0 ∨ d = 1 ∨ d = 2 ∨ d = 3 ∨ d = 4 ∨ d = 5 ∨ d = 6 ∨ d = 7 ∨ d = 8 ∨ d = 9 := by omega
  rcases this with rfl | rfl | rfl | rfl | rfl | rfl | rfl | rfl | rfl | rfl <;> decide +kernel
end Go.Proofs.YtoihfmjnonanjaaDoor
