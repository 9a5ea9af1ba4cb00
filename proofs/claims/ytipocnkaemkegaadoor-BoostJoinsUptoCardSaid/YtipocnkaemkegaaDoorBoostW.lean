/- What boost.Bonus, henkanref32.Bonus and the function literals of boost compute. -/
import Derived.Test.YtipocnkaemkegaaDoorKeysS
import Derived.Test.YtipocnkaemkegaaDoorBoostP
import Derived.Test.YtipocnkaemkegaaDoorMem
namespace Go.Proofs.YtipocnkaemkegaaDoor
open Go.RowKit Go.Lib Go.Shelf Hk
set_option linter.unusedSimpArgs false
set_option linter.unusedVariables false
set_option maxRecDepth 100000

theorem ret_i64 {a b : Int} (h : a = b) : Ending.returned (.int .i64 a) = .returned (.int .i64 b) := by rw [h]

set_option maxHeartbeats 400000 in
theorem bonus_calls (v : Int) (w : World) (hv : v ≤ 9223372036854775807) : Calls Tryd.prog 10 #[.int .i64 v] w fun e w' => e = .returned (.int .i64 (bonusD v)) ∧ w = w' := by
  by_cases h : v ≤ 0
  · have HB := Lib.hid (bonusD_neg v h)
    go_enter Tryd.func10, Tryd.ntmps10
    go_wp2_with fail
    go_ret
    exact ⟨ret_i64 HB.out.symm, rfl⟩
  · have HB := Lib.hid (bonusD_pos v (by omega))
    have hpos : 0 < v := by omega
    have hl := Hk.bitLen_le (v / 65536).toNat
    have CL := Lib.hid fun W => Tryd.bits_Len (v / 65536) W (by omega) (by omega)
    have e1 : (v / 65536) % 18446744073709551616 = v / 65536 := Int.emod_eq_of_lt (by omega) (by omega)
    generalize Lib.bitLen (v / 65536).toNat = n at *
    go_enter Tryd.func10, Tryd.ntmps10
    go_wp2_with fail
    refine (CL.out _).mono ?_
    rintro e w' ⟨rfl, rfl⟩
    clear e1
    go_wp2_with fail
    go_ret
    exact ⟨ret_i64 (by rw [HB.out]), rfl⟩

set_option maxHeartbeats 400000 in
theorem refBonus_calls (v : Int) (w : World) (hv : v ≤ 9223372036854775807) : Calls Tryd.prog 11 #[.int .i64 v] w fun e w' => e = .returned (.int .i64 (bonusD v)) ∧ w = w' := by
  by_cases h : v ≤ 0
  · have HB := Lib.hid (bonusD_neg v h)
    go_enter Tryd.func11, Tryd.ntmps11
    go_wp2_with fail
    go_ret
    exact ⟨ret_i64 HB.out.symm, rfl⟩
  · have HB : Hid (bonusD v = min 3000 (500 + (bonusAt (v / 65536).toNat : Int))) := by
      show _ = _
      rw [bonusD_pos v (by omega)]; unfold bonusAt; omega
    have hpos : 0 < v := by omega
    go_enter Tryd.func11, Tryd.ntmps11
    go_wp2_with fail
    go_loop [3, 4] (fun n x => ∃ m k : Nat, k ≤ 9223372036854775807 ∧ m ≤ 16500 ∧ bonusAt k ≤ 16000 ∧ n = .int .i64 (m : Int) ∧ x = .int .i64 (k : Int) ∧ Hid (m + bonusAt k = 500 + bonusAt (v / 65536).toNat)) (fun _ x => (intOf x).toNat)
    case atStart => exact ⟨500, (v / 65536).toNat, by omega, by omega, by unfold bonusAt; have := Hk.bitLen_le (v / 65536).toNat; omega, rfl, by go_num, rfl⟩
    case round =>
      obtain ⟨m, k, hk, hm, hbk, rfl, rfl, HM⟩ := hrel
      by_cases h0 : k = 0
      · subst h0
        have hfin : bonusD v = min (m : Int) 3000 := by
          have := HM.out
          rw [bonusAt_zero] at this
          rw [HB.out]; omega
        have HF := Lib.hid hfin
        clear hfin HM HB
        go_wp2_with fail
        go_ret
        exact ⟨ret_i64 (by rw [HF.out]), rfl⟩
      · have hstep := bonusAt_half k h0 (by omega)
        have HM2 : Hid (m + 250 + bonusAt (k / 2) = 500 + bonusAt (v / 65536).toNat) := by
          show _ = _
          have := HM.out
          omega
        have hm2 : m + 250 ≤ 16500 ∧ bonusAt (k / 2) ≤ 16000 := by
          refine ⟨?_, by omega⟩
          have h1 := HM2.out
          have h2 : bonusAt (v / 65536).toNat ≤ 16000 := by unfold bonusAt; have := Hk.bitLen_le (v / 65536).toNat; omega
          omega
        have hk0 : 0 < k := by omega
        clear hstep HM h0
        go_wp2_with fail
        go_round
        case rel => exact ⟨m + 250, k / 2, by omega, hm2.1, hm2.2, by go_num, by go_num, HM2⟩
        case measure => simp [intOf]; omega
theorem lrn1_calls (a b : ByteArray) (n : Int) (w : World) : Calls Tryd.prog 22 #[.string a, .string b, .int .i64 n] w fun e w' => e = .returned (.agg #[.string a, .string b, .int .i64 n]) ∧ Below w.heap.size w w' := by
  go_enter Tryd.func22, Tryd.ntmps22
  go_wp2_with fail
  exact bodyPost_ret (v := .agg #[.string a, .string b, .int .i64 n]) (by simp [results, Tryd.results22, go_sem]) rfl ⟨rfl, (Below.refl _ _).alloc (Nat.le_refl _) _⟩
theorem prs1_calls (a b : ByteArray) (n : Int) (w : World) : Calls Tryd.prog 25 #[.string a, .string b, .int .i64 n] w fun e w' => e = .returned (.agg #[.string a, .string b, .int .i64 n]) ∧ Below w.heap.size w w' := by
  go_enter Tryd.func25, Tryd.ntmps25
  go_wp2_with fail
  exact bodyPost_ret (v := .agg #[.string a, .string b, .int .i64 n]) (by simp [results, Tryd.results25, go_sem]) rfl ⟨rfl, (Below.refl _ _).alloc (Nat.le_refl _) _⟩
end Go.Proofs.YtipocnkaemkegaaDoor
