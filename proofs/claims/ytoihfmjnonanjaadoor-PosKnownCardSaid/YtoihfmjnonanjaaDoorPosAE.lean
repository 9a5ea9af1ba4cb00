/- What begins of henkanref12 computes. -/
import Derived.Test.YtoihfmjnonanjaaDoorPosAD
namespace Go.Proofs.YtoihfmjnonanjaaDoor
open Go.RowKit Go.Lib Go.Shelf Hk
set_option linter.unusedSimpArgs false
set_option linter.unusedVariables false
set_option maxRecDepth 100000

theorem begins_no {bs ws : List UInt8} {p k : Nat} {a b : UInt8} (ha : bs[p + k]? = some a) (hb : ws[k]? = some b) (hne : a ≠ b) : decide ((bs.drop p).take ws.length = ws) = false := by
  refine decide_eq_false fun h => ?_
  have hk : k < ws.length := (List.getElem?_eq_some_iff.1 hb).1
  have h2 : ((bs.drop p).take ws.length)[k]? = some a := by rw [List.getElem?_take_of_lt hk, List.getElem?_drop, ha]
  rw [h, hb] at h2
  exact hne (Option.some.inj h2).symm
theorem begins_yes {bs ws : List UInt8} {p : Nat} (hl : p + ws.length ≤ bs.length) (h : ∀ i, i < ws.length → bs[p + i]? = ws[i]?) : decide ((bs.drop p).take ws.length = ws) = true := by
  refine decide_eq_true (List.ext_getElem? fun i => ?_)
  by_cases hi : i < ws.length
  · rw [List.getElem?_take_of_lt hi, List.getElem?_drop, h i hi]
  · rw [List.getElem?_eq_none (by rw [List.length_take, List.length_drop]; omega), List.getElem?_eq_none (by omega)]
theorem begins_long {bs ws : List UInt8} {p : Nat} (hl : bs.length - p < ws.length) : decide ((bs.drop p).take ws.length = ws) = false := by
  refine decide_eq_false fun h => ?_
  have := congrArg List.length h
  rw [List.length_take, List.length_drop] at this
  omega

set_option maxHeartbeats 4000000 in
theorem begins_calls (A A' : Option Addr) (n m cap cap' : Nat) (bs ws : List UInt8) (p B B' : Nat) (w : World) (hl : Lies w B 1 A n (byteCells bs)) (hl' : Lies w B' 1 A' m (byteCells ws)) (hn : n = bs.length) (hm : m = ws.length) (hp : p ≤ n) (hnm : n ≤ 9223372036854775807) (hmm : m ≤ 9223372036854775807) :
    Calls Tryd.prog 67 #[.slice A n cap, .int .i64 (p : Int), .slice A' m cap'] w fun e w' => e = .returned (.bool (decide ((bs.drop p).take ws.length = ws))) ∧ Below w.heap.size w w' := by
  have HL := Lib.hid hl
  have HL' := Lib.hid hl'
  have HN := Lib.hid hn
  have HM := Lib.hid hm
  clear hl hl' hn hm
  have q1 : decide ((n : Int) < (p : Int)) = false := decide_eq_false (by omega)
  by_cases hlong : n - p < m
  · have HX := Lib.hid (@begins_long bs ws p (by rw [← HN.out, ← HM.out]; exact hlong))
    have q2 : decide ((n : Int) - (p : Int) < (m : Int)) = true := decide_eq_true (by omega)
    generalize decide ((bs.drop p).take ws.length = ws) = R at *
    go_enter Tryd.func67, Tryd.ntmps67
    go_wp2_with fail
    go_ret
    exact ⟨ret_bool HX.out.symm, Below.refl _ _⟩
  · have q2 : decide ((n : Int) - (p : Int) < (m : Int)) = false := decide_eq_false (by omega)
    have HNO := Lib.hid fun k a b => @begins_no bs ws p k a b
    have HY : Hid ((∀ i, i < m → bs[p + i]? = ws[i]?) → decide ((bs.drop p).take ws.length = ws) = true) := fun h => begins_yes (by rw [← HN.out, ← HM.out]; omega) fun i hi => h i (by rw [HM.out]; exact hi)
    generalize decide ((bs.drop p).take ws.length = ws) = R at *
    go_enter Tryd.func67, Tryd.ntmps67
    go_wp2_with fail
    go_loopw [7] (fun i wr => ∃ k q : Nat, k ≤ m ∧ i = .int .i64 (k : Int) ∧ wr = w.drewN q ∧ Hid (∀ i, i < k → bs[p + i]? = ws[i]?)) (fun i _ => m - (intOf i).toNat)
    case atStart => exact ⟨0, 0, Nat.zero_le _, rfl, rfl, fun i hi => absurd hi (Nat.not_lt_zero _)⟩
    case round =>
      obtain ⟨k, q, hk, rfl, rfl, HH⟩ := hrel
      by_cases hlt : k < m
      · have hpk : p + k < n := by omega
        obtain ⟨a, ha⟩ : ∃ a, bs[p + k]? = some a := ⟨_, List.getElem?_eq_getElem (by rw [← HN.out]; exact hpk)⟩
        obtain ⟨b, hb⟩ : ∃ b, ws[k]? = some b := ⟨_, List.getElem?_eq_getElem (by rw [← HM.out]; exact hlt)⟩
        obtain ⟨b1, o1, rfl, _, c0⟩ := HL.out.at1 hpk (u := .int .u8 (a.toNat : Int)) (by simp [byteCells, ha])
        obtain ⟨b2, o2, rfl, _, c1⟩ := HL'.out.at1 hlt (u := .int .u8 (b.toNat : Int)) (by simp [byteCells, hb])
        by_cases hab : a = b
        · subst hab
          have HH2 : Hid (∀ i, i < k + 1 → bs[p + i]? = ws[i]?) := by
            intro i hi
            by_cases h : i = k
            · subst h
              rw [ha, hb]
            · exact HH.out i (by omega)
          have s1 : ((a.toNat : Int) != (a.toNat : Int)) = false := by simp
          clear ha hb HH
          go_wp2_with fail
          go_quiet (fail)
          go_wp2_with fail
          go_roundw
          case rel => exact ⟨k + 1, _, by omega, by go_num, rfl, HH2⟩
          case measure => simp [intOf]; omega
        · have HX := Lib.hid (HNO.out k a b ha hb hab)
          have s1 : ((a.toNat : Int) != (b.toNat : Int)) = true := by
            rw [bne_iff_ne]
            intro h
            exact hab (UInt8.toNat_inj.1 (by omega))
          clear ha hb HH hab
          generalize a.toNat = za at *
          generalize b.toNat = zb at *
          go_wp2_with fail
          go_quiet (fail)
          go_wp2_with fail
          go_ret
          exact ⟨ret_bool HX.out.symm, by first | exact below_drewNR (below_drewN _ _) | exact below_drewN _ _⟩
      · obtain rfl : k = m := by omega
        have HX := Lib.hid (HY.out HH.out)
        go_wp2_with fail
        go_ret
        exact ⟨ret_bool HX.out.symm, by first | exact below_drewNR (below_drewN _ _) | exact below_drewN _ _⟩
end Go.Proofs.YtoihfmjnonanjaaDoor
