/- What ReadText of henkanref12 computes. -/
import Derived.Test.YtoihfmjnonanjaaDoorPosAF
namespace Go.Proofs.YtoihfmjnonanjaaDoor
open Go.RowKit Go.Lib Go.Shelf Hk
set_option linter.unusedSimpArgs false
set_option linter.unusedVariables false
set_option maxRecDepth 100000

set_option maxHeartbeats 4000000 in
theorem readText_calls (A : Option Addr) (n cap : Nat) (bs : List UInt8) (p B : Nat) (w : World) (hl : Lies w B 1 A n (byteCells bs)) (hB : B ≤ w.heap.size) (hn : n = bs.length) (hp : p ≤ n) (hc : n ≤ cap) (hcm : cap ≤ maxLen) :
    Calls Tryd.prog 54 #[.slice A n cap, .int .i64 (p : Int)] w fun e w' => e = .returned (sRes (rdT (bs.drop p)) p) ∧ Below w.heap.size w w' := by
  unfold maxLen at hcm
  have CN := Lib.hid (readUint_calls A n cap bs p B w hl hB hn hp (by omega))
  have HL := Lib.hid (hl.up hB)
  have HN := Lib.hid hn
  clear hl hn
  go_enter Tryd.func54, Tryd.ntmps54
  go_wp2_with fail
  refine CN.out.mono ?_
  rintro e w1 ⟨rfl, hb1⟩
  clear CN
  rcases hrd : rdU 0 (bs.drop p) with _ | ⟨v, c⟩
  · have HX := Lib.hid (rdT_none1 hrd)
    simp only [uRes]
    clear hrd
    go_wp2_with fail
    go_ret3
    exact ⟨by rw [HX.out]; rfl, hb1⟩
  · obtain ⟨hv64, hc1, hcl, _⟩ := rdU_take hrd
    rw [List.length_drop, ← HN.out] at hcl
    have HD := Lib.hid hrd
    obtain ⟨j, hj⟩ : ∃ j, j = p + c := ⟨_, rfl⟩
    simp only [uRes]
    rw [← hj]
    have hjn : j ≤ n := by omega
    have HJ := Lib.hid hj
    have HL1 := Lib.hid (HL.out.below hb1)
    have hw1 : IntKind.u64.wrap ((n : Int) - (j : Int)) = (n : Int) - (j : Int) := IntWalk.u64_in _ (by omega)
    clear hj hrd
    by_cases hv : v ≤ n - j
    · have HT := Lib.hid (rdT_some HD.out (by rw [List.length_drop, ← HN.out]; have := HJ.out; omega))
      have hw2 : IntKind.i64.wrap (v : Int) = (v : Int) := IntWalk.i64_in _ (by omega)
      have q2 : decide ((n : Int) - (j : Int) < (v : Int)) = false := decide_eq_false (by omega)
      have hjc : (j : Int) + (v : Int) ≤ (cap : Int) := by omega
      clear HD
      by_cases hv0 : v = 0
      · have hcz := conv_zero
        subst hv0
        go_wp2_with fail
        all_goals
          go_ret3
          rw [HT.out]
          refine ⟨?_, hb1⟩
          simp only [sRes, List.take_zero]
          rw [show ((p + (c + 0) : Nat) : Int) = (j : Int) by rw [HJ.out]; omega]
          rfl
      · have hpos : 0 < n := by omega
        obtain ⟨b, off, rfl, hbR, hcs⟩ := HL1.out.cells hpos
        have hcv : ∀ C, (convert 29 9 (.slice (some ⟨b, off + j, none⟩) v C)).run Tryd.prog w1 = .ok (.string ⟨((bs.drop j).take v).toArray⟩) w1 := by
          intro C
          have hl : ((bs.drop j).take v).length = v := by rw [List.length_take, List.length_drop, ← HN.out]; omega
          have := run_convert_bytes_back (P := Tryd.prog) w1 29 9 5 ⟨b, off + j, none⟩ C ((bs.drop j).take v) Tryd.underlying29 Tryd.underlying5 Tryd.underlying9 (fun i hi => by
            rw [Addr.add_lit, Nat.add_assoc]
            refine hcs (j + i) _ ?_
            rw [hl] at hi
            have hjb : j + i < bs.length := by rw [← HN.out]; omega
            simp [byteCells, hjb])
          rw [hl] at this
          exact this
        have hcj : ¬ cap = j := by omega
        have hcj2 : ¬ cap - j = 0 := by omega
        clear hv0
        go_wp2_with fail
        go_ret3
        rw [HT.out]
        refine ⟨?_, hb1⟩
        simp only [sRes]
        rw [List.drop_drop, ← HJ.out, show ((p + (c + v) : Nat) : Int) = (j : Int) + (v : Int) by rw [HJ.out]; omega]
        rfl
    · have HX := Lib.hid (rdT_none2 HD.out (by rw [List.length_drop, ← HN.out]; have := HJ.out; omega))
      have q2 : decide ((n : Int) - (j : Int) < (v : Int)) = true := decide_eq_true (by omega)
      clear HD hv
      go_wp2_with fail
      go_ret3
      exact ⟨by rw [HX.out]; rfl, hb1⟩
end Go.Proofs.YtoihfmjnonanjaaDoor
