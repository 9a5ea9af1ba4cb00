/- What coding's reader computes: strings. -/
import Derived.Test.YtoihfmjnonanjaaDoorPosY
import Derived.Laws.IdiomStrings
import Derived.Laws.BytesArg
namespace Go.Proofs.YtoihfmjnonanjaaDoor
open Go.RowKit Go.Lib Go.Shelf Hk
set_option linter.unusedSimpArgs false
set_option linter.unusedVariables false
set_option maxRecDepth 100000

theorem conv_zero (w : World) (p : Option Addr) (c : Nat) : (convert 29 9 (.slice p 0 c)).run Tryd.prog w = .ok (.string ⟨#[]⟩) w := by
  rw [run_convert_bytes_string w 29 9 5 _ 0 c Tryd.underlying29 Tryd.underlying5 Tryd.underlying9]
  cases p <;> simp [Conv.bytesToString, loadCells]
  all_goals rfl
theorem rdT_none1 {l : List UInt8} (h : rdU 0 l = none) : rdT l = none := by unfold rdT; rw [h]
theorem rdT_none2 {l : List UInt8} {n c : Nat} (h : rdU 0 l = some (n, c)) (h2 : ¬ n ≤ l.length - c) : rdT l = none := by unfold rdT; rw [h]; simp only; rw [if_neg h2]
theorem rdT_some {l : List UInt8} {n c : Nat} (h : rdU 0 l = some (n, c)) (h2 : n ≤ l.length - c) : rdT l = some ((l.drop c).take n, c + n) := by unfold rdT; rw [h]; simp only; rw [if_pos h2]

/-- What text leaves behind. -/
def TextPost (R : Nat) (A : Option Addr) (n cap : Nat) (bs : List UInt8) (p : Nat) (W : World) (e : Ending) (W' : World) : Prop := Below R W W' ∧
  ((∃ s c, rdT (bs.drop p) = some (s, c) ∧ e = .returned (.string ⟨s.toArray⟩) ∧ Rdr W' R A n cap ((p + c : Nat) : Int)) ∨ (rdT (bs.drop p) = none ∧ e = .panicked [{ v := .iface 114 (.agg #[]), recovered := false }]))
set_option maxHeartbeats 4000000 in
theorem text_calls (R : Nat) (A : Option Addr) (n cap : Nat) (bs : List UInt8) (p : Nat) (W : World) (hR : Rdr W R A n cap (p : Int)) (hl : Lies W R 1 A n (byteCells bs)) (hn : n = bs.length) (hc : n ≤ cap) (hcm : cap ≤ maxLen) (hp : p ≤ 9223372036854775807) :
    Calls Tryd.prog 66 #[.pointer (some ⟨R, 0, none⟩)] W (TextPost R A n cap bs p W) := by
  unfold maxLen at hcm
  have CN := Lib.hid (number_calls R A n cap bs p W hR hl hn (by omega) hp)
  have HL := Lib.hid hl
  have HN := Lib.hid hn
  clear hl hn hR
  go_enter Tryd.func66, Tryd.ntmps66
  go_wp2_with fail
  refine CN.out.mono ?_
  rintro e w1 ⟨hb1, ⟨v, c, hrd, rfl, hr⟩ | ⟨hrd, rfl⟩⟩
  · obtain ⟨hv64, hc1, hcl, hU⟩ := rdU_take hrd
    rw [List.length_drop, ← HN.out] at hcl
    have HD := Lib.hid hrd
    obtain ⟨j, hj⟩ : ∃ j, j = p + c := ⟨_, rfl⟩
    rw [← hj] at hr
    have hjn : j ≤ n := by omega
    have hj1 : 1 ≤ j := by omega
    have HJ := Lib.hid hj
    clear hj hrd CN hcl hU
    have k0 := hr.c0
    have k1 := hr.c1
    have f1 := hr.f1
    have HL1 := Lib.hid (HL.out.below hb1)
    by_cases hv : v ≤ n - j
    · have HT := Lib.hid (rdT_some HD.out (by rw [List.length_drop, ← HN.out]; have := HJ.out; omega))
      have hjc : (j : Int) + (v : Int) ≤ (cap : Int) := by omega
      have hvz : (v : Int) ≤ (n : Int) - (j : Int) := by omega
      clear HD
      by_cases hv0 : v = 0
      · have hcz := conv_zero
        subst hv0
        go_wp2_with fail
        go_quiet (fail)
        go_wp2_with fail
        go_quiet (fail)
        go_wp2_with fail
        all_goals
          go_ret
          refine ⟨(below_drewNR hb1).setCell (p := ⟨R, 1, none⟩) (Nat.le_refl R) _, .inl ⟨_, _, HT.out, ?_, ?_⟩⟩
          · rw [List.take_zero]; rfl
          · rw [show ((p + (c + 0) : Nat) : Int) = (j : Int) by rw [HJ.out]; omega]
            first | exact (rdr_drewN hr).set _ | (subst h; exact (rdr_drewN hr).set _)
      · have hpos : 0 < n := by omega
        obtain ⟨b, off, rfl, hbR, hcs⟩ := HL1.out.cells hpos
        have hcv : ∀ q C, (convert 29 9 (.slice (some ⟨b, off + j, none⟩) v C)).run Tryd.prog (w1.drewN q) = .ok (.string ⟨((bs.drop j).take v).toArray⟩) (w1.drewN q) := by
          intro q C
          have hl : ((bs.drop j).take v).length = v := by rw [List.length_take, List.length_drop, ← HN.out]; omega
          have := run_convert_bytes_back (P := Tryd.prog) (w1.drewN q) 29 9 5 ⟨b, off + j, none⟩ C ((bs.drop j).take v) Tryd.underlying29 Tryd.underlying5 Tryd.underlying9 (fun i hi => by
            rw [Addr.add_lit]
            have h1 : (w1.drewN q).cell? ⟨b, off + j + i, none⟩ = w1.cell? ⟨b, off + j + i, none⟩ := rfl
            rw [h1, Nat.add_assoc]
            refine hcs (j + i) _ ?_
            rw [hl] at hi
            have hjb : j + i < bs.length := by rw [← HN.out]; omega
            simp [byteCells, hjb])
          rw [hl] at this
          exact this
        have hX : (if cap = j then (⟨b, off, none⟩ : Addr) else ⟨b, off + j, none⟩) = ⟨b, off + j, none⟩ := if_neg (by omega)
        have hcj : ¬ cap = j := by omega
        have hcj2 : ¬ cap - j = 0 := by omega
        clear hX hv0
        go_wp2_with fail
        go_quiet (fail)
        go_wp2_with fail
        go_quiet (fail)
        go_wp2_with fail
        go_ret
        refine ⟨(below_drewNR hb1).setCell (p := ⟨R, 1, none⟩) (Nat.le_refl R) _, .inl ⟨_, _, HT.out, ?_, ?_⟩⟩
        · rw [List.drop_drop, ← HJ.out]; rfl
        · rw [show ((p + (c + v) : Nat) : Int) = (j : Int) + (v : Int) by rw [HJ.out]; omega]
          exact (rdr_drewN hr).set _
    · have HX := Lib.hid (rdT_none2 HD.out (by rw [List.length_drop, ← HN.out]; have := HJ.out; omega))
      have hvz : ¬ (v : Int) ≤ (n : Int) - (j : Int) := by omega
      have hvz2 : (n : Int) - (j : Int) < (v : Int) := by omega
      clear HD hv
      go_wp2_with fail
      go_quiet (fail)
      go_wp2_with fail
      exact ⟨rfl, below_drewNR hb1, .inr ⟨HX.out, rfl⟩⟩
  · have HX := Lib.hid (rdT_none1 hrd)
    clear hrd CN
    go_wp2_with fail
    exact ⟨rfl, hb1, .inr ⟨HX.out, rfl⟩⟩
end Go.Proofs.YtoihfmjnonanjaaDoor
