/- Plain law: a string has a character that is not one of names just where it has a byte that is none. No program is in sight. -/
import Derived.Test.YtoihfmjnonanjaaDoorText
import Derived.Test.YtoihfmjnonanjaaDoorPosP
namespace Go.Proofs.YtoihfmjnonanjaaDoor.Hk
open Go Go.Lib

/-- A character that is none of a name's. -/
def badc (r : Nat) : Bool := !okc r
theorem badc_big (r : Nat) (h : 128 ≤ r) : badc r = true := by
  unfold badc okc
  simp
  omega
theorem decode_small (s : ByteArray) (pos : Nat) (h : (s.data.toList.getD pos 0).toNat < 128) : Utf8.decode s pos = ((s.data.toList.getD pos 0).toNat, 1) := by
  rw [decode_N, dec1 _ _ _ _ _ h]
theorem decode_great (s : ByteArray) (pos : Nat) (h : 128 ≤ (s.data.toList.getD pos 0).toNat) : 128 ≤ (Utf8.decode s pos).1 := by
  rw [decode_N]
  generalize (s.data.toList.getD pos 0).toNat = b0 at *
  generalize (s.data.toList.getD (pos + 1) 0).toNat = b1 at *
  generalize (s.data.toList.getD (pos + 2) 0).toNat = b2 at *
  generalize (s.data.toList.getD (pos + 3) 0).toNat = b3 at *
  rcases decodeN_shape (s.data.toList.length - pos) b0 b1 b2 b3 with ⟨c, e⟩ | ⟨c1, c2, c3, cv, e⟩ | ⟨c1, c2, c3, c4, cv, cs, e⟩ | ⟨c1, c2, c3, c4, c5, cv, cw, e⟩ | e
  all_goals rw [e]; simp only; omega
theorem bad_from (s : ByteArray) : ∀ (f pos : Nat), s.size ≤ pos + f → decide (0 ≤ idxFuncFrom badc true s f pos) = (s.data.toList.drop pos).any fun c => !okc c.toNat
  | 0, pos, h => by
    have hn : s.data.toList.drop pos = [] := List.drop_eq_nil_of_le (by have h2 : s.size = s.data.toList.length := by simp
                                                                        omega)
    rw [hn]
    rfl
  | f + 1, pos, h => by
    have h2 : s.size = s.data.toList.length := by simp
    unfold idxFuncFrom
    by_cases hp : pos < s.size
    · have hp2 : pos < s.data.toList.length := by omega
      have hg : s.data.toList.getD pos 0 = s.data.toList[pos] := by rw [List.getD, List.getElem?_eq_getElem hp2]; rfl
      rw [if_pos hp, List.drop_eq_getElem_cons hp2, List.any_cons, ← hg]
      by_cases hs : (s.data.toList.getD pos 0).toNat < 128
      · rw [decode_small s pos hs]
        simp only
        cases hb : okc (s.data.toList.getD pos 0).toNat with
        | true =>
          have : badc (s.data.toList.getD pos 0).toNat = false := by unfold badc; rw [hb]; rfl
          rw [this, if_neg (by simp), bad_from s f (pos + 1) (by omega)]
          simp
        | false =>
          have : badc (s.data.toList.getD pos 0).toNat = true := by unfold badc; rw [hb]; rfl
          rw [this, if_pos rfl]
          simp
      · have h3 := badc_big _ (decode_great s pos (by omega))
        have h4 := badc_big _ (by omega : 128 ≤ (s.data.toList.getD pos 0).toNat)
        unfold badc at h4
        rw [h3, if_pos rfl, h4]
        simp
    · rw [if_neg hp]
      have hn : s.data.toList.drop pos = [] := List.drop_eq_nil_of_le (by omega)
      rw [hn]
      rfl
theorem bad_any (s : ByteArray) : decide (0 ≤ idxFunc badc true s) = !(s.data.toList.all fun c => okc c.toNat) := by
  have := bad_from s s.size 0 (by omega)
  rw [List.drop_zero] at this
  unfold idxFunc
  rw [this, List.any_eq_not_all_not]
  simp
end Go.Proofs.YtoihfmjnonanjaaDoor.Hk
