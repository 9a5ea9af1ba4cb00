/- Plain laws about the digits of a number's code. No program is in sight. -/
import Derived.Test.YtoihfmjnonanjaaDoorPosQ
import Derived.Laws.Bits64b
import Derived.IntWalk
namespace Go.Proofs.YtoihfmjnonanjaaDoor.Hk
open Go Go.Lib

theorem and_u8_fin : ∀ a : Fin 256, bits BinOp.and IntKind.u8 ((a.val : Nat) : Int) 127 = ((a.val % 128 : Nat) : Int) := by decide +kernel
theorem and_u8 (z : Nat) (h : z < 256) : bits BinOp.and IntKind.u8 (z : Int) 127 = ((z % 128 : Nat) : Int) := and_u8_fin ⟨z, h⟩
theorem pow_le_63 {k : Nat} (h : k ≤ 9) : 2 ^ (7 * k) ≤ 9223372036854775808 := Nat.pow_le_pow_right (n := 2) (by omega) (by omega : 7 * k ≤ 63)
/-- One digit more. -/
theorem digit_lt {k V d : Nat} (hk : k ≤ 9) (hV : V < 2 ^ (7 * k)) (hd : d < 128) (h9 : k = 9 → d ≤ 1) : V + 2 ^ (7 * k) * d < 18446744073709551616 ∧ V + 2 ^ (7 * k) * d < 2 ^ (7 * (k + 1)) := by
  have h2 : 2 ^ (7 * (k + 1)) = 2 ^ (7 * k) * 128 := by rw [show 7 * (k + 1) = 7 * k + 7 by omega, Nat.pow_add]
  have h3 : 2 ^ (7 * k) * d ≤ 2 ^ (7 * k) * 127 := Nat.mul_le_mul_left _ (by omega)
  refine ⟨?_, by rw [h2]; omega⟩
  by_cases h : k = 9
  · subst h
    have := h9 rfl
    have h4 : 2 ^ (7 * 9) * d ≤ 2 ^ (7 * 9) * 1 := Nat.mul_le_mul_left _ this
    have h5 : (2 : Nat) ^ (7 * 9) = 9223372036854775808 := by decide
    omega
  · have h4 : 2 ^ (7 * k) * 128 ≤ 2 ^ 63 := by rw [← h2]; exact Nat.pow_le_pow_right (by omega) (by omega)
    have h5 : (2 : Nat) ^ 63 = 9223372036854775808 := by decide
    omega
theorem acc_bits {k V z : Nat} (hk : k ≤ 9) (hV : V < 2 ^ (7 * k)) (hz : z < 256) (h9 : k = 9 → z ≤ 1) :
    bits BinOp.or IntKind.u64 (V : Int) (IntKind.u64.wrap (IntKind.u64.wrap (bits BinOp.and IntKind.u8 (z : Int) 127) * 2 ^ (7 * k))) = ((V + 2 ^ (7 * k) * (z % 128) : Nat) : Int) := by
  have hd := digit_lt hk hV (Nat.mod_lt z (by omega : 0 < 128)) (fun h => by have := h9 h; omega)
  have hp := pow_le_63 hk
  rw [and_u8 z hz, IntWalk.u64_in ((z % 128 : Nat) : Int) (by omega)]
  have e : ((z % 128 : Nat) : Int) * 2 ^ (7 * k) = ((2 ^ (7 * k) * (z % 128) : Nat) : Int) := by
    push_cast
    rw [Int.mul_comm]
  rw [e, IntWalk.u64_in ((2 ^ (7 * k) * (z % 128) : Nat) : Int) (by omega), bits_or_u64_nat _ _ (by omega) (by omega)]
  congr 1
  rw [Nat.or_comm, ← Nat.two_pow_add_eq_or_of_lt hV, Nat.add_comm]
theorem num_bad {k V : Nat} {c : UInt8} {t : List UInt8} {X : Option (Nat × Nat)} (h : X = (rdU k (c :: t)).map fun x => (V + 2 ^ (7 * k) * x.1, x.2 + k)) (hb : k = 9 ∧ 1 < c.toNat ∨ 0 < k ∧ c.toNat = 0) : X = none := by
  rw [h, rdU, if_pos hb]
  rfl
theorem num_done {k V : Nat} {c : UInt8} {t : List UInt8} {X : Option (Nat × Nat)} (h : X = (rdU k (c :: t)).map fun x => (V + 2 ^ (7 * k) * x.1, x.2 + k)) (hb : ¬ (k = 9 ∧ 1 < c.toNat ∨ 0 < k ∧ c.toNat = 0)) (h1 : c.toNat < 128) : X = some (V + 2 ^ (7 * k) * (c.toNat % 128), k + 1) := by
  rw [h, rdU, if_neg hb, if_pos h1, Nat.mod_eq_of_lt h1, Nat.add_comm k 1]
  rfl
theorem num_next {k V : Nat} {c : UInt8} {t : List UInt8} {X : Option (Nat × Nat)} (h : X = (rdU k (c :: t)).map fun x => (V + 2 ^ (7 * k) * x.1, x.2 + k)) (hb : ¬ (k = 9 ∧ 1 < c.toNat ∨ 0 < k ∧ c.toNat = 0)) (h1 : ¬ c.toNat < 128) :
    X = (rdU (k + 1) t).map fun x => ((V + 2 ^ (7 * k) * (c.toNat % 128)) + 2 ^ (7 * (k + 1)) * x.1, x.2 + (k + 1)) := by
  rw [h, rdU, if_neg hb, if_neg h1, Option.map_map]
  congr 1
  funext x
  simp only [Function.comp]
  rw [show 7 * (k + 1) = 7 * k + 7 by omega, Nat.pow_add, Nat.mul_add]
  congr 1
  · rw [← Nat.mul_assoc, Nat.add_assoc]
  · omega
end Go.Proofs.YtoihfmjnonanjaaDoor.Hk
