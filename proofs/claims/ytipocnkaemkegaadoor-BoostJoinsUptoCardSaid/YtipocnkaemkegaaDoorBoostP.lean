/- Plain laws of bonuses and of the lists of layer 32. No program is in sight. -/
import Derived.Test.YtipocnkaemkegaaDoorKeysP
import Derived.Lib.BitFns
namespace Go.Proofs.YtipocnkaemkegaaDoor.Hk
open Go Go.Lib

theorem bitLenAux_fuel : ∀ (f g x : Nat), x < 2 ^ f → x < 2 ^ g → bitLenAux f x = bitLenAux g x
  | 0, g, x, hf, _ => by
    have : x = 0 := by simp at hf; exact hf
    subst this
    cases g <;> simp [bitLenAux]
  | f + 1, 0, x, _, hg => by
    have : x = 0 := by simp at hg; exact hg
    subst this
    simp [bitLenAux]
  | f + 1, g + 1, x, hf, hg => by
    unfold bitLenAux
    by_cases h : x = 0
    · rw [if_pos h, if_pos h]
    · rw [if_neg h, if_neg h, bitLenAux_fuel f g (x / 2) (by rw [Nat.pow_succ] at hf; omega) (by rw [Nat.pow_succ] at hg; omega)]

theorem bitLen_half (x : Nat) (h0 : x ≠ 0) (h : x < 18446744073709551616) : Lib.bitLen x = 1 + Lib.bitLen (x / 2) := by
  unfold Lib.bitLen
  rw [show bitLenAux 64 x = if x = 0 then 0 else 1 + bitLenAux 63 (x / 2) by rw [bitLenAux], if_neg h0,
    bitLenAux_fuel 63 64 (x / 2) (by rw [show (2 : Nat) ^ 63 = 9223372036854775808 by decide]; omega) (by rw [show (2 : Nat) ^ 64 = 18446744073709551616 by decide]; omega)]
theorem bitLen_zero : Lib.bitLen 0 = 0 := by decide +kernel
theorem bitLenAux_le : ∀ f x, bitLenAux f x ≤ f
  | 0, _ => Nat.le_refl _
  | f + 1, x => by
    unfold bitLenAux
    split
    · omega
    · have := bitLenAux_le f (x / 2)
      omega
theorem bitLen_le (x : Nat) : Lib.bitLen x ≤ 64 := by unfold Lib.bitLen; exact bitLenAux_le 64 x
theorem bitLenAux_mono : ∀ (f x y : Nat), x ≤ y → bitLenAux f x ≤ bitLenAux f y
  | 0, _, _, _ => Nat.le_refl _
  | f + 1, x, y, h => by
    unfold bitLenAux
    by_cases hx : x = 0
    · rw [if_pos hx]; omega
    · rw [if_neg hx, if_neg (by omega)]
      have := bitLenAux_mono f (x / 2) (y / 2) (by omega)
      omega
theorem bitLen_mono {x y : Nat} (h : x ≤ y) : Lib.bitLen x ≤ Lib.bitLen y := by unfold Lib.bitLen; exact bitLenAux_mono 64 x y h

/-- The bonus of a count. -/
def bonusN (v : Nat) : Nat := if v = 0 then 0 else min 3000 (500 + 250 * Lib.bitLen (v / 65536))
def bonusD (v : Int) : Int := (bonusN v.toNat : Int)

theorem bonusN_le (v : Nat) : bonusN v ≤ 3000 := by unfold bonusN; split <;> omega
theorem bonusD_range (v : Int) : 0 ≤ bonusD v ∧ bonusD v ≤ 3000 := by have := bonusN_le v.toNat; unfold bonusD; omega
theorem bonusD_neg (v : Int) (h : v ≤ 0) : bonusD v = 0 := by
  unfold bonusD bonusN
  rw [if_pos (by omega)]; rfl
theorem bonusD_pos (v : Int) (h : 0 < v) : bonusD v = min 3000 (500 + 250 * (Lib.bitLen (v / 65536).toNat : Int)) := by
  unfold bonusD bonusN
  rw [if_neg (by omega)]
  have : v.toNat / 65536 = (v / 65536).toNat := by omega
  rw [this]
  omega
theorem bonusN_mono {v w : Nat} (h : v ≤ w) : bonusN v ≤ bonusN w := by
  unfold bonusN
  have := bitLen_mono (show v / 65536 ≤ w / 65536 by omega)
  split <;> split <;> omega
theorem bonusD_mono {v w : Int} (h : v ≤ w) : bonusD v ≤ bonusD w := by
  have := bonusN_mono (show v.toNat ≤ w.toNat by omega)
  unfold bonusD
  omega
theorem bonusD_least (v : Int) (h : 0 < v) : 500 ≤ bonusD v := by
  rw [bonusD_pos v h]; omega
theorem bonusD_double (v : Int) (h : 65536 ≤ v) (h2 : v ≤ 4611686018427387903) : bonusD (2 * v) = bonusD v + 250 ∨ bonusD (2 * v) = 3000 := by
  rw [bonusD_pos v (by omega), bonusD_pos (2 * v) (by omega)]
  have e : Lib.bitLen (2 * v / 65536).toNat = 1 + Lib.bitLen (v / 65536).toNat := by
    rw [bitLen_half _ (by omega) (by omega)]
    have : (2 * v / 65536).toNat / 2 = (v / 65536).toNat := by omega
    rw [this]
  rw [e]
  omega

/-- The loop of henkanref32.Bonus. -/
def bonusAt (x : Nat) : Nat := 250 * Lib.bitLen x
theorem bonusAt_zero : bonusAt 0 = 0 := by unfold bonusAt; rw [bitLen_zero]
theorem bonusAt_half (x : Nat) (h0 : x ≠ 0) (h : x < 18446744073709551616) : bonusAt x = 250 + bonusAt (x / 2) := by
  unfold bonusAt
  rw [bitLen_half x h0 h]
  omega

/-- A count: its key and its value. -/
abbrev Cnt := ByteArray × Int
/-- What is made of a count: two strings and a bonus. -/
abbrev Lrn := ByteArray × ByteArray × Int

def one (kind : Int) (c : Cnt) : Option Lrn :=
  match kparse c.1.data.toList with
  | some (k, a, b) => if k = kind ∧ 0 < c.2 then some (⟨a.toArray⟩, ⟨b.toArray⟩, bonusD c.2) else none
  | none => none
def many (kind : Int) (l : List Cnt) : List Lrn := l.filterMap (one kind)
theorem many_length (kind : Int) (l : List Cnt) : (many kind l).length ≤ l.length := List.length_filterMap_le _ _
theorem many_snoc (kind : Int) (l : List Cnt) (c : Cnt) : many kind (l ++ [c]) = many kind l ++ (one kind c).toList := by
  unfold many
  rw [List.filterMap_append]
  cases h : one kind c <;> simp [h]
theorem many_append (kind : Int) (l m : List Cnt) : many kind (l ++ m) = many kind l ++ many kind m := List.filterMap_append
theorem one_none {kind : Int} {c : Cnt} (h : kparse c.1.data.toList = none) : one kind c = none := by unfold one; rw [h]
theorem one_other {kind : Int} {c : Cnt} {k : Int} {a b : List UInt8} (h : kparse c.1.data.toList = some (k, a, b)) (hk : k ≠ kind) : one kind c = none := by unfold one; rw [h]; exact if_neg fun e => hk e.1
theorem one_neg {kind : Int} {c : Cnt} {k : Int} {a b : List UInt8} (h : kparse c.1.data.toList = some (k, a, b)) (hv : ¬ 0 < c.2) : one kind c = none := by unfold one; rw [h]; exact if_neg fun e => hv e.2
theorem one_yes {kind : Int} {c : Cnt} {k : Int} {a b : List UInt8} (h : kparse c.1.data.toList = some (k, a, b)) (hk : k = kind) (hv : 0 < c.2) : one kind c = some (⟨a.toArray⟩, ⟨b.toArray⟩, bonusD c.2) := by unfold one; rw [h]; exact if_pos ⟨hk, hv⟩
/-- A count is in at most one of the two lists. -/
theorem one_once (c : Cnt) : (many 1 [c]).length + (many 2 [c]).length ≤ 1 := by
  unfold many
  cases h1 : one 1 c with
  | none => cases h2 : one 2 c <;> simp [h1, h2]
  | some x =>
    have h2 : one 2 c = none := by
      unfold one at h1 ⊢
      cases hp : kparse c.1.data.toList with
      | none => rfl
      | some t =>
        obtain ⟨k, a, b⟩ := t
        rw [hp] at h1
        simp only at h1 ⊢
        rw [if_neg]
        intro e
        rw [if_neg (by omega)] at h1
        cases h1
    simp [h1, h2]
end Go.Proofs.YtipocnkaemkegaaDoor.Hk
