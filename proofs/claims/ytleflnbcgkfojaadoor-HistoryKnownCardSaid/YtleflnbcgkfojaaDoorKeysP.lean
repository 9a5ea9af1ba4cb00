/- Plain laws about the keys of what is learned. No program is in sight. -/
import Derived.Test.YtleflnbcgkfojaaDoorText
import Derived.Lib.IndexBytes
import Derived.Lib.IndexMore
namespace Go.Proofs.YtleflnbcgkfojaaDoor.Hk
open Go Go.Lib
set_option linter.unusedSimpArgs false
set_option linter.unusedVariables false

def kpart (l : List UInt8) : Bool := !l.isEmpty && (validD l && !l.contains 0)
def kmk (kind : Int) (a b : List UInt8) : Option (List UInt8) :=
  if (kind = 1 ∨ kind = 2) ∧ kpart a = true ∧ kpart b = true ∧ a.length + b.length ≤ 398 then some ((48 + kind).toNat.toUInt8 :: (a ++ 0 :: b)) else none

def cutA : List UInt8 → List UInt8
  | [] => []
  | c :: l => if c = 0 then [] else c :: cutA l
def cutB : List UInt8 → List UInt8
  | [] => []
  | c :: l => if c = 0 then l else cutB l

theorem index_zero : ∀ l : List UInt8, (index l [0] = -1 ∧ cutA l = l ∧ cutB l = [] ∧ (0 : UInt8) ∉ l) ∨ (∃ n : Nat, index l [0] = n ∧ cutA l = l.take n ∧ cutB l = l.drop (n + 1) ∧ l = cutA l ++ 0 :: cutB l)
  | [] => .inl ⟨rfl, rfl, rfl, by simp⟩
  | c :: l => by
    unfold index cutA cutB
    by_cases hc : c = 0
    · right
      subst hc
      exact ⟨0, by simp, by simp, by simp, by simp⟩
    · have hp : List.isPrefixOf [0] (c :: l) = false := by simp [List.isPrefixOf, Ne.symm hc]
      rw [hp, if_neg hc, if_neg hc]
      rcases index_zero l with ⟨h1, h2, h3, h4⟩ | ⟨n, h1, h2, h3, h4⟩
      · left
        rw [h1]
        exact ⟨by simp, by rw [h2], h3, by simp [Ne.symm hc, h4]⟩
      · right
        refine ⟨n + 1, ?_, by rw [h2]; simp, by rw [h3]; simp, by rw [List.cons_append, ← h4]⟩
        rw [h1]
        have : ((n : Int) == -1) = false := by simp
        rw [this]
        simp

theorem cut_zero (l : List UInt8) : (cut l [0]).1 = cutA l ∧ (cut l [0]).2.1 = cutB l := by
  unfold cut
  rcases index_zero l with ⟨h1, h2, h3, _⟩ | ⟨n, h1, h2, h3, _⟩
  · rw [h1, if_neg (by omega), h2, h3]
    exact ⟨rfl, rfl⟩
  · rw [h1, if_pos (by omega), h2, h3]
    exact ⟨by simp, by simp⟩
theorem cut_no (l : List UInt8) (h : (0 : UInt8) ∉ l) : cutB l = [] := by
  rcases index_zero l with ⟨h1, h2, h3, _⟩ | ⟨n, h1, h2, h3, h4⟩
  · exact h3
  · rw [h4] at h
    exact absurd (by simp) h
theorem cut_yes (l : List UInt8) (h : (0 : UInt8) ∈ l) : l = cutA l ++ 0 :: cutB l := by
  rcases index_zero l with ⟨h1, h2, h3, h4⟩ | ⟨n, h1, h2, h3, h4⟩
  · exact absurd h h4
  · exact h4
theorem cut_app : ∀ (a b : List UInt8), (0 : UInt8) ∉ a → cutA (a ++ 0 :: b) = a ∧ cutB (a ++ 0 :: b) = b
  | [], b, _ => by simp [cutA, cutB]
  | c :: a, b, h => by
    have hc : c ≠ 0 := fun e => h (by simp [e])
    have ih := cut_app a b fun hm => h (by simp [hm])
    simp [cutA, cutB, hc, ih]

def kparse (l : List UInt8) : Option (Int × List UInt8 × List UInt8) :=
  match l with
  | [] => none
  | c :: r => if (kmk ((c.toNat : Int) - 48) (cutA r) (cutB r)).isSome = true then some ((c.toNat : Int) - 48, cutA r, cutB r) else none

theorem kpart_no_zero {l : List UInt8} (h : kpart l = true) : (0 : UInt8) ∉ l := by
  unfold kpart at h
  simp only [Bool.and_eq_true, Bool.not_eq_true'] at h
  intro hm
  have := h.2.2
  rw [List.contains_iff_mem.2 hm] at this
  cases this
theorem kpart_ne {l : List UInt8} (h : kpart l = true) : l ≠ [] := by
  rintro rfl
  simp [kpart] at h
theorem kpart_valid {l : List UInt8} (h : kpart l = true) : validD l = true := by
  unfold kpart at h
  simp only [Bool.and_eq_true] at h
  exact h.2.1

theorem kmk_some {k : Int} {a b l : List UInt8} (h : kmk k a b = some l) : (k = 1 ∨ k = 2) ∧ kpart a = true ∧ kpart b = true ∧ a.length + b.length ≤ 398 ∧ l = (48 + k).toNat.toUInt8 :: (a ++ 0 :: b) := by
  unfold kmk at h
  split at h
  · next hc => exact ⟨hc.1, hc.2.1, hc.2.2.1, hc.2.2.2, (Option.some.inj h).symm⟩
  · cases h
theorem byte_kind (k : Int) (h : k = 1 ∨ k = 2) : (((48 + k).toNat.toUInt8).toNat : Int) - 48 = k := by
  rcases h with rfl | rfl <;> decide
theorem kind_byte (c : UInt8) (h : (c.toNat : Int) - 48 = 1 ∨ (c.toNat : Int) - 48 = 2) : (48 + ((c.toNat : Int) - 48)).toNat.toUInt8 = c := by
  have e : (48 + ((c.toNat : Int) - 48)).toNat = c.toNat := by omega
  rw [e]
  simp

/-- A string is the key of what it is parsed into, and of nothing else. -/
theorem kparse_iff (l : List UInt8) (k : Int) (a b : List UInt8) : kparse l = some (k, a, b) ↔ kmk k a b = some l := by
  constructor
  · intro h
    cases l with
    | nil => cases h
    | cons c r =>
      simp only [kparse] at h
      split at h
      · next hs =>
        obtain ⟨rfl, rfl, rfl⟩ : (c.toNat : Int) - 48 = k ∧ cutA r = a ∧ cutB r = b := by
          have := Option.some.inj h
          simp only [Prod.mk.injEq] at this
          exact this
        obtain ⟨y, hy⟩ := Option.isSome_iff_exists.1 hs
        obtain ⟨hk, ha, hb, hl, e⟩ := kmk_some hy
        have hz : (0 : UInt8) ∈ r := by
          by_cases hz : (0 : UInt8) ∈ r
          · exact hz
          · exact absurd (cut_no r hz) (kpart_ne hb)
        rw [hy, e, kind_byte c hk, ← cut_yes r hz]
      · cases h
  · intro h
    obtain ⟨hk, ha, hb, hl, rfl⟩ := kmk_some h
    simp only [kparse]
    obtain ⟨e1, e2⟩ := cut_app a b (kpart_no_zero ha)
    rw [byte_kind k hk, e1, e2, h]
    rfl
end Go.Proofs.YtleflnbcgkfojaaDoor.Hk
