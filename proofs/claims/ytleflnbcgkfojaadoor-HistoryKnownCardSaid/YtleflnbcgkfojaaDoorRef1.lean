/- What the functions of henkanref01 compute: the reference's reading of UTF-8. -/
import Derived.Test.YtleflnbcgkfojaaDoorProg
import Derived.Test.YtleflnbcgkfojaaDoorPlain
import Derived.WalkKit
import Derived.WalkMore
import Derived.WalkSpells
import Derived.WalkLawsBesides
import Derived.Below
import Derived.Lib.Hide
namespace Go.Proofs.YtleflnbcgkfojaaDoor
open Go.RowKit Go.Lib Hk
set_option linter.unusedSimpArgs false
set_option linter.unusedVariables false
set_option maxRecDepth 100000

theorem ret_tuple2 {a b c d : Value} (h1 : a = c) (h2 : b = d) : Ending.returned (.tuple #[a, b]) = .returned (.tuple #[c, d]) := by rw [h1, h2]

theorem int_congr {k : IntKind} {a b : Int} (h : a = b) : Value.int k a = Value.int k b := by rw [h]

set_option maxHeartbeats 400000 in
theorem length_calls (b : Nat) (w : World) (hb : b < 256) :
    Calls Tryd.prog 60 #[.int .u8 (b : Int)] w fun e w' => e = .returned (.tuple #[.int .i64 ((rlen b).1 : Nat), .int .i32 ((rlen b).2 : Nat)]) ∧ w = w' := by
  rcases rlen_cases b with ⟨h, e⟩ | ⟨h1, h2, e⟩ | ⟨h1, h2, e⟩ | ⟨h1, h2, e⟩ | ⟨h, e⟩
  · rw [e]
    clear e
    go_enter Tryd.func60, Tryd.ntmps60
    go_wp2
    go_ret2
    exact ⟨ret_tuple2 rfl (int_congr (by omega)), rfl⟩
  · rw [e]
    clear e
    go_enter Tryd.func60, Tryd.ntmps60
    go_wp2
    go_ret2
    exact ⟨ret_tuple2 rfl (int_congr (by omega)), rfl⟩
  · rw [e]
    clear e
    go_enter Tryd.func60, Tryd.ntmps60
    go_wp2
    go_ret2
    exact ⟨ret_tuple2 rfl (int_congr (by omega)), rfl⟩
  · rw [e]
    clear e
    go_enter Tryd.func60, Tryd.ntmps60
    go_wp2
    go_ret2
    exact ⟨ret_tuple2 rfl (int_congr (by omega)), rfl⟩
  · rw [e]
    clear e
    rcases h with h | h
    all_goals
      go_enter Tryd.func60, Tryd.ntmps60
      go_wp2
      go_ret2
      exact ⟨ret_tuple2 rfl (int_congr (by omega)), rfl⟩

theorem character_calls (c : Nat) (w : World) (hc : c < 2147483648) :
    Calls Tryd.prog 61 #[.int .i32 (c : Int)] w fun e w' => e = .returned (.bool (rchar c)) ∧ w = w' := by
  have h0 : (0 : Int) ≤ c := by omega
  have HR : Hid (rchar c = (decide (c ≤ 1114111) && (decide (c < 55296) || decide (57343 < c)))) := rfl
  generalize rchar c = r at *
  by_cases h1 : c ≤ 1114111
  · by_cases h2 : c < 55296
    · go_enter Tryd.func61, Tryd.ntmps61
      go_wp2
      go_ret
      exact ⟨by rw [HR.out]; simp [h1, h2], rfl⟩
    · by_cases h3 : 57343 < c
      · go_enter Tryd.func61, Tryd.ntmps61
        go_wp2
        go_ret
        exact ⟨by rw [HR.out]; simp [h1, h2, h3]; omega, rfl⟩
      · go_enter Tryd.func61, Tryd.ntmps61
        go_wp2
        go_ret
        exact ⟨by rw [HR.out]; simp [h1, h2, h3]; omega, rfl⟩
  · go_enter Tryd.func61, Tryd.ntmps61
    go_wp2
    go_ret
    exact ⟨by rw [HR.out]; simp [h1], rfl⟩

theorem least_at (m : Nat) (h1 : 1 ≤ m) (h4 : m ≤ 4) : #[Value.int .i32 0, .int .i32 0, .int .i32 128, .int .i32 2048, .int .i32 65536][m]? = some (.int .i32 (rleast m : Nat)) := by
  have : m = 1 ∨ m = 2 ∨ m = 3 ∨ m = 4 := by omega
  rcases this with rfl | rfl | rfl | rfl <;> rfl

/-- The bytes from 1 on, up to k, go on a code. -/
def Cont (B : Nat → Nat) (k : Nat) : Prop := ∀ j, 1 ≤ j → j < k → 128 ≤ B j ∧ B j ≤ 191

set_option maxHeartbeats 1000000 in
theorem next_calls (s : ByteArray) (p : Nat) (w : World) (hs : s.size ≤ 4611686018427387904) (hp : p < s.size) :
    Calls Tryd.prog 54 #[.string s, .int .i64 (p : Int)] w fun e w' => e = .returned (.tuple #[.int .i32 ((rnext s p).1 : Nat), .int .i64 ((rnext s p).2 : Nat)]) ∧ Below w.heap.size w w' := by
  obtain ⟨b0, hb0⟩ : ∃ b0 : Nat, (s.get! p).toNat = b0 := ⟨_, rfl⟩
  have hs0 : s[p].toNat = b0 := by rw [← hb0, get_of_lt s p hp]
  have h256 : b0 < 256 := by rw [← hb0]; exact UInt8.toNat_lt _
  obtain ⟨B, hB⟩ : ∃ B, B = rb (s.get! (p + 1)).toNat (s.get! (p + 2)).toNat (s.get! (p + 3)).toNat := ⟨_, rfl⟩
  obtain ⟨m, c0, hm⟩ : ∃ m c0, rlen b0 = (m, c0) := ⟨_, _, rfl⟩
  have hbd := rlen_le b0
  rw [hm] at hbd
  obtain ⟨hm4, hc0⟩ : m ≤ 4 ∧ c0 < 128 := hbd
  have cL := fun W => length_calls b0 W h256
  rw [hm] at cL
  have CL := Lib.hid cL
  clear cL
  have HB := Lib.hid hB
  have HM : Hid (rlen (s.get! p).toNat = (m, c0)) := by rw [hb0]; exact hm
  clear hm hB hb0
  by_cases hm0 : m = 0
  · have HN := Lib.hid (rnext_no s p B HB.out m c0 HM.out hp (.inl hm0))
    have hmz : ((m : Int) == 0) = true := by simp [hm0]
    clear hm0
    go_enter Tryd.func54, Tryd.ntmps54
    go_wp2_with (go_at_call 60; refine (CL.out _).mono ?_; rintro e w' ⟨rfl, rfl⟩)
    go_ret2
    exact ⟨by rw [HN.out]; rfl, Below.refl _ _⟩
  have hmz : ((m : Int) == 0) = false := by simp [hm0]
  by_cases hfit : s.size - p < m
  · have HN := Lib.hid (rnext_no s p B HB.out m c0 HM.out hp (.inr (.inl hfit)))
    go_enter Tryd.func54, Tryd.ntmps54
    go_wp2_with (go_at_call 60; refine (CL.out _).mono ?_; rintro e w' ⟨rfl, rfl⟩)
    go_ret2
    exact ⟨by rw [HN.out]; rfl, Below.refl _ _⟩
  have q1 : decide ((p : Int) < 0) = false := by simp
  have q2 : decide ((s.size : Int) - p < m) = false := by simp; omega
  have hm1 : 1 ≤ m := by omega
  clear hm0
  go_enter Tryd.func54, Tryd.ntmps54
  go_wp2_with (go_at_call 60; refine (CL.out _).mono ?_; rintro e w' ⟨rfl, rfl⟩)
  clear CL q1 q2 hmz hs0
  go_loop [7, 8] (fun c i => ∃ k : Nat, (1 ≤ k ∧ k ≤ m) ∧ i = .int .i64 k ∧ c = .int .i32 (racc c0 B (k - 1) : Nat) ∧ Cont B k) (fun _ i => m - (intOf i).toNat)
  case atStart => exact ⟨1, ⟨Nat.le_refl _, hm1⟩, rfl, rfl, fun j h1 h2 => by omega⟩
  case round =>
    obtain ⟨k, ⟨hk1, hk2⟩, rfl, rfl, hcont⟩ := hrel
    have hRb := racc_lt c0 B hc0 (k - 1) fun j h1 h2 => (hcont j h1 (by omega)).2
    have hRc : racc c0 B (k - 1) < 33554432 := by
      have : 64 ^ (k - 1) ≤ 64 ^ 3 := Nat.pow_le_pow_right (by omega) (by omega)
      have e3 : (64 : Nat) ^ 3 = 262144 := by decide
      rw [e3] at this
      generalize 64 ^ (k - 1) = P at *
      omega
    have hRd : k < m → racc c0 B (k - 1) < 524288 := by
      intro hk
      have : 64 ^ (k - 1) ≤ 64 ^ 2 := Nat.pow_le_pow_right (by omega) (by omega)
      have e3 : (64 : Nat) ^ 2 = 4096 := by decide
      rw [e3] at this
      generalize 64 ^ (k - 1) = P at *
      omega
    clear hRb
    by_cases hlt : k < m
    · replace hRd := hRd hlt
      obtain ⟨b, hb⟩ : ∃ b : Nat, B k = b := ⟨_, rfl⟩
      have hpk : p + k < s.size := by omega
      have hsk : s[p + k].toNat = b := by rw [← hb, HB.out, rb_at s p k hk1 (by omega), get_of_lt s (p + k) hpk]
      have h256b : b < 256 := by rw [← hsk]; exact UInt8.toNat_lt _
      have HR := Lib.hid (racc_succ c0 B k hk1)
      have HBk := Lib.hid hb
      clear hb
      by_cases hbad : b < 128 ∨ 191 < b
      · have HN := Lib.hid (rnext_no s p B HB.out m c0 HM.out hp (.inr (.inr (.inl ⟨k, hk1, hlt, by rw [HBk.out]; exact hbad⟩))))
        rcases hbad with hbad | hbad
        all_goals
          generalize racc c0 B (k - 1) = R at *
          go_wp2
          go_ret2
          exact ⟨by rw [HN.out]; rfl, Below.refl _ _⟩
      · have hge : 128 ≤ b := by omega
        have hle : b ≤ 191 := by omega
        clear hbad
        generalize racc c0 B (k - 1) = R at *
        go_wp2
        go_round
        case rel => exact ⟨k + 1, by omega, by go_num, int_congr (by rw [show k + 1 - 1 = k from rfl, HR.out, HBk.out]; omega), fun j h1 h2 => by
          by_cases e : j = k
          · rw [e, HBk.out]; exact ⟨hge, hle⟩
          · exact hcont j h1 (by omega)⟩
        case measure => simp [intOf]; omega
    · clear hRd
      obtain rfl : m = k := by omega
      have hl4 := least_at m hk1 hm4
      obtain ⟨L, hL⟩ : ∃ L, rleast m = L := ⟨_, rfl⟩
      have HY := Lib.hid (rnext_yes s p B HB.out m c0 HM.out (by omega) (by omega) hcont)
      have HN := Lib.hid fun h => rnext_no s p B HB.out m c0 HM.out hp (.inr (.inr (.inr h)))
      have cC := fun W => character_calls (racc c0 B (m - 1)) W (by omega)
      obtain ⟨r, hr⟩ : ∃ r, rchar (racc c0 B (m - 1)) = r := ⟨_, rfl⟩
      rw [hL] at hl4 HY HN
      rw [hr] at HY HN
      simp only [hr] at cC
      have CC := Lib.hid cC
      clear hr hL cC hcont HM HB hlt
      generalize racc c0 B (m - 1) = R at *
      by_cases hlow : R < L
      · go_wp2
        go_ret2
        exact ⟨by rw [HN.out (.inl hlow)]; rfl, (Below.refl _ _).alloc (Nat.le_refl _) _⟩
      · cases r with
        | false =>
          go_wp2_with (go_at_call 61; refine (CC.out _).mono ?_; rintro e w' ⟨rfl, rfl⟩)
          go_ret2
          exact ⟨by rw [HN.out (.inr (by simp))]; rfl, (Below.refl _ _).alloc (Nat.le_refl _) _⟩
        | true =>
          go_wp2_with (go_at_call 61; refine (CC.out _).mono ?_; rintro e w' ⟨rfl, rfl⟩)
          go_ret2
          exact ⟨by rw [HY.out (by omega) (by simp)]; rfl, (Below.refl _ _).alloc (Nat.le_refl _) _⟩
end Go.Proofs.YtleflnbcgkfojaaDoor
