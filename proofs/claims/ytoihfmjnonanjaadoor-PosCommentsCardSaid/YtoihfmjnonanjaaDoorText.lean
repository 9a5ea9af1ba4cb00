/- Plain laws about strings and their characters. No program is in sight. -/
import Derived.Test.YtoihfmjnonanjaaDoorPlain
import Derived.Shelf.GgClosure.StringsIndexFunc
namespace Go.Proofs.YtoihfmjnonanjaaDoor.Hk
open Go Go.Lib

/-- A valid string is the codes of its characters. -/
theorem enc_runes : ∀ (n : Nat) (l : List UInt8) (rs : List Nat), l.length ≤ n → runesD l = some rs → l = rs.flatMap fun (r : Nat) => encodeRune (r : Int)
  | 0, l, rs, h, hr => by
    have : l = [] := List.length_eq_zero_iff.1 (by omega)
    subst this
    rw [runesD_nil] at hr
    obtain rfl := Option.some.inj hr
    rfl
  | n + 1, l, rs, h, hr => by
    by_cases hl : l = []
    · subst hl
      rw [runesD_nil] at hr
      obtain rfl := Option.some.inj hr
      rfl
    · rw [runesD_step l hl] at hr
      by_cases hb : badAt l
      · rw [if_pos hb] at hr; cases hr
      · rw [if_neg hb] at hr
        obtain ⟨rs', h1, rfl⟩ := Option.map_eq_some_iff.1 hr
        have hw := decodeL_width l
        have hpos : 0 < l.length := List.length_pos_iff.2 hl
        have ih := enc_runes n (l.drop (decodeL l).2) rs' (by rw [List.length_drop]; omega) h1
        rw [List.flatMap_cons, ← ih, encode_decode l hl (badAt_no hb), List.take_append_drop]
theorem runes_enc {l : List UInt8} {rs : List Nat} (h : runesD l = some rs) : l = rs.flatMap fun (r : Nat) => encodeRune (r : Int) := enc_runes l.length l rs (Nat.le_refl _) h

/-- The characters of a valid string are characters. -/
def isRune (r : Nat) : Prop := r < 55296 ∨ 57343 < r ∧ r ≤ 1114111
theorem runes_are : ∀ (n : Nat) (l : List UInt8) (rs : List Nat), l.length ≤ n → runesD l = some rs → ∀ r ∈ rs, isRune r
  | 0, l, rs, h, hr => by
    have : l = [] := List.length_eq_zero_iff.1 (by omega)
    subst this
    rw [runesD_nil] at hr
    obtain rfl := Option.some.inj hr
    intro r hm
    cases hm
  | n + 1, l, rs, h, hr => by
    by_cases hl : l = []
    · subst hl
      rw [runesD_nil] at hr
      obtain rfl := Option.some.inj hr
      intro r hm
      cases hm
    · rw [runesD_step l hl] at hr
      by_cases hb : badAt l
      · rw [if_pos hb] at hr; cases hr
      · rw [if_neg hb] at hr
        obtain ⟨rs', h1, rfl⟩ := Option.map_eq_some_iff.1 hr
        have hw := decodeL_width l
        have hpos : 0 < l.length := List.length_pos_iff.2 hl
        have ih := runes_are n (l.drop (decodeL l).2) rs' (by rw [List.length_drop]; omega) h1
        intro r hm
        rcases List.mem_cons.1 hm with rfl | hm
        · unfold isRune
          rw [decodeL_N]
          have k0 := (l.getD 0 0).toNat_lt
          rcases decodeN_shape l.length (l.getD 0 0).toNat (l.getD 1 0).toNat (l.getD 2 0).toNat (l.getD 3 0).toNat with ⟨c, e⟩ | ⟨c1, c2, c3, cv, e⟩ | ⟨c1, c2, c3, c4, cv, cs, e⟩ | ⟨c1, c2, c3, c4, c5, cv, cw, e⟩ | e
          all_goals rw [e]; simp only; omega
        · exact ih r hm
theorem runesD_are {l : List UInt8} {rs : List Nat} (h : runesD l = some rs) : ∀ r ∈ rs, isRune r := runes_are l.length l rs (Nat.le_refl _) h

theorem runesD_length : ∀ (n : Nat) (l : List UInt8) (rs : List Nat), l.length ≤ n → runesD l = some rs → rs.length ≤ l.length
  | 0, l, rs, h, hr => by
    have : l = [] := List.length_eq_zero_iff.1 (by omega)
    subst this
    rw [runesD_nil] at hr
    obtain rfl := Option.some.inj hr
    exact Nat.le_refl _
  | n + 1, l, rs, h, hr => by
    by_cases hl : l = []
    · subst hl
      rw [runesD_nil] at hr
      obtain rfl := Option.some.inj hr
      exact Nat.le_refl _
    · rw [runesD_step l hl] at hr
      by_cases hb : badAt l
      · rw [if_pos hb] at hr; cases hr
      · rw [if_neg hb] at hr
        obtain ⟨rs', h1, rfl⟩ := Option.map_eq_some_iff.1 hr
        have hw := decodeL_width l
        have hpos : 0 < l.length := List.length_pos_iff.2 hl
        have ih := runesD_length n (l.drop (decodeL l).2) rs' (by rw [List.length_drop]; omega) h1
        rw [List.length_drop] at ih
        rw [List.length_cons]
        omega

/-- strings.ContainsFunc on a valid string asks its characters. -/
theorem idx_any (p : Nat → Bool) (s : ByteArray) : ∀ (f pos : Nat) (rs : List Nat), s.size ≤ pos + f → runesD (s.data.toList.drop pos) = some rs → decide (0 ≤ idxFuncFrom p true s f pos) = rs.any p
  | 0, pos, rs, h, hr => by
    have hn : s.data.toList.drop pos = [] := List.drop_eq_nil_of_le (by have h2 : s.size = s.data.toList.length := by simp
                                                                        omega)
    rw [hn, runesD_nil] at hr
    obtain rfl := Option.some.inj hr
    rfl
  | f + 1, pos, rs, h, hr => by
    have h2 : s.size = s.data.toList.length := by simp
    unfold idxFuncFrom
    by_cases hp : pos < s.size
    · rw [if_pos hp]
      have hne := drop_ne_nil s pos hp
      rw [runesD_step _ hne] at hr
      by_cases hb : badAt (s.data.toList.drop pos)
      · rw [if_pos hb] at hr; cases hr
      · rw [if_neg hb] at hr
        obtain ⟨rs', h1, rfl⟩ := Option.map_eq_some_iff.1 hr
        have hw := decodeL_width (s.data.toList.drop pos)
        rw [decodeL_drop] at hw h1 ⊢
        rw [List.drop_drop] at h1
        by_cases hq : p (Utf8.decode s pos).1 = true
        · rw [if_pos hq, List.any_cons, hq]
          simp
        · rw [if_neg hq, List.any_cons, idx_any p s f _ rs' (by omega) h1]
          simp [hq]
    · rw [if_neg hp]
      have hn : s.data.toList.drop pos = [] := List.drop_eq_nil_of_le (by omega)
      rw [hn, runesD_nil] at hr
      obtain rfl := Option.some.inj hr
      rfl
theorem contains_any (p : Nat → Bool) (s : ByteArray) (rs : List Nat) (h : runesD s.data.toList = some rs) : decide (0 ≤ idxFunc p true s) = rs.any p :=
  idx_any p s s.size 0 rs (by omega) (by simpa using h)

theorem toU8_ne (z : Int) (c : Nat) (h0 : 0 ≤ z) (h1 : z < 256) (hc : c < 256) (h : z ≠ c) : z.toNat.toUInt8 ≠ c.toUInt8 := by
  intro e
  have := congrArg UInt8.toNat e
  simp at this
  omega

/-- A zero byte is the code of the character 0, and of no other. -/
theorem enc_zero (r : Nat) (h : isRune r) : (0 : UInt8) ∈ encodeRune (r : Int) ↔ r = 0 := by
  unfold isRune at h
  unfold encodeRune
  by_cases h1 : r ≤ 127
  · rw [encodeRuneZ_one (by omega) (by omega)]
    simp only [List.map_cons, List.map_nil, List.mem_singleton]
    constructor
    · intro e
      by_cases hr : r = 0
      · exact hr
      · exact absurd e.symm (toU8_ne _ 0 (by omega) (by omega) (by omega) (by omega))
    · rintro rfl; rfl
  · refine ⟨fun hm => ?_, fun e => by omega⟩
    exfalso
    obtain ⟨z, hz, e⟩ := List.mem_map.1 hm
    refine toU8_ne z 0 ?_ ?_ (by omega) ?_ e
    all_goals
      by_cases h2 : r ≤ 2047
      · rw [encodeRuneZ_two (by omega) (by omega)] at hz
        simp only [List.mem_cons, List.mem_nil_iff, or_false] at hz
        omega
      · by_cases h3 : r ≤ 65535
        · rw [encodeRuneZ_three (by omega)] at hz
          simp only [List.mem_cons, List.mem_nil_iff, or_false] at hz
          omega
        · rw [encodeRuneZ_four (by omega) (by omega)] at hz
          simp only [List.mem_cons, List.mem_nil_iff, or_false] at hz
          omega
/-- No character's code has the byte 255. -/
theorem enc_ff (r : Nat) (h : isRune r) : (255 : UInt8) ∉ encodeRune (r : Int) := by
  unfold isRune at h
  unfold encodeRune
  intro hm
  obtain ⟨z, hz, e⟩ := List.mem_map.1 hm
  refine toU8_ne z 255 ?_ ?_ (by omega) ?_ e
  all_goals
    by_cases h1 : r ≤ 127
    · rw [encodeRuneZ_one (by omega) (by omega)] at hz
      simp only [List.mem_cons, List.mem_nil_iff, or_false] at hz
      omega
    · by_cases h2 : r ≤ 2047
      · rw [encodeRuneZ_two (by omega) (by omega)] at hz
        simp only [List.mem_cons, List.mem_nil_iff, or_false] at hz
        omega
      · by_cases h3 : r ≤ 65535
        · rw [encodeRuneZ_three (by omega)] at hz
          simp only [List.mem_cons, List.mem_nil_iff, or_false] at hz
          omega
        · rw [encodeRuneZ_four (by omega) (by omega)] at hz
          simp only [List.mem_cons, List.mem_nil_iff, or_false] at hz
          omega

theorem any_zero {l : List UInt8} {rs : List Nat} (h : runesD l = some rs) : (rs.any fun r => r == 0) = l.contains 0 := by
  rw [Bool.eq_iff_iff, List.any_eq_true, List.contains_iff_mem]
  have he := runes_enc h
  have ha := runesD_are h
  constructor
  · rintro ⟨r, hr, e⟩
    rw [he, List.mem_flatMap]
    exact ⟨r, hr, (enc_zero r (ha r hr)).2 (by simpa using e)⟩
  · intro hm
    rw [he, List.mem_flatMap] at hm
    obtain ⟨r, hr, hz⟩ := hm
    exact ⟨r, hr, by simpa using (enc_zero r (ha r hr)).1 hz⟩

theorem valid_no_ff {l : List UInt8} (h : validD l = true) : (255 : UInt8) ∉ l := by
  rw [validD_eq] at h
  obtain ⟨rs, hrs⟩ := Option.isSome_iff_exists.1 h
  intro hm
  rw [runes_enc hrs, List.mem_flatMap] at hm
  obtain ⟨r, hr, hz⟩ := hm
  exact enc_ff r (runesD_are hrs r hr) hz
end Go.Proofs.YtoihfmjnonanjaaDoor.Hk
