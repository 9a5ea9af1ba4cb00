/- Plain laws of keys under a prefix, and what henkanlaw30.between computes. -/
import Derived.Test.YtbdiimldociobaaDoorKeysT
namespace Go.Proofs.YtbdiimldociobaaDoor
open Go.RowKit Go.Lib Go.Shelf Hk
set_option linter.unusedSimpArgs false
set_option linter.unusedVariables false
set_option maxRecDepth 100000

theorem sandwich : ∀ (q a c b : List UInt8), Op.bytesLess (q ++ a) b = true → Op.bytesLess b (q ++ c) = true → ∃ r, b = q ++ r
  | [], _, _, b, _, _ => ⟨b, rfl⟩
  | x :: q, a, c, [], h1, _ => by simp [Op.bytesLess] at h1
  | x :: q, a, c, y :: b, h1, h2 => by
    simp only [List.cons_append, Op.bytesLess, Bool.or_eq_true, Bool.and_eq_true, decide_eq_true_eq, beq_iff_eq, UInt8.lt_iff_toNat_lt] at h1 h2
    have hxy : x = y := by
      rcases h1 with h1 | ⟨h1, _⟩
      · rcases h2 with h2 | ⟨h2, _⟩
        · omega
        · exact h2.symm
      · exact h1
    subst hxy
    obtain ⟨r, hr⟩ := sandwich q a c b (by rcases h1 with h1 | h1; · omega
                                           · exact h1.2) (by rcases h2 with h2 | h2; · omega
                                                             · exact h2.2)
    exact ⟨r, by rw [hr]; rfl⟩

theorem kunder_true {l p : List UInt8} (h : kunder l p = true) : ∃ r s, l = 49 :: (r ++ 0 :: s) ∧ (0 : UInt8) ∉ r ∧ p <+: r := by
  unfold kunder at h
  cases hp : kparse l with
  | none => rw [hp] at h; cases h
  | some x =>
    obtain ⟨k, a, b⟩ := x
    rw [hp] at h
    simp only [Bool.and_eq_true, beq_iff_eq] at h
    obtain ⟨rfl, h2⟩ := h
    obtain ⟨_, h3, _, _, h4⟩ := kmk_some ((kparse_iff _ _ _ _).1 hp)
    exact ⟨a, b, h4, kpart_no_zero h3, List.isPrefixOf_iff_prefix.1 h2⟩

/-- Between two keys under a prefix there are only keys under it. -/
theorem between_law {a b c p : List UInt8} (ha : kunder a p = true) (hc : kunder c p = true) (hb : (kparse b).isSome = true) (h1 : Op.bytesLess a b = true) (h2 : Op.bytesLess b c = true) : kunder b p = true := by
  obtain ⟨ra, sa, rfl, za, ⟨ta, rfl⟩⟩ := kunder_true ha
  obtain ⟨rc, sc, rfl, zc, ⟨tc, rfl⟩⟩ := kunder_true hc
  obtain ⟨x, hx⟩ := Option.isSome_iff_exists.1 hb
  obtain ⟨k, r, s⟩ := x
  obtain ⟨hk, hr, _, _, e⟩ := kmk_some ((kparse_iff _ _ _ _).1 hx)
  have h1' : Op.bytesLess ((49 :: p) ++ (ta ++ 0 :: sa)) b = true := by simpa using h1
  have h2' : Op.bytesLess b ((49 :: p) ++ (tc ++ 0 :: sc)) = true := by simpa using h2
  obtain ⟨t, ht⟩ := sandwich (49 :: p) _ _ b h1' h2'
  rw [e] at ht
  obtain ⟨e1, e2⟩ := List.cons.inj (show (48 + k).toNat.toUInt8 :: (r ++ 0 :: s) = 49 :: (p ++ t) from ht)
  have hk1 : k = 1 := by
    rcases hk with rfl | rfl
    · rfl
    · exact absurd e1 (by decide)
  subst hk1
  unfold kunder
  rw [hx]
  have hpz : (0 : UInt8) ∉ p := fun hm => za (List.mem_append_left _ hm)
  have hpr : p <+: r := by
    rcases Nat.lt_or_ge r.length p.length with hl | hl
    · exfalso
      have hp2 : (r ++ [0]) <+: p := by
        refine List.prefix_of_prefix_length_le (l₃ := p ++ t) ?_ (List.prefix_append _ _) (by simp; omega)
        rw [← e2]
        exact ⟨s, by simp⟩
      exact hpz (hp2.mem (by simp))
    · exact List.prefix_of_prefix_length_le (l₃ := p ++ t) (List.prefix_append _ _) (by rw [← e2]; exact List.prefix_append _ _) hl
  simp only [Bool.and_eq_true, beq_self_eq_true, true_and]
  exact List.isPrefixOf_iff_prefix.2 hpr

set_option maxHeartbeats 4000000 in
theorem between_calls (a b c p : ByteArray) (w : World) (ha : a.size ≤ 9223372036854775807) (hb : b.size ≤ 9223372036854775807) (hc : c.size ≤ 9223372036854775807) (hp : p.size ≤ 9223372036854775807) (he : Env w) :
    Calls Tryd.prog 19 #[.string a, .string b, .string c, .string p] w fun e w' => e = .returned (.bool true) ∧ Below w.heap.size w w' := by
  have HE := Lib.hid he
  clear he
  by_cases h1 : 1000 < a.size
  · go_enter Tryd.func19, Tryd.ntmps19
    go_wp2_with fail
    go_ret
    exact ⟨rfl, Below.refl _ _⟩
  by_cases h2 : 1000 < b.size
  · go_enter Tryd.func19, Tryd.ntmps19
    go_wp2_with fail
    go_ret
    exact ⟨rfl, Below.refl _ _⟩
  by_cases h3 : 1000 < c.size
  · go_enter Tryd.func19, Tryd.ntmps19
    go_wp2_with fail
    go_ret
    exact ⟨rfl, Below.refl _ _⟩
  by_cases h4 : 1000 < p.size
  · go_enter Tryd.func19, Tryd.ntmps19
    go_wp2_with fail
    go_ret
    exact ⟨rfl, Below.refl _ _⟩
  have C1 := Lib.hid fun W (hW : Env W) => under_calls a p W (by omega) hW
  have C2 := Lib.hid fun W (hW : Env W) => under_calls c p W (by omega) hW
  have C3 := Lib.hid fun W (hW : Env W) => valid_calls b W (by omega) hW
  have C4 := Lib.hid fun W (hW : Env W) => under_calls b p W (by omega) hW
  have CW := Lib.hid works_calls
  have HL := Lib.hid (@between_law a.data.toList b.data.toList c.data.toList p.data.toList)
  simp only [← ByteArray.toList_eq a, ← ByteArray.toList_eq b, ← ByteArray.toList_eq c] at HL C1 C2 C3 C4
  generalize kunder a.toList p.data.toList = x1 at *
  generalize kunder c.toList p.data.toList = x2 at *
  generalize (kparse b.toList).isSome = x3 at *
  generalize kunder b.toList p.data.toList = x4 at *
  cases x1 with
  | false =>
    clear HL
    go_enter Tryd.func19, Tryd.ntmps19
    go_wp2_with fail
    refine (C1.out _ HE.out).mono ?_
    rintro e w1 ⟨rfl, hb1⟩
    go_wp2_with fail
    refine (CW.out _ (HE.out.below hb1)).mono ?_
    rintro e w2 ⟨rfl, hb2⟩
    replace hb2 := qtrans hb1 hb2
    clear hb1
    go_wp2_with fail
    go_ret
    exact ⟨rfl, hb2⟩
  | true =>
  cases x2 with
  | false =>
    clear HL
    go_enter Tryd.func19, Tryd.ntmps19
    go_wp2_with fail
    refine (C1.out _ HE.out).mono ?_
    rintro e w1 ⟨rfl, hb1⟩
    go_wp2_with fail
    refine (C2.out _ (HE.out.below hb1)).mono ?_
    rintro e w2 ⟨rfl, hb2⟩
    replace hb2 := qtrans hb1 hb2
    clear hb1
    go_wp2_with fail
    refine (CW.out _ (HE.out.below hb2)).mono ?_
    rintro e w3 ⟨rfl, hb3⟩
    replace hb3 := qtrans hb2 hb3
    clear hb2
    go_wp2_with fail
    go_ret
    exact ⟨rfl, hb3⟩
  | true =>
  cases x3 with
  | false =>
    clear HL
    go_enter Tryd.func19, Tryd.ntmps19
    go_wp2_with fail
    refine (C1.out _ HE.out).mono ?_
    rintro e w1 ⟨rfl, hb1⟩
    go_wp2_with fail
    refine (C2.out _ (HE.out.below hb1)).mono ?_
    rintro e w2 ⟨rfl, hb2⟩
    replace hb2 := qtrans hb1 hb2
    clear hb1
    go_wp2_with fail
    refine (C3.out _ (HE.out.below hb2)).mono ?_
    rintro e w3 ⟨rfl, hb3⟩
    replace hb3 := qtrans hb2 hb3
    clear hb2
    go_wp2_with fail
    refine (CW.out _ (HE.out.below hb3)).mono ?_
    rintro e w4 ⟨rfl, hb4⟩
    replace hb4 := qtrans hb3 hb4
    clear hb3
    go_wp2_with fail
    go_ret
    exact ⟨rfl, hb4⟩
  | true =>
  cases q1 : Op.bytesLess a.toList b.toList with
  | false =>
    clear HL
    go_enter Tryd.func19, Tryd.ntmps19
    go_wp2_with fail
    refine (C1.out _ HE.out).mono ?_
    rintro e w1 ⟨rfl, hb1⟩
    go_wp2_with fail
    refine (C2.out _ (HE.out.below hb1)).mono ?_
    rintro e w2 ⟨rfl, hb2⟩
    replace hb2 := qtrans hb1 hb2
    clear hb1
    go_wp2_with fail
    refine (C3.out _ (HE.out.below hb2)).mono ?_
    rintro e w3 ⟨rfl, hb3⟩
    replace hb3 := qtrans hb2 hb3
    clear hb2
    go_wp2_with fail
    refine (CW.out _ (HE.out.below hb3)).mono ?_
    rintro e w4 ⟨rfl, hb4⟩
    replace hb4 := qtrans hb3 hb4
    clear hb3
    go_wp2_with fail
    go_ret
    exact ⟨rfl, hb4⟩
  | true =>
  cases q2 : Op.bytesLess b.toList c.toList with
  | false =>
    clear HL
    go_enter Tryd.func19, Tryd.ntmps19
    go_wp2_with fail
    refine (C1.out _ HE.out).mono ?_
    rintro e w1 ⟨rfl, hb1⟩
    go_wp2_with fail
    refine (C2.out _ (HE.out.below hb1)).mono ?_
    rintro e w2 ⟨rfl, hb2⟩
    replace hb2 := qtrans hb1 hb2
    clear hb1
    go_wp2_with fail
    refine (C3.out _ (HE.out.below hb2)).mono ?_
    rintro e w3 ⟨rfl, hb3⟩
    replace hb3 := qtrans hb2 hb3
    clear hb2
    go_wp2_with fail
    refine (CW.out _ (HE.out.below hb3)).mono ?_
    rintro e w4 ⟨rfl, hb4⟩
    replace hb4 := qtrans hb3 hb4
    clear hb3
    go_wp2_with fail
    go_ret
    exact ⟨rfl, hb4⟩
  | true =>
    obtain rfl := HL.out rfl rfl rfl q1 q2
    clear HL
    go_enter Tryd.func19, Tryd.ntmps19
    go_wp2_with fail
    refine (C1.out _ HE.out).mono ?_
    rintro e w1 ⟨rfl, hb1⟩
    go_wp2_with fail
    refine (C2.out _ (HE.out.below hb1)).mono ?_
    rintro e w2 ⟨rfl, hb2⟩
    replace hb2 := qtrans hb1 hb2
    clear hb1
    go_wp2_with fail
    refine (C3.out _ (HE.out.below hb2)).mono ?_
    rintro e w3 ⟨rfl, hb3⟩
    replace hb3 := qtrans hb2 hb3
    clear hb2
    go_wp2_with fail
    refine (C4.out _ (HE.out.below hb3)).mono ?_
    rintro e w4 ⟨rfl, hb4⟩
    replace hb4 := qtrans hb3 hb4
    clear hb3
    go_wp2_with fail
    refine (CW.out _ (HE.out.below hb4)).mono ?_
    rintro e w5 ⟨rfl, hb5⟩
    replace hb5 := qtrans hb4 hb5
    clear hb4
    go_wp2_with fail
    go_ret
    exact ⟨rfl, hb5⟩
end Go.Proofs.YtbdiimldociobaaDoor
