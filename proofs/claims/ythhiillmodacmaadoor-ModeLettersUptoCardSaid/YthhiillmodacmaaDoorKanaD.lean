/- Plain laws about kana: what each character becomes in each form, and what a string of characters becomes. No program is in sight. -/
import Derived.Test.YthhiillmodacmaaDoorText
namespace Go.Proofs.YthhiillmodacmaaDoor.Hk
open Go Go.Lib

/-- The code of characters. -/
def encT (rs : List Nat) : List UInt8 := rs.flatMap fun (r : Nat) => encodeRune (r : Int)
theorem encT_nil : encT [] = [] := rfl
theorem encT_cons (r : Nat) (rs : List Nat) : encT (r :: rs) = encodeRune (r : Int) ++ encT rs := rfl
theorem encT_append (a b : List Nat) : encT (a ++ b) = encT a ++ encT b := List.flatMap_append
theorem encT_snoc (a : List Nat) (r : Nat) : encT (a ++ [r]) = encT a ++ encodeRune (r : Int) := by rw [encT_append, encT_cons, encT_nil, List.append_nil]

theorem u8i (z : Int) (h0 : 0 ≤ z) (h1 : z < 256) : (z.toNat.toUInt8).toNat = z.toNat := by
  have : z.toNat % 256 = z.toNat := Nat.mod_eq_of_lt (by omega)
  simpa using this

theorem enc_len (r : Int) : 1 ≤ (encodeRune r).length ∧ (encodeRune r).length ≤ 4 := by
  have := encodeRuneZ_length r
  simpa [encodeRune] using this
theorem encT_len : ∀ rs : List Nat, rs.length ≤ (encT rs).length ∧ (encT rs).length ≤ 4 * rs.length
  | [] => by simp [encT_nil]
  | r :: rs => by
    have h1 := enc_len (r : Int)
    have h2 := encT_len rs
    rw [encT_cons, List.length_append, List.length_cons]
    omega

theorem dec_enc (r : Nat) (h : isRune r) (t : List UInt8) : decodeL (encodeRune (r : Int) ++ t) = (r, (encodeRune (r : Int)).length) ∧ badAt (encodeRune (r : Int) ++ t) = false := by
  unfold isRune at h
  have key : decodeL (encodeRune (r : Int) ++ t) = (r, (encodeRune (r : Int)).length) ∧ (r = 65533 → (encodeRune (r : Int)).length ≠ 1) := by
    rw [decodeL_N]
    unfold encodeRune
    by_cases h1 : r ≤ 127
    · rw [encodeRuneZ_one (by omega) (by omega)]
      simp only [List.map_cons, List.map_nil, List.cons_append, List.nil_append, List.getD_cons_zero, List.length_cons, List.length_nil]
      rw [u8i _ (by omega) (by omega), dec1 _ _ _ _ _ (by omega)]
      exact ⟨Prod.ext (by simp) rfl, fun e => by omega⟩
    · by_cases h2 : r ≤ 2047
      · rw [encodeRuneZ_two (by omega) (by omega)]
        simp only [List.map_cons, List.map_nil, List.cons_append, List.nil_append, List.getD_cons_zero, List.getD_cons_succ, List.length_cons, List.length_nil]
        rw [u8i (192 + (r : Int) / 64) (by omega) (by omega), u8i (128 + (r : Int) % 64) (by omega) (by omega), dec2 _ _ _ _ _ (by omega), if_pos (by omega)]
        exact ⟨Prod.ext (by simp only; omega) rfl, fun e => by omega⟩
      · by_cases h3 : r ≤ 65535
        · rw [encodeRuneZ_three (by omega)]
          simp only [List.map_cons, List.map_nil, List.cons_append, List.nil_append, List.getD_cons_zero, List.getD_cons_succ, List.length_cons, List.length_nil]
          have e : 64 * (64 * ((224 + (r : Int) / 4096).toNat - 224) + ((128 + (r : Int) / 64 % 64).toNat - 128)) + ((128 + (r : Int) % 64).toNat - 128) = r := by omega
          rw [u8i (224 + (r : Int) / 4096) (by omega) (by omega), u8i (128 + (r : Int) / 64 % 64) (by omega) (by omega), u8i (128 + (r : Int) % 64) (by omega) (by omega), dec3 _ _ _ _ _ (by omega), e]
          have hc : rchar r = true := by simp only [rchar, Bool.and_eq_true, Bool.or_eq_true, decide_eq_true_eq]; omega
          rw [if_pos ⟨by omega, by omega, by omega, by omega, hc⟩]
          exact ⟨rfl, fun _ => by simp⟩
        · rw [encodeRuneZ_four (by omega) (by omega)]
          simp only [List.map_cons, List.map_nil, List.cons_append, List.nil_append, List.getD_cons_zero, List.getD_cons_succ, List.length_cons, List.length_nil]
          have e : 64 * (64 * (64 * ((240 + (r : Int) / 262144).toNat - 240) + ((128 + (r : Int) / 4096 % 64).toNat - 128)) + ((128 + (r : Int) / 64 % 64).toNat - 128)) + ((128 + (r : Int) % 64).toNat - 128) = r := by omega
          rw [u8i (240 + (r : Int) / 262144) (by omega) (by omega), u8i (128 + (r : Int) / 4096 % 64) (by omega) (by omega), u8i (128 + (r : Int) / 64 % 64) (by omega) (by omega), u8i (128 + (r : Int) % 64) (by omega) (by omega), dec4 _ _ _ _ _ (by omega), e]
          have hc : rchar r = true := by simp only [rchar, Bool.and_eq_true, Bool.or_eq_true, decide_eq_true_eq]; omega
          rw [if_pos ⟨by omega, by omega, by omega, by omega, by omega, hc⟩]
          exact ⟨rfl, fun _ => by simp⟩
  refine ⟨key.1, ?_⟩
  unfold badAt
  rw [key.1]
  exact decide_eq_false fun e => key.2 e.1 e.2

theorem runesD_cons (r : Nat) (h : isRune r) (t : List UInt8) : runesD (encodeRune (r : Int) ++ t) = (runesD t).map (r :: ·) := by
  have hl := (enc_len (r : Int)).1
  have hne : encodeRune (r : Int) ++ t ≠ [] := by
    intro e
    have := congrArg List.length e
    rw [List.length_append] at this
    simp at this
    have h0 : (encodeRune (r : Int)).length = 0 := by rw [this.1]; rfl
    omega
  obtain ⟨h1, h2⟩ := dec_enc r h t
  rw [runesD_step _ hne, h1, h2]
  simp
theorem runesD_enc : ∀ rs : List Nat, (∀ r ∈ rs, isRune r) → runesD (encT rs) = some rs
  | [], _ => rfl
  | r :: rs, h => by
    rw [encT_cons, runesD_cons r (h r List.mem_cons_self), runesD_enc rs fun x hx => h x (List.mem_cons_of_mem _ hx)]
    rfl
theorem enc_of {l : List UInt8} {rs : List Nat} (h : runesD l = some rs) : l = encT rs := runes_enc h
theorem runesD_append {a b : List UInt8} {x y : List Nat} (ha : runesD a = some x) (hb : runesD b = some y) : runesD (a ++ b) = some (x ++ y) := by
  rw [enc_of ha, enc_of hb, ← encT_append]
  refine runesD_enc _ fun r hr => ?_
  rcases List.mem_append.1 hr with h | h
  · exact runesD_are ha r h
  · exact runesD_are hb r h

/-- What strings.Map makes of a valid string. -/
theorem mapD_enc (f : Int → Int) (g : Nat → Nat) : ∀ rs : List Nat, (∀ r ∈ rs, isRune r) → (∀ r ∈ rs, f (r : Int) = (g r : Int)) → mapD f (encT rs) = encT (rs.map g)
  | [], _, _ => rfl
  | r :: rs, h, hf => by
    have hl := (enc_len (r : Int)).1
    have hne : encodeRune (r : Int) ++ encT rs ≠ [] := by
      intro e
      have := congrArg List.length e
      rw [List.length_append] at this
      simp at this
      have h0 : (encodeRune (r : Int)).length = 0 := by rw [this.1]; rfl
      omega
    rw [encT_cons, mapD_step f _ hne, (dec_enc r (h r List.mem_cons_self) _).1]
    simp only [List.drop_left, hf r List.mem_cons_self]
    rw [if_pos (by omega), mapD_enc f g rs (fun x hx => h x (List.mem_cons_of_mem _ hx)) (fun x hx => hf x (List.mem_cons_of_mem _ hx)), List.map_cons, encT_cons]

/-! ### What a character becomes -/
def hiraC (r : Nat) : Nat := if 12449 ≤ r ∧ r ≤ 12534 then r - 96 else r
def kataC (r : Nat) : Nat := if 12353 ≤ r ∧ r ≤ 12438 then r + 96 else r
def wideC (r : Nat) : Nat := if r = 32 then 12288 else if 33 ≤ r ∧ r ≤ 126 then r + 65248 else r
def narrowC (r : Nat) : Nat := if r = 12288 then 32 else if 65281 ≤ r ∧ r ≤ 65374 then r - 65248 else r
theorem hira_rune {r : Nat} (h : isRune r) : isRune (hiraC r) := by unfold isRune hiraC at *; split <;> omega
theorem kata_rune {r : Nat} (h : isRune r) : isRune (kataC r) := by unfold isRune kataC at *; split <;> omega
theorem wide_rune {r : Nat} (h : isRune r) : isRune (wideC r) := by unfold isRune wideC at *; (repeat' split) <;> omega
theorem narrow_rune {r : Nat} (h : isRune r) : isRune (narrowC r) := by unfold isRune narrowC at *; (repeat' split) <;> omega
theorem hira_hira (r : Nat) : hiraC (hiraC r) = hiraC r := by unfold hiraC; (repeat' split) <;> omega
theorem kata_kata (r : Nat) : kataC (kataC r) = kataC r := by unfold kataC; (repeat' split) <;> omega
theorem hira_kata (r : Nat) : hiraC (kataC r) = hiraC r := by unfold hiraC kataC; (repeat' split) <;> omega
theorem kata_hira (r : Nat) : kataC (hiraC r) = kataC r := by unfold hiraC kataC; (repeat' split) <;> omega
theorem wide_wide (r : Nat) : wideC (wideC r) = wideC r := by unfold wideC; (repeat' split) <;> omega
theorem narrow_narrow (r : Nat) : narrowC (narrowC r) = narrowC r := by unfold narrowC; (repeat' split) <;> omega
theorem narrow_wide (r : Nat) : narrowC (wideC r) = narrowC r := by unfold narrowC wideC; (repeat' split) <;> omega
theorem wide_narrow (r : Nat) : wideC (narrowC r) = wideC r := by unfold narrowC wideC; (repeat' split) <;> omega

def tableL : List Nat := [12290, 12300, 12301, 12289, 12539, 12530, 12449, 12451, 12453, 12455, 12457, 12515, 12517, 12519, 12483, 12540, 12450, 12452, 12454, 12456, 12458, 12459, 12461, 12463, 12465, 12467, 12469, 12471, 12473, 12475, 12477, 12479, 12481, 12484, 12486, 12488, 12490, 12491, 12492, 12493, 12494, 12495, 12498, 12501, 12504, 12507, 12510, 12511, 12512, 12513, 12514, 12516, 12518, 12520, 12521, 12522, 12523, 12524, 12525, 12527, 12531]
def voicedL : List Nat := [12459, 12461, 12463, 12465, 12467, 12469, 12471, 12473, 12475, 12477, 12479, 12481, 12484, 12486, 12488, 12495, 12498, 12501, 12504, 12507]
def halfL : List Nat := [12495, 12498, 12501, 12504, 12507]
def formsL : List (Nat × List Nat) := [(12509, [65422, 65439]), (12506, [65421, 65439]), (12503, [65420, 65439]), (12500, [65419, 65439]), (12497, [65418, 65439]), (12508, [65422, 65438]), (12505, [65421, 65438]), (12502, [65420, 65438]), (12499, [65419, 65438]), (12496, [65418, 65438]), (12489, [65412, 65438]), (12487, [65411, 65438]), (12485, [65410, 65438]), (12482, [65409, 65438]), (12480, [65408, 65438]), (12478, [65407, 65438]), (12476, [65406, 65438]), (12474, [65405, 65438]), (12472, [65404, 65438]), (12470, [65403, 65438]), (12468, [65402, 65438]), (12466, [65401, 65438]), (12464, [65400, 65438]), (12462, [65399, 65438]), (12460, [65398, 65438]), (12532, [65395, 65438]), (12531, [65437]), (12527, [65436]), (12525, [65435]), (12524, [65434]), (12523, [65433]), (12522, [65432]), (12521, [65431]), (12520, [65430]), (12518, [65429]), (12516, [65428]), (12514, [65427]), (12513, [65426]), (12512, [65425]), (12511, [65424]), (12510, [65423]), (12507, [65422]), (12504, [65421]), (12501, [65420]), (12498, [65419]), (12495, [65418]), (12494, [65417]), (12493, [65416]), (12492, [65415]), (12491, [65414]), (12490, [65413]), (12488, [65412]), (12486, [65411]), (12484, [65410]), (12481, [65409]), (12479, [65408]), (12477, [65407]), (12475, [65406]), (12473, [65405]), (12471, [65404]), (12469, [65403]), (12467, [65402]), (12465, [65401]), (12463, [65400]), (12461, [65399]), (12459, [65398]), (12458, [65397]), (12456, [65396]), (12454, [65395]), (12452, [65394]), (12450, [65393]), (12540, [65392]), (12483, [65391]), (12519, [65390]), (12517, [65389]), (12515, [65388]), (12457, [65387]), (12455, [65386]), (12453, [65385]), (12451, [65384]), (12449, [65383]), (12530, [65382]), (12539, [65381]), (12289, [65380]), (12301, [65379]), (12300, [65378]), (12290, [65377])]
def pairsL : List Nat := [12454, 12532, 12459, 12460, 12461, 12462, 12463, 12464, 12465, 12466, 12467, 12468, 12469, 12470, 12471, 12472, 12473, 12474, 12475, 12476, 12477, 12478, 12479, 12480, 12481, 12482, 12484, 12485, 12486, 12487, 12488, 12489, 12495, 12496, 12498, 12499, 12501, 12502, 12504, 12505, 12507, 12508, 124, 12495, 12497, 12498, 12500, 12501, 12503, 12504, 12506, 12507, 12509]

/-- The half-width form of a character, if it has one. -/
def halfK (c : Nat) : List Nat := (formsL.lookup c).getD []
/-- What a character becomes half-width. -/
def halfC (c : Nat) : List Nat := if halfK (kataC c) = [] then [c] else halfK (kataC c)
/-- The kana that c becomes with a sound mark; 0: none. -/
def markedD (c m : Nat) : Nat := if m = 65438 ∧ c = 12454 then 12532 else if m = 65438 ∧ c ∈ voicedL then c + 1 else if m = 65439 ∧ c ∈ halfL then c + 2 else 0
def tabD (c : Nat) : Nat := tableL.getD (c - 65377) 0
def markC (c : Nat) : Nat := if c = 65438 then 12443 else if c = 65439 then 12444 else c
def inTab (c : Nat) : Bool := decide (65377 ≤ c ∧ c ≤ 65437)
/-- What a string becomes full-width. -/
def fullC : List Nat → List Nat
  | [] => []
  | [c] => [if inTab c then tabD c else markC c]
  | c :: m :: rest => if inTab c then (if markedD (tabD c) m ≠ 0 then markedD (tabD c) m :: fullC rest else tabD c :: fullC (m :: rest)) else markC c :: fullC (m :: rest)

theorem lookup_mem {α : Type} : ∀ (l : List (Nat × α)) (c : Nat) (h : α), l.lookup c = some h → (c, h) ∈ l
  | [], c, h, e => by simp at e
  | (k, v) :: l, c, h, e => by
    rw [List.lookup_cons] at e
    by_cases hk : c = k
    · subst hk
      simp at e
      subst e
      exact List.mem_cons_self
    · have : (c == k) = false := by simpa using hk
      rw [this] at e
      exact List.mem_cons_of_mem _ (lookup_mem l c h e)
theorem lookup_none {α : Type} : ∀ (l : List (Nat × α)) (c : Nat), l.lookup c = none → ∀ h, (c, h) ∉ l
  | [], c, e, h => by simp
  | (k, v) :: l, c, e, h => by
    rw [List.lookup_cons] at e
    by_cases hk : c = k
    · subst hk; simp at e
    · have : (c == k) = false := by simpa using hk
      rw [this] at e
      intro hm
      rcases List.mem_cons.1 hm with h1 | h1
      · exact hk (by injection h1)
      · exact lookup_none l c e h h1

/-- Each form: one half-width character, or one with a mark; from it the character comes back. -/
def formOk (x : Nat × List Nat) : Bool := match x.2 with
  | [a] => inTab a && (tabD a == x.1) && decide (12289 ≤ x.1 ∧ x.1 ≤ 12540)
  | [a, m] => inTab a && (decide (m = 65438) || decide (m = 65439)) && (markedD (tabD a) m == x.1) && decide (12289 ≤ x.1 ∧ x.1 ≤ 12540)
  | _ => false
theorem forms_ok : formsL.all formOk = true := by decide +kernel
theorem halfK_shape (c : Nat) : halfK c = [] ∨ ((∃ a, halfK c = [a] ∧ inTab a = true ∧ tabD a = c) ∨ ∃ a m, halfK c = [a, m] ∧ inTab a = true ∧ (m = 65438 ∨ m = 65439) ∧ markedD (tabD a) m = c) ∧ 12289 ≤ c ∧ c ≤ 12540 := by
  unfold halfK
  cases h : formsL.lookup c with
  | none => exact .inl rfl
  | some v =>
    right
    have := List.all_eq_true.1 forms_ok _ (lookup_mem _ _ _ h)
    unfold formOk at this
    match v, this with
    | [a], h =>
      simp only [Bool.and_eq_true, beq_iff_eq, decide_eq_true_eq] at h
      exact ⟨.inl ⟨a, rfl, h.1.1, h.1.2⟩, h.2⟩
    | [a, m], h =>
      simp only [Bool.and_eq_true, Bool.or_eq_true, beq_iff_eq, decide_eq_true_eq] at h
      exact ⟨.inr ⟨a, m, rfl, h.1.1.1, h.1.1.2, h.1.2⟩, h.2⟩
    | [], h => cases h
    | _ :: _ :: _ :: _, h => cases h

theorem tab_ok : ∀ i : Fin 61, 12289 ≤ tableL.getD i.val 0 ∧ tableL.getD i.val 0 ≤ 12540 := by decide +kernel
theorem inTab_iff (c : Nat) : inTab c = true ↔ 65377 ≤ c ∧ c ≤ 65437 := by unfold inTab; simp
theorem tabD_ok {c : Nat} (h : inTab c = true) : 12289 ≤ tabD c ∧ tabD c ≤ 12540 := by
  rw [inTab_iff] at h
  exact tab_ok ⟨c - 65377, by omega⟩
theorem voiced_ok : ∀ c ∈ voicedL, 12459 ≤ c ∧ c ≤ 12507 := by decide +kernel
theorem half_ok : ∀ c ∈ halfL, 12495 ≤ c ∧ c ≤ 12507 := by decide +kernel
theorem marked_ok (c m : Nat) : markedD c m = 0 ∨ (12289 ≤ markedD c m ∧ markedD c m ≤ 12540 ∧ (m = 65438 ∨ m = 65439)) := by
  unfold markedD
  by_cases h1 : m = 65438 ∧ c = 12454
  · rw [if_pos h1]; omega
  · rw [if_neg h1]
    by_cases h2 : m = 65438 ∧ c ∈ voicedL
    · have := voiced_ok c h2.2
      rw [if_pos h2]; omega
    · rw [if_neg h2]
      by_cases h3 : m = 65439 ∧ c ∈ halfL
      · have := half_ok c h3.2
        rw [if_pos h3]; omega
      · rw [if_neg h3]; omega
theorem marked_no {c m : Nat} (h : ¬ (m = 65438 ∨ m = 65439)) : markedD c m = 0 := by
  rcases marked_ok c m with e | e
  · exact e
  · exact absurd e.2.2 h

theorem halfC_rune {c : Nat} (h : isRune c) : ∀ x ∈ halfC c, isRune x := by
  intro x hx
  unfold halfC at hx
  split at hx
  · simp at hx; subst hx; exact h
  · rename_i hne
    rcases halfK_shape (kataC c) with e | ⟨⟨a, e, ha, _⟩ | ⟨a, m, e, ha, hm, _⟩, _⟩
    · exact absurd e hne
    · rw [e] at hx
      rw [inTab_iff] at ha
      simp at hx; subst hx; unfold isRune; omega
    · rw [e] at hx
      rw [inTab_iff] at ha
      simp at hx
      unfold isRune
      rcases hx with rfl | rfl <;> omega
theorem halfC_len (c : Nat) : 1 ≤ (halfC c).length ∧ (halfC c).length ≤ 2 := by
  unfold halfC
  split
  · simp
  · rename_i hne
    rcases halfK_shape (kataC c) with e | ⟨⟨a, e, ha, _⟩ | ⟨a, m, e, ha, hm, _⟩, _⟩
    · exact absurd e hne
    · rw [e]; simp
    · rw [e]; simp
theorem half_len : ∀ rs : List Nat, rs.length ≤ (rs.flatMap halfC).length ∧ (rs.flatMap halfC).length ≤ 2 * rs.length
  | [] => by simp
  | c :: rs => by
    have h1 := halfC_len c
    have h2 := half_len rs
    rw [List.flatMap_cons, List.length_append, List.length_cons]
    omega
theorem half_rune {rs : List Nat} (h : ∀ r ∈ rs, isRune r) : ∀ x ∈ rs.flatMap halfC, isRune x := by
  intro x hx
  obtain ⟨c, hc, hx⟩ := List.mem_flatMap.1 hx
  exact halfC_rune (h c hc) x hx

theorem markC_rune {c : Nat} (h : isRune c) : isRune (markC c) := by unfold isRune markC at *; (repeat' split) <;> omega
theorem small_rune {c : Nat} (h : 12289 ≤ c ∧ c ≤ 12540) : isRune c := by unfold isRune; omega
theorem marked_rune {c m : Nat} (h : markedD c m ≠ 0) : isRune (markedD c m) := by
  rcases marked_ok c m with e | e
  · exact absurd e h
  · exact small_rune ⟨e.1, e.2.1⟩
theorem full_rune : ∀ rs : List Nat, (∀ r ∈ rs, isRune r) → ∀ x ∈ fullC rs, isRune x
  | [], _, x, hx => by simp [fullC] at hx
  | [c], h, x, hx => by
    rw [fullC] at hx
    simp only [List.mem_singleton] at hx
    subst hx
    split
    · rename_i ht; exact small_rune (tabD_ok ht)
    · exact markC_rune (h c (by simp))
  | c :: m :: rest, h, x, hx => by
    rw [fullC] at hx
    split at hx
    · rename_i ht
      split at hx
      · rename_i hm
        rcases List.mem_cons.1 hx with rfl | hx
        · exact marked_rune hm
        · exact full_rune rest (fun r hr => h r (by simp [hr])) x hx
      · rcases List.mem_cons.1 hx with hx | hx
        · rw [hx]; exact small_rune (tabD_ok ht)
        · exact full_rune (m :: rest) (fun r hr => h r (List.mem_cons_of_mem _ hr)) x hx
    · rcases List.mem_cons.1 hx with rfl | hx
      · exact markC_rune (h c (by simp))
      · exact full_rune (m :: rest) (fun r hr => h r (List.mem_cons_of_mem _ hr)) x hx
theorem full_len : ∀ rs : List Nat, (fullC rs).length ≤ rs.length ∧ rs.length ≤ 2 * (fullC rs).length
  | [] => by simp [fullC]
  | [c] => by simp [fullC]
  | c :: m :: rest => by
    have h1 := full_len rest
    have h2 := full_len (m :: rest)
    rw [fullC]
    split
    · split
      · simp only [List.length_cons] at *; omega
      · simp only [List.length_cons] at *; omega
    · simp only [List.length_cons] at *; omega

/-! ### Once is enough -/
theorem halfK_tab {a : Nat} (h : 65377 ≤ a ∧ a ≤ 65439) : halfK (kataC a) = [] := by
  have : kataC a = a := by unfold kataC; rw [if_neg (by omega)]
  rw [this]
  rcases halfK_shape a with e | e
  · exact e
  · omega
theorem halfC_tab {a : Nat} (h : 65377 ≤ a ∧ a ≤ 65439) : halfC a = [a] := by unfold halfC; rw [if_pos (halfK_tab h)]
theorem half_halfC (c : Nat) : (halfC c).flatMap halfC = halfC c := by
  by_cases hz : halfK (kataC c) = []
  · have e : halfC c = [c] := by unfold halfC; rw [if_pos hz]
    rw [e, List.flatMap_cons, e]; rfl
  · have e : halfC c = halfK (kataC c) := by unfold halfC; rw [if_neg hz]
    rw [e]
    rcases halfK_shape (kataC c) with e2 | ⟨⟨a, e2, ha, _⟩ | ⟨a, m, e2, ha, hm, _⟩, _⟩
    · exact absurd e2 hz
    · rw [inTab_iff] at ha
      rw [e2, List.flatMap_cons, halfC_tab (by omega)]; rfl
    · rw [inTab_iff] at ha
      rw [e2, List.flatMap_cons, List.flatMap_cons, halfC_tab (by omega), halfC_tab (by omega)]; rfl
theorem half_half : ∀ rs : List Nat, (rs.flatMap halfC).flatMap halfC = rs.flatMap halfC
  | [] => rfl
  | c :: rs => by rw [List.flatMap_cons, List.flatMap_append, half_half rs, half_halfC]

theorem markC_out (c : Nat) (h : inTab c = false) : ¬ (65377 ≤ markC c ∧ markC c ≤ 65439) := by
  have : ¬ (65377 ≤ c ∧ c ≤ 65437) := by rw [← inTab_iff, h]; simp
  unfold markC
  (repeat' split) <;> omega
theorem full_out : ∀ rs : List Nat, ∀ x ∈ fullC rs, ¬ (65377 ≤ x ∧ x ≤ 65439)
  | [], x, hx => by simp [fullC] at hx
  | [c], x, hx => by
    rw [fullC] at hx
    simp only [List.mem_singleton] at hx
    subst hx
    split
    · rename_i ht; have := tabD_ok ht; omega
    · rename_i ht; exact markC_out c (by simpa using ht)
  | c :: m :: rest, x, hx => by
    rw [fullC] at hx
    split at hx
    · rename_i ht
      split at hx
      · rename_i hm
        rcases List.mem_cons.1 hx with rfl | hx
        · rcases marked_ok (tabD c) m with e | e
          · exact absurd e hm
          · omega
        · exact full_out rest x hx
      · rcases List.mem_cons.1 hx with hx | hx
        · have := tabD_ok ht; rw [hx]; omega
        · exact full_out (m :: rest) x hx
    · rename_i ht
      rcases List.mem_cons.1 hx with rfl | hx
      · exact markC_out c (by simpa using ht)
      · exact full_out (m :: rest) x hx
theorem full_id : ∀ rs : List Nat, (∀ x ∈ rs, ¬ (65377 ≤ x ∧ x ≤ 65439)) → fullC rs = rs
  | [], _ => rfl
  | [c], h => by
    have hc := h c (by simp)
    have h1 : inTab c = false := by rw [← Bool.not_eq_true, inTab_iff]; omega
    have h2 : markC c = c := by unfold markC; rw [if_neg (by omega), if_neg (by omega)]
    rw [fullC, h1, h2]; rfl
  | c :: m :: rest, h => by
    have hc := h c (by simp)
    have h1 : inTab c = false := by rw [← Bool.not_eq_true, inTab_iff]; omega
    have h2 : markC c = c := by unfold markC; rw [if_neg (by omega), if_neg (by omega)]
    rw [fullC, h1, h2, full_id (m :: rest) fun x hx => h x (List.mem_cons_of_mem _ hx)]; rfl
theorem full_full (rs : List Nat) : fullC (fullC rs) = fullC rs := full_id _ (full_out rs)

/-! ### Parts -/
def isMark (c : Nat) : Bool := decide (c = 65438) || decide (c = 65439)
theorem isMark_no {c : Nat} (h : isMark c = false) : ¬ (c = 65438 ∨ c = 65439) := by
  unfold isMark at h
  simp at h
  omega
theorem full_append : ∀ (a b : List Nat), (∀ c, b.head? = some c → isMark c = false) → fullC (a ++ b) = fullC a ++ fullC b
  | [], b, h => rfl
  | [c], [], h => by simp [fullC]
  | [c], m :: b, h => by
    have hm := isMark_no (h m rfl)
    show fullC (c :: m :: b) = _
    rw [fullC, fullC, marked_no hm]
    by_cases ht : inTab c = true
    · rw [if_pos ht, if_pos ht, if_neg (by simp)]; rfl
    · rw [if_neg ht, if_neg ht]; rfl
  | c :: m :: rest, b, h => by
    have h1 := full_append rest b h
    have h2 := full_append (m :: rest) b h
    show fullC (c :: m :: (rest ++ b)) = _
    rw [fullC, fullC]
    have h2' : fullC (m :: (rest ++ b)) = fullC (m :: rest) ++ fullC b := h2
    rw [h1, h2']
    by_cases ht : inTab c = true
    · rw [if_pos ht, if_pos ht]
      by_cases hm : markedD (tabD c) m ≠ 0
      · rw [if_pos hm, if_pos hm]; rfl
      · rw [if_neg hm, if_neg hm]; rfl
    · rw [if_neg ht, if_neg ht]; rfl

/-! ### Back -/
/-- A character's form, made full-width, is the katakana. -/
theorem full_halfK {c : Nat} (hz : halfK (kataC c) ≠ []) (b : List Nat) (hb : ∀ x, b.head? = some x → isMark x = false) : fullC (halfC c ++ b) = kataC c :: fullC b := by
  have e : halfC c = halfK (kataC c) := by unfold halfC; rw [if_neg hz]
  rw [full_append _ _ hb, e]
  rcases halfK_shape (kataC c) with e2 | ⟨⟨a, e2, ha, h3⟩ | ⟨a, m, e2, ha, hm, h3⟩, h4, _⟩
  · exact absurd e2 hz
  · rw [e2, fullC, if_pos ha, h3]; rfl
  · rw [e2, fullC, if_pos ha, if_pos (by rw [h3]; omega), h3, fullC]; rfl
theorem halfC_head {c : Nat} (hc : isMark c = false) : ∀ x, (halfC c).head? = some x → isMark x = false := by
  intro x hx
  unfold halfC at hx
  split at hx
  · simp at hx; subst hx; exact hc
  · rename_i hne
    rcases halfK_shape (kataC c) with e | ⟨⟨a, e, ha, _⟩ | ⟨a, m, e, ha, hm, _⟩, _⟩
    · exact absurd e hne
    all_goals
      rw [e] at hx
      rw [inTab_iff] at ha
      simp at hx; subst hx
      unfold isMark; simp; omega
theorem half_head (rs : List Nat) (h : ∀ r ∈ rs, isMark r = false) : ∀ x, (rs.flatMap halfC).head? = some x → isMark x = false := by
  cases rs with
  | nil => intro x hx; simp at hx
  | cons c rs =>
    intro x hx
    have h1 := halfC_len c
    refine halfC_head (h c List.mem_cons_self) x ?_
    rw [List.flatMap_cons] at hx
    cases he : halfC c with
    | nil => rw [he] at h1; simp at h1
    | cons y l => rw [he] at hx; exact hx
/-- Kana and marks that have a half-width form. -/
def simpleB (c : Nat) : Bool := decide (c ∈ [12290, 12300, 12301, 12289, 12539]) || (!decide (c ∈ [12526, 12528, 12529, 12533, 12534, 12430, 12432, 12433, 12437, 12438]) && (decide (12353 ≤ c ∧ c ≤ 12438) || decide ((12449 ≤ c ∧ c ≤ 12534) ∨ c = 12540)))
theorem simple_range : ∀ i : Fin 260, simpleB (12289 + i.val) = true → halfK (kataC (12289 + i.val)) ≠ [] := by decide +kernel
theorem simple_ok {c : Nat} (h : simpleB c = true) : halfK (kataC c) ≠ [] ∧ isMark c = false ∧ 12289 ≤ c ∧ c ≤ 12540 := by
  have hr : 12289 ≤ c ∧ c ≤ 12540 := by
    unfold simpleB at h
    simp only [Bool.or_eq_true, Bool.and_eq_true, decide_eq_true_eq, List.mem_cons, List.not_mem_nil, or_false] at h
    omega
  refine ⟨?_, ?_, hr⟩
  · have := simple_range ⟨c - 12289, by omega⟩
    simp only at this
    rw [show 12289 + (c - 12289) = c by omega] at this
    exact this h
  · unfold isMark; simp; omega
theorem full_half : ∀ rs : List Nat, (∀ r ∈ rs, simpleB r = true) → fullC (rs.flatMap halfC) = rs.map kataC
  | [], _ => rfl
  | c :: rs, h => by
    have hr : ∀ r ∈ rs, simpleB r = true := fun r hr => h r (List.mem_cons_of_mem _ hr)
    rw [List.flatMap_cons, full_halfK (simple_ok (h c List.mem_cons_self)).1 _ (half_head rs fun r hm => (simple_ok (hr r hm)).2.1), full_half rs hr]
    rfl
end Go.Proofs.YthhiillmodacmaaDoor.Hk
