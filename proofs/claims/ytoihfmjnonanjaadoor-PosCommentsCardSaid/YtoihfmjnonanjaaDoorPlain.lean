/- Plain laws about UTF-8 as the reference henkanref01 decodes it, and as the model does. No program is in sight. -/
import Derived.Lib.ValidU
import Derived.Lib.DecodeN
import Derived.Lib.ValidLaws
import Derived.Lib.MapLaws
import Derived.Lib.TrimUEq
namespace Go.Proofs.YtoihfmjnonanjaaDoor.Hk
open Go Go.Lib

/-- What henkanref01.length returns. -/
def rlen (b : Nat) : Nat × Nat :=
  if b < 128 then (1, b) else if 192 ≤ b ∧ b < 224 then (2, b - 192) else if 224 ≤ b ∧ b < 240 then (3, b - 224) else if 240 ≤ b ∧ b < 248 then (4, b - 240) else (0, 0)

/-- The bits that the loop of henkanref01.Next has gathered behind k further bytes. -/
def racc (c : Nat) (b : Nat → Nat) : Nat → Nat
  | 0 => c
  | k + 1 => 64 * racc c b k + (b (k + 1) - 128)

def rleast (n : Nat) : Nat := if n = 2 then 128 else if n = 3 then 2048 else if n = 4 then 65536 else 0

/-- henkanref01.Character. -/
def rchar (c : Nat) : Bool := decide (c ≤ 1114111) && (decide (c < 55296) || decide (57343 < c))

/-- What henkanref01.Next returns at a place inside the string: (0, 0), or what the decoder of the model says. -/
def rnext (s : ByteArray) (p : Nat) : Nat × Nat :=
  if (Utf8.decode s p).1 = 65533 ∧ (Utf8.decode s p).2 = 1 then (0, 0) else Utf8.decode s p

theorem get_of_lt (s : ByteArray) (i : Nat) (h : i < s.size) : s.get! i = s[i] := by
  rw [ByteArray.get!]
  simp [ByteArray.getElem_eq_getElem_data]
  rw [getElem!_pos s.data i (by simpa using h)]

/-- The bytes behind the first, by number. -/
def rb (b1 b2 b3 : Nat) (i : Nat) : Nat := if i = 1 then b1 else if i = 2 then b2 else b3

theorem rlen_cases (b : Nat) : (b < 128 ∧ rlen b = (1, b)) ∨ (192 ≤ b ∧ b < 224 ∧ rlen b = (2, b - 192)) ∨ (224 ≤ b ∧ b < 240 ∧ rlen b = (3, b - 224)) ∨ (240 ≤ b ∧ b < 248 ∧ rlen b = (4, b - 240)) ∨ ((128 ≤ b ∧ b < 192 ∨ 248 ≤ b) ∧ rlen b = (0, 0)) := by
  unfold rlen
  repeat' split
  all_goals simp
  all_goals omega

theorem racc1 (c b1 b2 b3 : Nat) : racc c (rb b1 b2 b3) 1 = 64 * c + (b1 - 128) := rfl
theorem racc2 (c b1 b2 b3 : Nat) : racc c (rb b1 b2 b3) 2 = 64 * (64 * c + (b1 - 128)) + (b2 - 128) := rfl
theorem racc3 (c b1 b2 b3 : Nat) : racc c (rb b1 b2 b3) 3 = 64 * (64 * (64 * c + (b1 - 128)) + (b2 - 128)) + (b3 - 128) := rfl

theorem dec1 (n b0 b1 b2 b3 : Nat) (h : b0 < 128) : decodeN n b0 b1 b2 b3 = (b0, 1) := by unfold decodeN; rw [if_pos h]
theorem dec2 (n b0 b1 b2 b3 : Nat) (h : 192 ≤ b0 ∧ b0 < 224) : decodeN n b0 b1 b2 b3 = if 2 ≤ n ∧ 128 ≤ b1 ∧ b1 < 192 ∧ 128 ≤ 64 * (b0 - 192) + (b1 - 128) then (64 * (b0 - 192) + (b1 - 128), 2) else (65533, 1) := by
  unfold decodeN
  rw [if_neg (by omega), if_neg (by omega : ¬ (b0 / 16 = 14 ∧ _)), if_neg (by omega : ¬ (b0 / 8 = 30 ∧ _))]
  by_cases hc : 2 ≤ n ∧ 128 ≤ b1 ∧ b1 < 192
  · rw [if_pos (by omega)]
    have e : b0 % 32 * 64 + b1 % 64 = 64 * (b0 - 192) + (b1 - 128) := by omega
    rw [e]
    by_cases hd : 128 ≤ 64 * (b0 - 192) + (b1 - 128)
    · rw [if_pos hd, if_pos (by omega)]
    · rw [if_neg hd, if_neg (by omega)]
  · rw [if_neg (by omega), if_neg (by omega)]
theorem dec3 (n b0 b1 b2 b3 : Nat) (h : 224 ≤ b0 ∧ b0 < 240) : decodeN n b0 b1 b2 b3 = if 3 ≤ n ∧ (128 ≤ b1 ∧ b1 < 192) ∧ (128 ≤ b2 ∧ b2 < 192) ∧ 2048 ≤ 64 * (64 * (b0 - 224) + (b1 - 128)) + (b2 - 128) ∧ rchar (64 * (64 * (b0 - 224) + (b1 - 128)) + (b2 - 128)) = true then (64 * (64 * (b0 - 224) + (b1 - 128)) + (b2 - 128), 3) else (65533, 1) := by
  unfold decodeN
  rw [if_neg (by omega), if_neg (by omega : ¬ (b0 / 32 = 6 ∧ _)), if_neg (by omega : ¬ (b0 / 8 = 30 ∧ _))]
  by_cases hc : 3 ≤ n ∧ (128 ≤ b1 ∧ b1 < 192) ∧ (128 ≤ b2 ∧ b2 < 192)
  · rw [if_pos (by omega)]
    have e : b0 % 16 * 4096 + b1 % 64 * 64 + b2 % 64 = 64 * (64 * (b0 - 224) + (b1 - 128)) + (b2 - 128) := by omega
    rw [e]
    generalize 64 * (64 * (b0 - 224) + (b1 - 128)) + (b2 - 128) = c
    simp only [rchar, Bool.and_eq_true, Bool.or_eq_true, decide_eq_true_eq]
    by_cases hd : 2048 ≤ c ∧ (c ≤ 1114111 ∧ (c < 55296 ∨ 57343 < c))
    · rw [if_pos (by omega), if_pos (by omega)]
    · rw [if_neg (by omega), if_neg (by omega)]
  · rw [if_neg (by omega), if_neg (fun hh => hc ⟨hh.1, hh.2.1, hh.2.2.1⟩)]
theorem dec4 (n b0 b1 b2 b3 : Nat) (h : 240 ≤ b0 ∧ b0 < 248) : decodeN n b0 b1 b2 b3 = if 4 ≤ n ∧ (128 ≤ b1 ∧ b1 < 192) ∧ (128 ≤ b2 ∧ b2 < 192) ∧ (128 ≤ b3 ∧ b3 < 192) ∧ 65536 ≤ 64 * (64 * (64 * (b0 - 240) + (b1 - 128)) + (b2 - 128)) + (b3 - 128) ∧ rchar (64 * (64 * (64 * (b0 - 240) + (b1 - 128)) + (b2 - 128)) + (b3 - 128)) = true then (64 * (64 * (64 * (b0 - 240) + (b1 - 128)) + (b2 - 128)) + (b3 - 128), 4) else (65533, 1) := by
  unfold decodeN
  rw [if_neg (by omega), if_neg (by omega : ¬ (b0 / 32 = 6 ∧ _)), if_neg (by omega : ¬ (b0 / 16 = 14 ∧ _))]
  by_cases hc : 4 ≤ n ∧ (128 ≤ b1 ∧ b1 < 192) ∧ (128 ≤ b2 ∧ b2 < 192) ∧ (128 ≤ b3 ∧ b3 < 192)
  · rw [if_pos (by omega)]
    have e : b0 % 8 * 262144 + b1 % 64 * 4096 + b2 % 64 * 64 + b3 % 64 = 64 * (64 * (64 * (b0 - 240) + (b1 - 128)) + (b2 - 128)) + (b3 - 128) := by omega
    rw [e]
    generalize 64 * (64 * (64 * (b0 - 240) + (b1 - 128)) + (b2 - 128)) + (b3 - 128) = c
    simp only [rchar, Bool.and_eq_true, Bool.or_eq_true, decide_eq_true_eq]
    by_cases hd : 65536 ≤ c ∧ (c ≤ 1114111 ∧ (c < 55296 ∨ 57343 < c))
    · rw [if_pos (by omega), if_pos (by omega)]
    · rw [if_neg (by omega), if_neg (by omega)]
  · rw [if_neg (by omega), if_neg (fun hh => hc ⟨hh.1, hh.2.1, hh.2.2.1, hh.2.2.2.1⟩)]
theorem dec0 (n b0 b1 b2 b3 : Nat) (h : 128 ≤ b0 ∧ b0 < 192 ∨ 248 ≤ b0) (h0 : b0 < 256) : decodeN n b0 b1 b2 b3 = (65533, 1) := by
  unfold decodeN
  rw [if_neg (by omega), if_neg (by omega), if_neg (by omega), if_neg (by omega)]

set_option maxRecDepth 4000 in
/-- Behind the reference's tests: the code is the one of the model. -/
theorem next_yes (n b0 b1 b2 b3 : Nat) (hpos : (rlen b0).1 ≠ 0) (hfit : (rlen b0).1 ≤ n)
    (hcont : ∀ j, 1 ≤ j → j < (rlen b0).1 → 128 ≤ rb b1 b2 b3 j ∧ rb b1 b2 b3 j ≤ 191)
    (hl : rleast (rlen b0).1 ≤ racc (rlen b0).2 (rb b1 b2 b3) ((rlen b0).1 - 1)) (hc : rchar (racc (rlen b0).2 (rb b1 b2 b3) ((rlen b0).1 - 1)) = true) :
    decodeN n b0 b1 b2 b3 = (racc (rlen b0).2 (rb b1 b2 b3) ((rlen b0).1 - 1), (rlen b0).1) ∧ ¬ ((decodeN n b0 b1 b2 b3).1 = 65533 ∧ (decodeN n b0 b1 b2 b3).2 = 1) := by
  rcases rlen_cases b0 with ⟨h, e⟩ | ⟨h1, h2, e⟩ | ⟨h1, h2, e⟩ | ⟨h1, h2, e⟩ | ⟨h, e⟩
  · rw [e] at hpos hfit hcont hl hc ⊢
    rw [dec1 _ _ _ _ _ h]
    exact ⟨rfl, by simp; omega⟩
  · rw [e] at hpos hfit hcont hl hc ⊢
    have c1 := hcont 1 (by omega) (by simp)
    simp only [rb] at c1
    have hl' : 128 ≤ 64 * (b0 - 192) + (b1 - 128) := hl
    rw [dec2 _ _ _ _ _ ⟨h1, h2⟩, if_pos (by simp at hfit c1; omega)]
    exact ⟨rfl, by simp⟩
  · rw [e] at hpos hfit hcont hl hc ⊢
    have c1 := hcont 1 (by omega) (by simp)
    have c2 := hcont 2 (by omega) (by simp)
    simp only [rb] at c1 c2
    have hl' : 2048 ≤ 64 * (64 * (b0 - 224) + (b1 - 128)) + (b2 - 128) := hl
    have hc' : rchar (64 * (64 * (b0 - 224) + (b1 - 128)) + (b2 - 128)) = true := hc
    simp at hfit c1 c2
    rw [dec3 _ _ _ _ _ ⟨h1, h2⟩, if_pos ⟨hfit, by omega, by omega, hl', hc'⟩]
    exact ⟨rfl, by simp⟩
  · rw [e] at hpos hfit hcont hl hc ⊢
    have c1 := hcont 1 (by omega) (by simp)
    have c2 := hcont 2 (by omega) (by simp)
    have c3 := hcont 3 (by omega) (by simp)
    simp only [rb] at c1 c2 c3
    have hl' : 65536 ≤ 64 * (64 * (64 * (b0 - 240) + (b1 - 128)) + (b2 - 128)) + (b3 - 128) := hl
    have hc' : rchar (64 * (64 * (64 * (b0 - 240) + (b1 - 128)) + (b2 - 128)) + (b3 - 128)) = true := hc
    simp at hfit c1 c2 c3
    rw [dec4 _ _ _ _ _ ⟨h1, h2⟩, if_pos ⟨hfit, by omega, by omega, by omega, hl', hc'⟩]
    exact ⟨rfl, by simp⟩
  · rw [e] at hpos
    exact absurd rfl hpos

set_option maxRecDepth 4000 in
/-- A test of the reference that fails: the model's decoder says so, too. -/
theorem next_no (n b0 b1 b2 b3 : Nat) (h0 : b0 < 256) (hn : 1 ≤ n)
    (hbad : (rlen b0).1 = 0 ∨ n < (rlen b0).1 ∨ (∃ j, 1 ≤ j ∧ j < (rlen b0).1 ∧ (rb b1 b2 b3 j < 128 ∨ 191 < rb b1 b2 b3 j)) ∨
      racc (rlen b0).2 (rb b1 b2 b3) ((rlen b0).1 - 1) < rleast (rlen b0).1 ∨ rchar (racc (rlen b0).2 (rb b1 b2 b3) ((rlen b0).1 - 1)) = false) :
    decodeN n b0 b1 b2 b3 = (65533, 1) := by
  rcases rlen_cases b0 with ⟨h, e⟩ | ⟨h1, h2, e⟩ | ⟨h1, h2, e⟩ | ⟨h1, h2, e⟩ | ⟨h, e⟩
  · rw [e] at hbad
    exfalso
    rcases hbad with hb | hb | ⟨j, j1, j2, _⟩ | hb | hb
    · cases hb
    · simp at hb; omega
    · simp at j2; omega
    · simp [rleast] at hb
    · have hb' : rchar b0 = false := hb
      simp only [rchar, Bool.and_eq_false_iff, Bool.or_eq_false_iff, decide_eq_false_iff_not] at hb'; omega
  · rw [e] at hbad
    rw [dec2 _ _ _ _ _ ⟨h1, h2⟩]
    refine if_neg fun hh => ?_
    rcases hbad with hb | hb | ⟨j, j1, j2, hj⟩ | hb | hb
    · cases hb
    · simp at hb; omega
    · have : j = 1 := by simp at j2; omega
      subst this
      simp [rb] at hj; omega
    · have hb' : 64 * (b0 - 192) + (b1 - 128) < 128 := hb
      omega
    · have hb' : rchar (64 * (b0 - 192) + (b1 - 128)) = false := hb
      simp [rchar] at hb'; omega
  · rw [e] at hbad
    rw [dec3 _ _ _ _ _ ⟨h1, h2⟩]
    refine if_neg fun hh => ?_
    rcases hbad with hb | hb | ⟨j, j1, j2, hj⟩ | hb | hb
    · cases hb
    · simp at hb; omega
    · have : j = 1 ∨ j = 2 := by simp at j2; omega
      rcases this with rfl | rfl <;> simp [rb] at hj <;> omega
    · have hb' : 64 * (64 * (b0 - 224) + (b1 - 128)) + (b2 - 128) < 2048 := hb
      omega
    · have hb' : rchar (64 * (64 * (b0 - 224) + (b1 - 128)) + (b2 - 128)) = false := hb
      rw [hb'] at hh; exact absurd hh.2.2.2.2 (by simp)
  · rw [e] at hbad
    rw [dec4 _ _ _ _ _ ⟨h1, h2⟩]
    refine if_neg fun hh => ?_
    rcases hbad with hb | hb | ⟨j, j1, j2, hj⟩ | hb | hb
    · cases hb
    · simp at hb; omega
    · have : j = 1 ∨ j = 2 ∨ j = 3 := by simp at j2; omega
      rcases this with rfl | rfl | rfl <;> simp [rb] at hj <;> omega
    · have hb' : 64 * (64 * (64 * (b0 - 240) + (b1 - 128)) + (b2 - 128)) + (b3 - 128) < 65536 := hb
      omega
    · have hb' : rchar (64 * (64 * (64 * (b0 - 240) + (b1 - 128)) + (b2 - 128)) + (b3 - 128)) = false := hb
      rw [hb'] at hh; exact absurd hh.2.2.2.2.2 (by simp)
  · exact dec0 _ _ _ _ _ h h0

theorem racc_lt (c : Nat) (b : Nat → Nat) (hc : c < 128) : ∀ k, (∀ j, 1 ≤ j → j ≤ k → b j ≤ 191) → racc c b k < 128 * 64 ^ k
  | 0, _ => by
    show c < 128 * 64 ^ 0
    rw [Nat.pow_zero]
    omega
  | k + 1, h => by
    have h1 := racc_lt c b hc k fun j a d => h j a (by omega)
    have h2 := h (k + 1) (by omega) (by omega)
    show 64 * racc c b k + (b (k + 1) - 128) < 128 * 64 ^ (k + 1)
    rw [Nat.pow_succ]
    generalize 64 ^ k = P at *
    omega

theorem racc_succ (c : Nat) (b : Nat → Nat) (k : Nat) (h : 1 ≤ k) : racc c b k = 64 * racc c b (k - 1) + (b k - 128) := by
  cases k with
  | zero => omega
  | succ k => rfl

theorem rb_at (s : ByteArray) (p j : Nat) (h1 : 1 ≤ j) (h3 : j ≤ 3) : rb (s.get! (p + 1)).toNat (s.get! (p + 2)).toNat (s.get! (p + 3)).toNat j = (s.get! (p + j)).toNat := by
  have : j = 1 ∨ j = 2 ∨ j = 3 := by omega
  rcases this with rfl | rfl | rfl <;> rfl

theorem rlen_le (b : Nat) : (rlen b).1 ≤ 4 ∧ (rlen b).2 < 128 := by
  rcases rlen_cases b with ⟨h, e⟩ | ⟨h1, h2, e⟩ | ⟨h1, h2, e⟩ | ⟨h1, h2, e⟩ | ⟨h, e⟩ <;> rw [e] <;> simp only <;> omega

theorem rnext_yes (s : ByteArray) (p : Nat) (B : Nat → Nat) (hB : B = rb (s.get! (p + 1)).toNat (s.get! (p + 2)).toNat (s.get! (p + 3)).toNat) (m c0 : Nat) (hm : rlen (s.get! p).toNat = (m, c0)) (hpos : m ≠ 0) (hfit : m ≤ s.size - p)
    (hcont : ∀ j, 1 ≤ j → j < m → 128 ≤ B j ∧ B j ≤ 191) (hl : rleast m ≤ racc c0 B (m - 1)) (hc : rchar (racc c0 B (m - 1)) = true) : rnext s p = (racc c0 B (m - 1), m) := by
  subst hB
  have h := next_yes (s.size - p) (s.get! p).toNat (s.get! (p + 1)).toNat (s.get! (p + 2)).toNat (s.get! (p + 3)).toNat
  rw [hm] at h
  have h := h hpos hfit hcont hl hc
  rw [← decode_at] at h
  unfold rnext
  rw [if_neg h.2]
  exact h.1

theorem rnext_no (s : ByteArray) (p : Nat) (B : Nat → Nat) (hB : B = rb (s.get! (p + 1)).toNat (s.get! (p + 2)).toNat (s.get! (p + 3)).toNat) (m c0 : Nat) (hm : rlen (s.get! p).toNat = (m, c0)) (hp : p < s.size)
    (hbad : m = 0 ∨ s.size - p < m ∨ (∃ j, 1 ≤ j ∧ j < m ∧ (B j < 128 ∨ 191 < B j)) ∨ racc c0 B (m - 1) < rleast m ∨ rchar (racc c0 B (m - 1)) = false) : rnext s p = (0, 0) := by
  subst hB
  have h := next_no (s.size - p) (s.get! p).toNat (s.get! (p + 1)).toNat (s.get! (p + 2)).toNat (s.get! (p + 3)).toNat (UInt8.toNat_lt _) (by omega)
  rw [hm] at h
  have h := h hbad
  rw [← decode_at] at h
  unfold rnext
  rw [if_pos (by rw [h]; exact ⟨rfl, rfl⟩)]

/-- No character's code opens the string. -/
def badAt (l : List UInt8) : Bool := decide ((decodeL l).1 = 65533 ∧ (decodeL l).2 = 1)
theorem badAt_yes {l : List UInt8} (h : badAt l = true) : (decodeL l).1 = 65533 ∧ (decodeL l).2 = 1 := of_decide_eq_true h
theorem badAt_no {l : List UInt8} (h : ¬ badAt l = true) : ¬ ((decodeL l).1 = 65533 ∧ (decodeL l).2 = 1) := fun e => h (decide_eq_true e)

def rgo : Nat → List UInt8 → Option (List Nat)
  | 0, _ => some []
  | f + 1, l => if l = [] then some [] else if badAt l then none else (rgo f (l.drop (decodeL l).2)).map ((decodeL l).1 :: ·)
/-- The characters of a string, if it is valid. -/
def runesD (l : List UInt8) : Option (List Nat) := rgo l.length l

theorem rgo_fuel : ∀ (f g : Nat) (l : List UInt8), l.length ≤ f → l.length ≤ g → rgo f l = rgo g l
  | 0, g, l, hf, _ => by
    have : l = [] := List.length_eq_zero_iff.1 (by omega)
    subst this
    cases g <;> simp [rgo]
  | f + 1, 0, l, _, hg => by
    have : l = [] := List.length_eq_zero_iff.1 (by omega)
    subst this
    simp [rgo]
  | f + 1, g + 1, l, hf, hg => by
    unfold rgo
    by_cases h : l = []
    · rw [if_pos h, if_pos h]
    · rw [if_neg h, if_neg h]
      by_cases hb : badAt l
      · rw [if_pos hb, if_pos hb]
      · rw [if_neg hb, if_neg hb]
        have hw := decodeL_width l
        have hl : 0 < l.length := List.length_pos_iff.2 h
        rw [rgo_fuel f g (l.drop (decodeL l).2) (by rw [List.length_drop]; omega) (by rw [List.length_drop]; omega)]

theorem runesD_nil : runesD [] = some [] := rfl
theorem runesD_step (l : List UInt8) (h : l ≠ []) : runesD l = if badAt l then none else (runesD (l.drop (decodeL l).2)).map ((decodeL l).1 :: ·) := by
  have hl : 0 < l.length := List.length_pos_iff.2 h
  obtain ⟨n, hn⟩ : ∃ n, l.length = n + 1 := ⟨l.length - 1, by omega⟩
  have hw := decodeL_width l
  unfold runesD
  rw [hn, rgo, if_neg h, rgo_fuel n (l.drop (decodeL l).2).length _ (by rw [List.length_drop]; omega) (Nat.le_refl _)]

/-- A string is valid if it has characters. -/
theorem validD_runes : ∀ (n : Nat) (l : List UInt8), l.length ≤ n → validD l = (runesD l).isSome
  | 0, l, h => by
    have : l = [] := List.length_eq_zero_iff.1 (by omega)
    subst this
    rfl
  | n + 1, l, h => by
    by_cases hl : l = []
    · subst hl; rfl
    · rw [runesD_step l hl, validD_step l hl]
      have hw := decodeL_width l
      have hpos : 0 < l.length := List.length_pos_iff.2 hl
      by_cases hb : badAt l
      · rw [if_pos hb, if_pos (badAt_yes hb)]; rfl
      · rw [if_neg hb, if_neg (badAt_no hb), validD_runes n (l.drop (decodeL l).2) (by rw [List.length_drop]; omega)]
        cases runesD (l.drop (decodeL l).2) <;> rfl
theorem validD_eq (l : List UInt8) : validD l = (runesD l).isSome := validD_runes l.length l (Nat.le_refl _)

theorem rnext_eq (s : ByteArray) (p : Nat) : rnext s p = if badAt (s.data.toList.drop p) = true then (0, 0) else decodeL (s.data.toList.drop p) := by
  unfold rnext
  rw [← decodeL_drop]
  by_cases hb : badAt (s.data.toList.drop p)
  · rw [if_pos hb, if_pos (badAt_yes hb)]
  · rw [if_neg hb, if_neg (badAt_no hb)]

theorem drop_ne_nil (s : ByteArray) (p : Nat) (h : p < s.size) : s.data.toList.drop p ≠ [] := by
  intro e
  have := congrArg List.length e
  simp at this
  have h2 : s.size = s.data.size := rfl
  omega

/-- One step of the reference's loop over a string: what is left of it behind the character at p. -/
theorem runes_bad (s : ByteArray) (p : Nat) (h : p < s.size) (h0 : (rnext s p).2 = 0) : runesD (s.data.toList.drop p) = none := by
  rw [runesD_step _ (drop_ne_nil s p h)]
  rw [rnext_eq] at h0
  by_cases hb : badAt (s.data.toList.drop p)
  · rw [if_pos hb]
  · rw [if_neg hb] at h0
    have := decodeL_width (s.data.toList.drop p)
    omega
theorem runes_good (s : ByteArray) (p : Nat) (h : p < s.size) (h0 : (rnext s p).2 ≠ 0) :
    runesD (s.data.toList.drop p) = (runesD (s.data.toList.drop (p + (rnext s p).2))).map ((rnext s p).1 :: ·) ∧ p + (rnext s p).2 ≤ s.size ∧ (rnext s p).1 ≤ 1114111 := by
  have hne := drop_ne_nil s p h
  rw [runesD_step _ hne]
  rw [rnext_eq] at h0 ⊢
  by_cases hb : badAt (s.data.toList.drop p)
  · rw [if_pos hb] at h0; exact absurd rfl h0
  · rw [if_neg hb, if_neg hb, List.drop_drop]
    have hl := decodeL_le _ hne
    rw [List.length_drop] at hl
    have h2 : s.size = s.data.toList.length := by simp
    exact ⟨rfl, by omega, decodeL_rune _⟩
end Go.Proofs.YtoihfmjnonanjaaDoor.Hk
