/- Plain laws about parts of speech: names, lists, lines. No program is in sight. -/
import Derived.Lib.Split
import Derived.Lib.SlicesS
namespace Go.Proofs.YtoihfmjnonanjaaDoor.Hk
open Go Go.Lib

/-- A part of speech: its name and its kind. -/
abbrev P2 := ByteArray × Int
def bosB : ByteArray := ⟨#[66, 79, 83]⟩
def contentB : ByteArray := ⟨#[99, 111, 110, 116, 101, 110, 116]⟩
def functionB : ByteArray := ⟨#[102, 117, 110, 99, 116, 105, 111, 110]⟩
def prefixB : ByteArray := ⟨#[112, 114, 101, 102, 105, 120]⟩
def kindsL : List ByteArray := [contentB, functionB, prefixB]

/-- A byte of a name. -/
def okc (c : Nat) : Bool := (decide (65 ≤ c) && decide (c ≤ 90)) || (decide (97 ≤ c) && decide (c ≤ 122)) || (decide (48 ≤ c) && decide (c ≤ 57)) || c == 95 || c == 45
def nameL (l : List UInt8) : Bool := decide (1 ≤ l.length) && decide (l.length ≤ 16) && l.all fun c => okc c.toNat
def nameD (s : ByteArray) : Bool := nameL s.data.toList

/-- The place of the first element of a name; the length if there is none. -/
def findN (l : List P2) (s : ByteArray) : Nat := l.findIdx fun p => decide (p.1 = s)

theorem findN_le (l : List P2) (s : ByteArray) : findN l s ≤ l.length := List.findIdx_le_length
theorem findN_hit (l : List P2) (s : ByteArray) (k : Nat) (hk : k < l.length) (h : l[k].1 = s) (hne : ∀ j (hj : j < k), l[j].1 ≠ s) : findN l s = k := by
  unfold findN
  rw [List.findIdx_eq hk]
  exact ⟨by simp [h], fun j hj => by simpa using hne j hj⟩
theorem findN_miss (l : List P2) (s : ByteArray) (h : ∀ j (hj : j < l.length), l[j].1 ≠ s) : findN l s = l.length := by
  unfold findN
  rw [List.findIdx_eq_length]
  intro x hx
  obtain ⟨j, hj, rfl⟩ := List.mem_iff_getElem.1 hx
  simpa using h j hj
theorem findN_lt_iff (l : List P2) (s : ByteArray) : findN l s < l.length ↔ s ∈ l.map (·.1) := by
  unfold findN
  rw [List.findIdx_lt_length]
  constructor
  · rintro ⟨x, hx, h⟩
    exact List.mem_map.2 ⟨x, hx, by simpa using h⟩
  · intro h
    obtain ⟨x, hx, rfl⟩ := List.mem_map.1 h
    exact ⟨x, hx, by simp⟩
theorem findN_at (l : List P2) (s : ByteArray) (h : findN l s < l.length) : l[findN l s].1 = s := by
  have := List.findIdx_getElem (xs := l) (p := fun p : P2 => decide (p.1 = s)) (w := h)
  exact of_decide_eq_true this

/-- What Find returns. -/
def findI (l : List P2) (s : ByteArray) : Int := if findN l s < l.length then (findN l s : Int) else 0
def findB (l : List P2) (s : ByteArray) : Bool := decide (findN l s < l.length)

/-- A valid list. -/
def Okl (l : List P2) : Prop := 1 ≤ l.length ∧ l.length ≤ 64 ∧ l[0]? = some (bosB, 0) ∧ (∀ p ∈ l, nameD p.1 = true ∧ 0 ≤ p.2 ∧ p.2 ≤ 2) ∧ (l.map (·.1)).Nodup
instance (l : List P2) : Decidable (Okl l) := by unfold Okl; infer_instance
def okB (l : List P2) : Bool := decide (Okl l)

theorem nodup_find (l : List P2) : (l.map (·.1)).Nodup ↔ ∀ k (hk : k < l.length), findN l l[k].1 = k := by
  rw [List.Nodup, List.pairwise_iff_getElem]
  constructor
  · intro h k hk
    refine findN_hit l _ k hk rfl fun j hj e => ?_
    have := h j k (by simp; omega) (by simpa using hk) hj
    simp at this
    exact this e
  · intro h i j hi hj hij e
    simp at hi hj e
    have h1 := h i hi
    have h2 := h j hj
    rw [e, h2] at h1
    omega

/-- The test of one element of a list. -/
def okAt (l : List P2) (k : Nat) (p : P2) : Bool := findN l p.1 == k && nameD p.1 && decide (0 ≤ p.2) && decide (p.2 ≤ 2)
theorem okl_iff (l : List P2) : Okl l ↔ (1 ≤ l.length ∧ l.length ≤ 64 ∧ l[0]? = some (bosB, 0)) ∧ ∀ k (hk : k < l.length), okAt l k l[k] = true := by
  unfold Okl okAt
  rw [nodup_find]
  constructor
  · rintro ⟨h1, h2, h3, h4, h5⟩
    refine ⟨⟨h1, h2, h3⟩, fun k hk => ?_⟩
    have := h4 l[k] (List.getElem_mem hk)
    simp [h5 k hk, this]
  · rintro ⟨⟨h1, h2, h3⟩, h⟩
    refine ⟨h1, h2, h3, fun p hp => ?_, fun k hk => ?_⟩
    · obtain ⟨k, hk, rfl⟩ := List.mem_iff_getElem.1 hp
      have := h k hk
      simp at this
      exact ⟨this.1.1.2, this.1.2, this.2⟩
    · have := h k hk
      simp at this
      exact this.1.1.1
theorem okB_true (l : List P2) (h0 : 1 ≤ l.length ∧ l.length ≤ 64 ∧ l[0]? = some (bosB, 0)) (h : ∀ k (hk : k < l.length), okAt l k l[k] = true) : okB l = true :=
  decide_eq_true ((okl_iff l).2 ⟨h0, h⟩)
theorem okB_head (l : List P2) (h0 : ¬ (1 ≤ l.length ∧ l.length ≤ 64 ∧ l[0]? = some (bosB, 0))) : okB l = false :=
  decide_eq_false fun h => h0 ((okl_iff l).1 h).1
theorem okB_at (l : List P2) (k : Nat) (hk : k < l.length) (h : okAt l k l[k] = false) : okB l = false :=
  decide_eq_false fun hh => by have := ((okl_iff l).1 hh).2 k hk; rw [h] at this; cases this

/-- The number of a kind's word; -1 if it is none. -/
def kindI (s : ByteArray) : Int := if s = contentB then 0 else if s = functionB then 1 else if s = prefixB then 2 else -1
def kindW (k : Int) : ByteArray := if k = 0 then contentB else if k = 1 then functionB else prefixB
theorem kindI_cases (s : ByteArray) : (kindI s = -1) ∨ (kindI s = 0 ∧ s = contentB) ∨ (kindI s = 1 ∧ s = functionB) ∨ (kindI s = 2 ∧ s = prefixB) := by
  unfold kindI
  by_cases h0 : s = contentB
  · rw [if_pos h0]; exact .inr (.inl ⟨rfl, h0⟩)
  · rw [if_neg h0]
    by_cases h1 : s = functionB
    · rw [if_pos h1]; exact .inr (.inr (.inl ⟨rfl, h1⟩))
    · rw [if_neg h1]
      by_cases h2 : s = prefixB
      · rw [if_pos h2]; exact .inr (.inr (.inr ⟨rfl, h2⟩))
      · rw [if_neg h2]; exact .inl rfl
theorem kindI_W (k : Int) (h0 : 0 ≤ k) (h2 : k ≤ 2) : kindI (kindW k) = k := by
  have : k = 0 ∨ k = 1 ∨ k = 2 := by omega
  rcases this with rfl | rfl | rfl <;> decide +kernel
theorem kindI_range (s : ByteArray) : -1 ≤ kindI s ∧ kindI s ≤ 2 := by
  rcases kindI_cases s with h | ⟨h, _⟩ | ⟨h, _⟩ | ⟨h, _⟩ <;> omega

/-- The bytes before and behind the first tab. -/
def tabL : List UInt8 → Option (List UInt8 × List UInt8)
  | [] => none
  | c :: t => if c = 9 then some ([], t) else (tabL t).map fun x => (c :: x.1, x.2)
theorem tabL_none : ∀ (l : List UInt8), (∀ c ∈ l, c ≠ 9) → tabL l = none
  | [], _ => rfl
  | c :: t, h => by
    rw [tabL, if_neg (h c List.mem_cons_self), tabL_none t fun d hd => h d (List.mem_cons_of_mem _ hd)]
    rfl
theorem tabL_some : ∀ (a b : List UInt8), (∀ c ∈ a, c ≠ 9) → tabL (a ++ 9 :: b) = some (a, b)
  | [], b, _ => by simp [tabL]
  | c :: a, b, h => by
    rw [List.cons_append, tabL, if_neg (h c List.mem_cons_self), tabL_some a b fun d hd => h d (List.mem_cons_of_mem _ hd)]
    rfl

/-- The part of speech that a line stands for. -/
def lineL (l : List UInt8) : Option P2 :=
  match tabL l with
  | none => none
  | some (a, b) => if kindI ⟨b.toArray⟩ < 0 then none else if nameL a then some (⟨a.toArray⟩, kindI ⟨b.toArray⟩) else none

/-- One line that is no comment, behind the list so far: the new list, or an error. -/
def stepL (acc : List P2) (l : List UInt8) : Except Int (List P2) :=
  match lineL l with
  | none => .error 5
  | some p => if acc.length = 0 ∧ p ≠ (bosB, 0) then .error 5 else if findN acc p.1 < acc.length then .error 4 else if acc.length = 64 then .error 2 else .ok (acc ++ [p])

def isComment (l : List UInt8) : Bool := l.isEmpty || l[0]? == some 35

/-- What Parse makes of the lines from number n on. -/
def parseI : List P2 → List (Nat × List UInt8) → List P2 × Int × Int
  | acc, [] => if acc.length = 0 then ([], 0, 5) else (acc, 0, 0)
  | acc, (n, s) :: r =>
    match stepL acc s with
    | .error e => ([], (n : Int), e)
    | .ok acc' => parseI acc' r
/-- The lines that are no comments, numbered from n + 1 on. -/
def itemsL : Nat → List (List UInt8) → List (Nat × List UInt8)
  | _, [] => []
  | n, l :: r => if isComment l then itemsL (n + 1) r else (n + 1, l) :: itemsL (n + 1) r

/-- The lines of a text. -/
def glueL (pre : List UInt8) : List (List UInt8) → List (List UInt8)
  | [] => [pre]
  | a :: r => (pre ++ a) :: r
def linesL : List UInt8 → List (List UInt8)
  | [] => [[]]
  | c :: t => if c = 10 then [] :: linesL t else glueL [c] (linesL t)
theorem linesL_ne : ∀ l, linesL l ≠ []
  | [] => by simp [linesL]
  | c :: t => by
    rw [linesL]
    split
    · simp
    · cases linesL t <;> simp [glueL]
theorem glueL_glueL (a b : List UInt8) (x : List (List UInt8)) (h : x ≠ []) : glueL a (glueL b x) = glueL (a ++ b) x := by
  cases x with
  | nil => exact absurd rfl h
  | cons y r => simp [glueL]
theorem glueL_nil (x : List (List UInt8)) (h : x ≠ []) : glueL [] x = x := by
  cases x with
  | nil => exact absurd rfl h
  | cons y r => simp [glueL]
/-- No line feed in front. -/
theorem linesL_skip : ∀ (a t : List UInt8), (∀ c ∈ a, c ≠ 10) → linesL (a ++ t) = glueL a (linesL t)
  | [], t, _ => (glueL_nil _ (linesL_ne t)).symm
  | c :: a, t, h => by
    rw [List.cons_append, linesL, if_neg (h c List.mem_cons_self), linesL_skip a t fun d hd => h d (List.mem_cons_of_mem _ hd), glueL_glueL _ _ _ (linesL_ne t)]
    rfl
theorem linesL_lf (a t : List UInt8) (h : ∀ c ∈ a, c ≠ 10) : linesL (a ++ 10 :: t) = a :: linesL t := by
  rw [linesL_skip a _ h, linesL, if_pos rfl]
  simp [glueL]
theorem linesL_one (a : List UInt8) (h : ∀ c ∈ a, c ≠ 10) : linesL a = [a] := by
  have := linesL_skip a [] h
  rw [List.append_nil] at this
  rw [this]
  simp [linesL, glueL]

def parseL (l : List UInt8) : List P2 × Int × Int := if 1048576 < l.length then ([], 0, 2) else parseI [] (itemsL 0 (linesL l))
def parseD (s : ByteArray) : List P2 × Int × Int := parseL s.data.toList

/-- strings.Split at a line feed gives the lines. -/
theorem index_lf (s : List UInt8) : (index s [10] = -1 ∧ ∀ c ∈ s, c ≠ 10) ∨ ∃ a b : List UInt8, s = a ++ 10 :: b ∧ (∀ c ∈ a, c ≠ 10) ∧ index s [10] = a.length := by
  induction s with
  | nil => exact .inl ⟨by simp [index], by simp⟩
  | cons c t ih =>
    by_cases hc : c = 10
    · subst hc
      exact .inr ⟨[], t, rfl, by simp, by simp [index]⟩
    · have hp : ([10] : List UInt8).isPrefixOf (c :: t) = false := by
        simp [List.isPrefixOf]
        try exact fun e => hc e.symm
      rcases ih with ⟨h1, h2⟩ | ⟨a, b, rfl, h2, h1⟩
      · refine .inl ⟨?_, ?_⟩
        · unfold index
          rw [hp, h1]
          rfl
        · intro d hd
          rcases List.mem_cons.1 hd with rfl | hd
          · exact hc
          · exact h2 d hd
      · refine .inr ⟨c :: a, b, rfl, ?_, ?_⟩
        · intro d hd
          rcases List.mem_cons.1 hd with rfl | hd
          · exact hc
          · exact h2 d hd
        · have hne : ((a.length : Int) == -1) = false := by simp
          unfold index
          rw [hp, h1, hne]
          simp
theorem splitK_lines : ∀ (n : Nat) (s : List UInt8), s.length ≤ n → splitK [10] 0 (count s [10]) s = linesL s
  | n, s, hn => by
    rcases index_lf s with ⟨h1, h2⟩ | ⟨a, b, rfl, h2, h1⟩
    · rw [count_miss h1, linesL_one s h2]
      rfl
    · have hd : (a ++ 10 :: b).drop (a.length + ([10] : List UInt8).length) = b := by
        rw [List.drop_append]
        simp
      have hm : ¬ (((a.length : Int) == -1) = true) := by simp
      rw [count_hit (by simp) h1, hd, Nat.add_comm, splitK, h1, if_neg hm, Int.toNat_natCast, hd, Nat.add_zero, List.take_left, linesL_lf a b h2]
      cases n with
      | zero => simp at hn
      | succ n => rw [splitK_lines n b (by simp at hn; omega)]
def linesB (s : ByteArray) : List ByteArray := splitB ⟨#[10]⟩ 0 (countB s ⟨#[10]⟩) s
theorem linesB_data (s : ByteArray) : (linesB s).map (·.data.toList) = linesL s.data.toList := by
  unfold linesB
  rw [splitB_data]
  exact splitK_lines _ _ (Nat.le_refl _)

theorem parseI_step {acc acc' : List P2} {n : Nat} {s : List UInt8} {r : List (Nat × List UInt8)} (h : stepL acc s = .ok acc') : parseI acc ((n, s) :: r) = parseI acc' r := by rw [parseI, h]
theorem parseI_err {acc : List P2} {n : Nat} {s : List UInt8} {r : List (Nat × List UInt8)} {e : Int} (h : stepL acc s = .error e) : parseI acc ((n, s) :: r) = ([], (n : Int), e) := by rw [parseI, h]

theorem step_none {acc : List P2} {l : List UInt8} (h : lineL l = none) : stepL acc l = .error 5 := by unfold stepL; rw [h]
theorem step_bos {acc : List P2} {l : List UInt8} {p : P2} (h : lineL l = some p) (h0 : acc.length = 0) (hp : p ≠ (bosB, 0)) : stepL acc l = .error 5 := by unfold stepL; rw [h]; simp [h0, hp]
theorem step_twice {acc : List P2} {l : List UInt8} {p : P2} (h : lineL l = some p) (h0 : ¬ (acc.length = 0 ∧ p ≠ (bosB, 0))) (hp : findN acc p.1 < acc.length) : stepL acc l = .error 4 := by unfold stepL; rw [h]; simp only; rw [if_neg h0, if_pos hp]
theorem step_long {acc : List P2} {l : List UInt8} {p : P2} (h : lineL l = some p) (h0 : ¬ (acc.length = 0 ∧ p ≠ (bosB, 0))) (hp : ¬ findN acc p.1 < acc.length) (hl : acc.length = 64) : stepL acc l = .error 2 := by unfold stepL; rw [h]; simp only; rw [if_neg h0, if_neg hp, if_pos hl]
theorem step_ok {acc : List P2} {l : List UInt8} {p : P2} (h : lineL l = some p) (h0 : ¬ (acc.length = 0 ∧ p ≠ (bosB, 0))) (hp : ¬ findN acc p.1 < acc.length) (hl : ¬ acc.length = 64) : stepL acc l = .ok (acc ++ [p]) := by unfold stepL; rw [h]; simp only; rw [if_neg h0, if_neg hp, if_neg hl]
end Go.Proofs.YtoihfmjnonanjaaDoor.Hk
