/- Plain laws about texts of parts of speech: a list that is printed and parsed; a comment line. No program is in sight. -/
import Derived.Test.YtoihfmjnonanjaaDoorPosQ
namespace Go.Proofs.YtoihfmjnonanjaaDoor.Hk
open Go Go.Lib

def lineOf (p : P2) : List UInt8 := p.1.data.toList ++ 9 :: (kindW p.2).data.toList
def printL (l : List P2) : List UInt8 := l.flatMap fun p => lineOf p ++ [10]

theorem name_ok {s : ByteArray} (h : nameD s = true) : 1 ≤ s.data.toList.length ∧ s.data.toList.length ≤ 16 ∧ ∀ c ∈ s.data.toList, okc c.toNat = true := by
  simp only [nameD, nameL, Bool.and_eq_true, decide_eq_true_eq, List.all_eq_true] at h
  exact ⟨h.1.1, h.1.2, h.2⟩
theorem okc_no (c : UInt8) (h : okc c.toNat = true) : c ≠ 9 ∧ c ≠ 10 ∧ c ≠ 35 := by
  refine ⟨?_, ?_, ?_⟩ <;> rintro rfl <;> exact absurd h (by decide)
theorem kindW_cases (k : Int) : kindW k = contentB ∨ kindW k = functionB ∨ kindW k = prefixB := by
  unfold kindW
  split
  · exact .inl rfl
  · split
    · exact .inr (.inl rfl)
    · exact .inr (.inr rfl)
theorem kindW_no (k : Int) : (∀ c ∈ (kindW k).data.toList, c ≠ 10) ∧ (kindW k).data.toList.length ≤ 8 := by
  rcases kindW_cases k with h | h | h <;> rw [h] <;> exact ⟨by decide, by decide⟩
theorem lineOf_no {p : P2} (h : nameD p.1 = true) : ∀ c ∈ lineOf p, c ≠ 10 := by
  intro c hc
  unfold lineOf at hc
  rcases List.mem_append.1 hc with h1 | h1
  · exact (okc_no c ((name_ok h).2.2 c h1)).2.1
  · rcases List.mem_cons.1 h1 with rfl | h2
    · decide
    · exact (kindW_no p.2).1 c h2
theorem lineOf_comment {p : P2} (h : nameD p.1 = true) : isComment (lineOf p) = false := by
  obtain ⟨h1, _, h3⟩ := name_ok h
  unfold lineOf isComment
  cases hl : p.1.data.toList with
  | nil => rw [hl] at h1; simp at h1
  | cons c t =>
    have := (okc_no c (h3 c (by rw [hl]; simp))).2.2
    simp [this]
theorem lineL_lineOf {p : P2} (h : nameD p.1 = true) (h0 : 0 ≤ p.2) (h2 : p.2 ≤ 2) : lineL (lineOf p) = some p := by
  unfold lineL lineOf
  rw [tabL_some _ _ fun c hc => (okc_no c ((name_ok h).2.2 c hc)).1]
  simp only
  have e : nameL p.1.data.toList = true := h
  rw [mk_list, kindI_W _ h0 h2, if_neg (by omega), if_pos e]
theorem printL_length : ∀ (l : List P2), (∀ p ∈ l, nameD p.1 = true) → (printL l).length ≤ l.length * 26
  | [], _ => Nat.le_refl _
  | p :: l, h => by
    have ih := printL_length l fun q hq => h q (List.mem_cons_of_mem _ hq)
    have h1 := (name_ok (h p List.mem_cons_self)).2.1
    have h2 := (kindW_no p.2).2
    unfold printL lineOf at ih ⊢
    simp only [List.flatMap_cons, List.length_append, List.length_cons, List.length_nil]
    omega
theorem linesL_print : ∀ (l : List P2), (∀ p ∈ l, nameD p.1 = true) → linesL (printL l) = l.map lineOf ++ [[]]
  | [], _ => rfl
  | p :: l, h => by
    have ih := linesL_print l fun q hq => h q (List.mem_cons_of_mem _ hq)
    have e : printL (p :: l) = lineOf p ++ 10 :: printL l := by unfold printL; rw [List.flatMap_cons, List.append_assoc]; rfl
    rw [e, linesL_lf _ _ (lineOf_no (h p List.mem_cons_self)), ih]
    rfl
theorem parseI_print : ∀ (xs acc : List P2) (n : Nat), Okl (acc ++ xs) → parseI acc (itemsL n (xs.map lineOf ++ [[]])) = (acc ++ xs, 0, 0)
  | [], acc, n, h => by
    rw [List.append_nil] at h ⊢
    have := h.1
    have e : itemsL n (([] : List P2).map lineOf ++ [[]]) = [] := rfl
    rw [e, parseI, if_neg (by omega)]
  | p :: xs, acc, n, h => by
    have hall := h.2.2.2.1 p (by simp)
    have e : itemsL n ((p :: xs).map lineOf ++ [[]]) = (n + 1, lineOf p) :: itemsL (n + 1) (xs.map lineOf ++ [[]]) := by
      rw [List.map_cons, List.cons_append, itemsL, lineOf_comment hall.1]
      rfl
    have hl : lineL (lineOf p) = some p := lineL_lineOf hall.1 hall.2.1 hall.2.2
    have hs : stepL acc (lineOf p) = .ok (acc ++ [p]) := by
      refine step_ok hl ?_ ?_ ?_
      · rintro ⟨h0, hp⟩
        obtain rfl := List.eq_nil_of_length_eq_zero h0
        have := h.2.2.1
        simp at this
        exact hp this
      · rw [findN_lt_iff]
        intro hm
        have hn := h.2.2.2.2
        rw [List.map_append, List.map_cons, List.nodup_append] at hn
        exact hn.2.2 _ hm _ List.mem_cons_self rfl
      · have := h.2.1
        simp at this
        omega
    rw [e, parseI_step hs, parseI_print xs (acc ++ [p]) (n + 1) (by simpa using h)]
    simp
/-- A list that is printed is parsed. -/
theorem parseL_printL (l : List P2) (h : okB l = true) : parseL (printL l) = (l, 0, 0) := by
  have ho := of_decide_eq_true h
  have hn : ∀ p ∈ l, nameD p.1 = true := fun p hp => (ho.2.2.2.1 p hp).1
  have hlen := printL_length l hn
  have := ho.2.1
  unfold parseL
  rw [if_neg (by omega), linesL_print l hn]
  exact parseI_print l [] 0 ho

/-- Lines, joined by line feeds. -/
def joinL : List (List UInt8) → List UInt8
  | [] => []
  | [a] => a
  | a :: b :: r => a ++ 10 :: joinL (b :: r)
theorem linesL_join : ∀ (ls : List (List UInt8)), ls ≠ [] → (∀ l ∈ ls, ∀ c ∈ l, c ≠ 10) → linesL (joinL ls) = ls
  | [], h, _ => absurd rfl h
  | [a], _, h => linesL_one a (h a (by simp))
  | a :: b :: r, _, h => by
    rw [joinL, linesL_lf a _ (h a (by simp)), linesL_join (b :: r) (by simp) fun l hl => h l (List.mem_cons_of_mem _ hl)]
/-- The bytes of lines, each with its line feed. -/
def sumL : List (List UInt8) → Nat
  | [] => 0
  | a :: r => a.length + 1 + sumL r
theorem joinL_length : ∀ (ls : List (List UInt8)), ls ≠ [] → (joinL ls).length + 1 = sumL ls
  | [], h => absurd rfl h
  | [a], _ => rfl
  | a :: b :: r, _ => by
    have ih := joinL_length (b :: r) (by simp)
    rw [joinL, sumL, ← ih]
    simp only [List.length_append, List.length_cons]
    omega
theorem sumL_append (a b : List (List UInt8)) : sumL (a ++ b) = sumL a + sumL b := by
  induction a with
  | nil => simp [sumL]
  | cons x a ih =>
    rw [List.cons_append, sumL, sumL, ih]
    omega
theorem joinL_snoc (ls : List (List UInt8)) (a : List UInt8) (h : ls ≠ []) : joinL (ls ++ [a]) = joinL ls ++ 10 :: a := by
  induction ls with
  | nil => exact absurd rfl h
  | cons x r ih =>
    cases r with
    | nil => rfl
    | cons y r =>
      have := ih (by simp)
      rw [List.cons_append, List.cons_append, joinL, joinL, ← List.cons_append, this]
      simp

theorem itemsL_append (a b : List (List UInt8)) : ∀ n, itemsL n (a ++ b) = itemsL n a ++ itemsL (n + a.length) b := by
  induction a with
  | nil => intro n; simp [itemsL]
  | cons x a ih =>
    intro n
    rw [List.cons_append, itemsL, itemsL, ih]
    have e : n + (x :: a).length = n + 1 + a.length := by simp; omega
    rw [e]
    split <;> rfl
theorem itemsL_num : ∀ (a : List (List UInt8)) (n : Nat), ∀ x ∈ itemsL n a, n < x.1 ∧ x.1 ≤ n + a.length
  | [], n, x, h => by simp [itemsL] at h
  | y :: a, n, x, h => by
    rw [itemsL] at h
    have hl : (y :: a).length = a.length + 1 := rfl
    split at h
    · have := itemsL_num a (n + 1) x h
      omega
    · rcases List.mem_cons.1 h with rfl | h
      · simp only; omega
      · have := itemsL_num a (n + 1) x h
        omega
theorem itemsL_shift : ∀ (a : List (List UInt8)) (n : Nat), itemsL (n + 1) a = (itemsL n a).map fun x => (x.1 + 1, x.2)
  | [], n => rfl
  | y :: a, n => by
    rw [itemsL, itemsL, itemsL_shift a (n + 1)]
    split
    · rfl
    · rfl

/-- The number of the wrong line, behind a line that was put in before it. -/
def bump (k : Nat) (r : List P2 × Int × Int) : List P2 × Int × Int := (r.1, (if (k : Int) < r.2.1 then r.2.1 + 1 else r.2.1), r.2.2)
theorem parseI_bump (k : Nat) : ∀ (its : List (Nat × List UInt8)) (acc : List P2), (∀ x ∈ its, k < x.1) → parseI acc (its.map fun x => (x.1 + 1, x.2)) = bump k (parseI acc its)
  | [], acc, _ => by
    rw [List.map_nil, parseI]
    have e : ¬ ((k : Int) < 0) := by omega
    split <;> simp [bump, e]
  | (n, s) :: its, acc, h => by
    rw [List.map_cons]
    have hn := h (n, s) (by simp)
    simp only at hn
    cases hs : stepL acc s with
    | error e =>
      rw [parseI_err hs, parseI_err hs]
      unfold bump
      rw [if_pos (by simp only; omega)]
      simp
    | ok acc' =>
      rw [parseI_step hs, parseI_step hs]
      exact parseI_bump k its acc' fun x hx => h x (List.mem_cons_of_mem _ hx)
theorem parseI_split (k : Nat) (B B' : List (Nat × List UInt8)) (hB : ∀ acc, parseI acc B' = bump k (parseI acc B)) : ∀ (A : List (Nat × List UInt8)) (acc : List P2), (∀ x ∈ A, x.1 ≤ k) → parseI acc (A ++ B') = bump k (parseI acc (A ++ B))
  | [], acc, _ => hB acc
  | (n, s) :: A, acc, h => by
    have hn := h (n, s) (by simp)
    simp only at hn
    rw [List.cons_append, List.cons_append]
    cases hs : stepL acc s with
    | error e =>
      rw [parseI_err hs, parseI_err hs]
      unfold bump
      rw [if_neg (by simp only; omega)]
    | ok acc' =>
      rw [parseI_step hs, parseI_step hs]
      exact parseI_split k B B' hB A acc' fun x hx => h x (List.mem_cons_of_mem _ hx)
/-- A comment line that is put in at place k. -/
theorem parse_comment (ls : List (List UInt8)) (k : Nat) (c : List UInt8) (hk : k ≤ ls.length) (hc : isComment c = true) : parseI [] (itemsL 0 (ls.take k ++ c :: ls.drop k)) = bump k (parseI [] (itemsL 0 ls)) := by
  have hl : (ls.take k).length = k := by simp; omega
  have e1 : itemsL 0 (ls.take k ++ c :: ls.drop k) = itemsL 0 (ls.take k) ++ (itemsL k (ls.drop k)).map fun x => (x.1 + 1, x.2) := by
    rw [itemsL_append, hl, Nat.zero_add, itemsL, if_pos hc, itemsL_shift]
  have e2 : itemsL 0 ls = itemsL 0 (ls.take k) ++ itemsL k (ls.drop k) := by
    have := itemsL_append (ls.take k) (ls.drop k) 0
    rw [List.take_append_drop, hl, Nat.zero_add] at this
    exact this
  rw [e1, e2]
  refine parseI_split k _ _ (fun acc => parseI_bump k _ acc fun x hx => (itemsL_num _ _ x hx).1) _ [] fun x hx => ?_
  have := (itemsL_num _ _ x hx).2
  omega
end Go.Proofs.YtoihfmjnonanjaaDoor.Hk
