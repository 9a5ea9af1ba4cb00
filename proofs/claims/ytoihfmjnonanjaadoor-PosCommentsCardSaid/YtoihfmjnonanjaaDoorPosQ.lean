/- Plain laws about the codes of numbers, strings and lists of parts of speech. No program is in sight. -/
import Derived.Test.YtoihfmjnonanjaaDoorPosP
namespace Go.Proofs.YtoihfmjnonanjaaDoor.Hk
open Go Go.Lib

/-- The code of a number, f bytes at most. -/
def uintF : Nat → Nat → List UInt8
  | 0, _ => []
  | f + 1, v => if v < 128 then [v.toUInt8] else (v % 128 + 128).toUInt8 :: uintF f (v / 128)
def uintL (v : Nat) : List UInt8 := uintF 10 v

/-- Reads a number of which k bytes have come: its value and how many bytes it takes. -/
def rdU : Nat → List UInt8 → Option (Nat × Nat)
  | _, [] => none
  | k, c :: t => if k = 9 ∧ 1 < c.toNat ∨ 0 < k ∧ c.toNat = 0 then none else if c.toNat < 128 then some (c.toNat, 1) else (rdU (k + 1) t).map fun x => (c.toNat % 128 + 128 * x.1, x.2 + 1)

theorem toU8_toNat (n : Nat) (h : n < 256) : n.toUInt8.toNat = n := by simp; omega

theorem uintF_small {f v : Nat} (h : v < 128) : uintF (f + 1) v = [v.toUInt8] := by rw [uintF, if_pos h]
theorem uintF_big {f v : Nat} (h : ¬ v < 128) : uintF (f + 1) v = (v % 128 + 128).toUInt8 :: uintF f (v / 128) := by rw [uintF, if_neg h]
theorem uintF_len : ∀ (f v : Nat), (uintF f v).length ≤ f
  | 0, _ => Nat.le_refl _
  | f + 1, v => by
    rw [uintF]
    split
    · simp
    · have := uintF_len f (v / 128)
      simp only [List.length_cons]; omega
theorem uintF_pos (f v : Nat) : 1 ≤ (uintF (f + 1) v).length := by
  rw [uintF]
  split <;> simp
theorem uintL_len (v : Nat) : 1 ≤ (uintL v).length ∧ (uintL v).length ≤ 10 := ⟨uintF_pos 9 v, uintF_len 10 v⟩

/-- What was written is read. -/
theorem rdU_uintF : ∀ (f k v : Nat) (t : List UInt8), k + (f + 1) = 10 → v < 2 ^ (64 - 7 * k) → (k = 0 ∨ 0 < v) → rdU k (uintF (f + 1) v ++ t) = some (v, (uintF (f + 1) v).length)
  | 0, k, v, t, hk, hv, h0 => by
    obtain rfl : k = 9 := by omega
    have hv2 : v < 2 := by simpa using hv
    rw [uintF_small (by omega), List.singleton_append, rdU, toU8_toNat v (by omega), if_neg (by omega), if_pos (by omega)]
    rfl
  | f + 1, k, v, t, hk, hv, h0 => by
    by_cases h : v < 128
    · rw [uintF_small h, List.singleton_append, rdU, toU8_toNat v (by omega), if_neg (by omega), if_pos h]
      rfl
    · have hv2 : v / 128 < 2 ^ (64 - 7 * (k + 1)) := by
        rw [Nat.div_lt_iff_lt_mul (by omega)]
        have e : 64 - 7 * k = 64 - 7 * (k + 1) + 7 := by omega
        rw [e, Nat.pow_add] at hv
        exact hv
      have ih := rdU_uintF f (k + 1) (v / 128) t (by omega) hv2 (.inr (by omega))
      rw [uintF_big h, List.cons_append, rdU, toU8_toNat _ (by omega), if_neg (by omega), if_neg (by omega), ih]
      simp only [Option.map_some, List.length_cons]
      congr 2
      omega
theorem rdU_uintL (v : Nat) (t : List UInt8) (h : v < 18446744073709551616) : rdU 0 (uintL v ++ t) = some (v, (uintL v).length) :=
  rdU_uintF 9 0 v t rfl (by simpa using h) (.inl rfl)

/-- What was read is the code. -/
theorem rdU_spec : ∀ (f k : Nat) (l : List UInt8) (v n : Nat), k + (f + 1) = 10 → rdU k l = some (v, n) → v < 2 ^ (64 - 7 * k) ∧ (k = 0 ∨ 0 < v) ∧ 1 ≤ n ∧ n ≤ l.length ∧ uintF (f + 1) v = l.take n
  | f, k, [], v, n, hk, h => by simp [rdU] at h
  | f, k, c :: t, v, n, hk, h => by
    have hc := c.toNat_lt
    rw [rdU] at h
    split at h
    · cases h
    · rename_i hn
      split at h
      · rename_i hs
        simp only [Option.some.injEq, Prod.mk.injEq] at h
        obtain ⟨rfl, rfl⟩ := h
        have hp : 2 ^ 1 ≤ 2 ^ (64 - 7 * k) := Nat.pow_le_pow_right (by omega) (by omega)
        refine ⟨?_, by omega, by omega, by simp, by rw [uintF_small hs]; simp⟩
        by_cases h9 : k = 9
        · subst h9
          omega
        · have hp2 : 2 ^ 7 ≤ 2 ^ (64 - 7 * k) := Nat.pow_le_pow_right (by omega) (by omega)
          omega
      · rename_i hs
        obtain ⟨⟨x, m⟩, hx, he⟩ := Option.map_eq_some_iff.1 h
        simp only [Prod.mk.injEq] at he
        obtain ⟨rfl, rfl⟩ := he
        cases f with
        | zero => omega
        | succ f =>
          obtain ⟨h1, h2, h3, h4, h5⟩ := rdU_spec f (k + 1) t x m (by omega) hx
          have hx0 : 0 < x := by omega
          have e : 64 - 7 * k = 64 - 7 * (k + 1) + 7 := by omega
          refine ⟨?_, by omega, by omega, by simp; omega, ?_⟩
          · rw [e, Nat.pow_add]
            omega
          · rw [uintF_big (by omega), List.take_succ_cons]
            have e1 : (c.toNat % 128 + 128 * x) / 128 = x := by omega
            have e2 : (c.toNat % 128 + 128 * x) % 128 + 128 = c.toNat := by omega
            rw [e1, e2, h5]
            simp
theorem rdU_take {l : List UInt8} {v n : Nat} (h : rdU 0 l = some (v, n)) : v < 18446744073709551616 ∧ 1 ≤ n ∧ n ≤ l.length ∧ uintL v = l.take n := by
  obtain ⟨h1, _, h3, h4, h5⟩ := rdU_spec 9 0 l v n rfl h
  exact ⟨by simpa using h1, h3, h4, h5⟩

def textL (l : List UInt8) : List UInt8 := uintL l.length ++ l
/-- Reads a string: its bytes and how many bytes its code takes. -/
def rdT (l : List UInt8) : Option (List UInt8 × Nat) :=
  match rdU 0 l with
  | none => none
  | some (n, c) => if n ≤ l.length - c then some ((l.drop c).take n, c + n) else none
theorem rdT_textL (s t : List UInt8) (h : s.length < 18446744073709551616) : rdT (textL s ++ t) = some (s, (textL s).length) := by
  unfold rdT textL
  rw [List.append_assoc, rdU_uintL _ _ h]
  simp
theorem rdT_spec {l s : List UInt8} {n : Nat} (h : rdT l = some (s, n)) : n ≤ l.length ∧ 1 ≤ n ∧ textL s = l.take n ∧ s.length < 18446744073709551616 := by
  unfold rdT at h
  split at h
  · cases h
  · rename_i v c hr
    obtain ⟨h1, h2, h3, h4⟩ := rdU_take hr
    split at h
    · simp only [Option.some.injEq, Prod.mk.injEq] at h
      obtain ⟨rfl, rfl⟩ := h
      have hl : ((l.drop c).take v).length = v := by simp; omega
      refine ⟨by omega, by omega, ?_, by rw [hl]; exact h1⟩
      unfold textL
      rw [hl, h4, List.take_add]
    · cases h

/-- The code of one element. -/
def elL (p : P2) : List UInt8 := textL p.1.data.toList ++ uintL p.2.toNat
def encL (l : List P2) : List UInt8 := uintL l.length ++ l.flatMap elL
/-- Reads n elements behind those that have come. -/
def decI : Nat → List P2 → List UInt8 → Option (List P2)
  | 0, acc, l => if l.length = 0 ∧ okB acc = true then some acc else none
  | n + 1, acc, l =>
    match rdT l with
    | none => none
    | some (s, c) =>
      match rdU 0 (l.drop c) with
      | none => none
      | some (k, d) => if 2 < k then none else decI n (acc ++ [(⟨s.toArray⟩, (k : Int))]) (l.drop (c + d))
def decL (l : List UInt8) : Option (List P2) :=
  match rdU 0 l with
  | none => none
  | some (n, c) => if 64 < n then none else decI n [] (l.drop c)

theorem decI_none {n : Nat} {acc : List P2} {l : List UInt8} (h : rdT l = none) : decI (n + 1) acc l = none := by rw [decI, h]
theorem decI_kind {n : Nat} {acc : List P2} {l s : List UInt8} {c : Nat} (h : rdT l = some (s, c)) (h2 : rdU 0 (l.drop c) = none) : decI (n + 1) acc l = none := by rw [decI, h]; simp only; rw [h2]
theorem decI_more {n : Nat} {acc : List P2} {l s : List UInt8} {c k d : Nat} (h : rdT l = some (s, c)) (h2 : rdU 0 (l.drop c) = some (k, d)) (h3 : 2 < k) : decI (n + 1) acc l = none := by rw [decI, h]; simp only; rw [h2]; simp only; rw [if_pos h3]
theorem decI_next {n : Nat} {acc : List P2} {l s : List UInt8} {c k d : Nat} (h : rdT l = some (s, c)) (h2 : rdU 0 (l.drop c) = some (k, d)) (h3 : ¬ 2 < k) : decI (n + 1) acc l = decI n (acc ++ [(⟨s.toArray⟩, (k : Int))]) (l.drop (c + d)) := by rw [decI, h]; simp only; rw [h2]; simp only; rw [if_neg h3]

theorem size_list (s : ByteArray) : s.size = s.data.toList.length := by simp
theorem mk_list (s : ByteArray) : (⟨s.data.toList.toArray⟩ : ByteArray) = s := by simp

theorem decI_enc : ∀ (xs acc : List P2), okB (acc ++ xs) = true → decI xs.length acc (xs.flatMap elL) = some (acc ++ xs)
  | [], acc, h => by
    rw [List.append_nil] at h ⊢
    simp [decI, h]
  | p :: xs, acc, h => by
    have hall : p ∈ acc ++ p :: xs := by simp
    have ho := (of_decide_eq_true h).2.2.2.1 p hall
    have hn : p.1.data.toList.length ≤ 16 := by
      have := ho.1
      simp only [nameD, nameL, Bool.and_eq_true, decide_eq_true_eq] at this
      exact this.1.2
    have h1 : rdT ((p :: xs).flatMap elL) = some (p.1.data.toList, (textL p.1.data.toList).length) := by
      rw [List.flatMap_cons, elL, List.append_assoc]
      exact rdT_textL _ _ (by omega)
    have h2 : rdU 0 (((p :: xs).flatMap elL).drop (textL p.1.data.toList).length) = some (p.2.toNat, (uintL p.2.toNat).length) := by
      rw [List.flatMap_cons, elL, List.append_assoc, List.drop_left]
      exact rdU_uintL _ _ (by omega)
    rw [List.length_cons, decI_next h1 h2 (by omega)]
    have h3 : ((p :: xs).flatMap elL).drop ((textL p.1.data.toList).length + (uintL p.2.toNat).length) = xs.flatMap elL := by
      rw [List.flatMap_cons, elL, ← List.length_append, List.drop_left]
    have h4 : ((⟨p.1.data.toList.toArray⟩ : ByteArray), ((p.2.toNat : Nat) : Int)) = p := by
      rw [mk_list, Int.toNat_of_nonneg ho.2.1]
    rw [h3, h4, decI_enc xs (acc ++ [p]) (by simpa using h)]
    simp
/-- A list that is encoded is decoded. -/
theorem decL_encL (l : List P2) (h : okB l = true) : decL (encL l) = some l := by
  have hl := (of_decide_eq_true h).2.1
  unfold decL encL
  rw [rdU_uintL _ _ (by omega)]
  simp only
  rw [if_neg (by omega), List.drop_left]
  exact decI_enc l [] h

theorem decI_spec : ∀ (n : Nat) (acc : List P2) (l : List UInt8) (r : List P2), decI n acc l = some r → ∃ xs : List P2, r = acc ++ xs ∧ xs.length = n ∧ l = xs.flatMap elL ∧ okB r = true
  | 0, acc, l, r, h => by
    rw [decI] at h
    split at h
    · rename_i hh
      obtain rfl := Option.some.inj h
      exact ⟨[], by simp, rfl, List.eq_nil_of_length_eq_zero hh.1, hh.2⟩
    · cases h
  | n + 1, acc, l, r, h => by
    cases h1 : rdT l with
    | none => rw [decI_none h1] at h; cases h
    | some x =>
      obtain ⟨s, c⟩ := x
      cases h2 : rdU 0 (l.drop c) with
      | none => rw [decI_kind h1 h2] at h; cases h
      | some y =>
        obtain ⟨k, d⟩ := y
        by_cases h3 : 2 < k
        · rw [decI_more h1 h2 h3] at h; cases h
        · rw [decI_next h1 h2 h3] at h
          obtain ⟨xs, e1, e2, e3, e4⟩ := decI_spec n _ _ r h
          obtain ⟨t1, _, t3, _⟩ := rdT_spec h1
          obtain ⟨_, _, u3, u4⟩ := rdU_take h2
          refine ⟨(⟨s.toArray⟩, (k : Int)) :: xs, by simpa using e1, by simp [e2], ?_, e4⟩
          rw [List.flatMap_cons, ← e3]
          show l = (textL s ++ uintL ((k : Int)).toNat) ++ _
          rw [Int.toNat_natCast, t3, u4, ← List.take_add, List.take_append_drop]
/-- What is decoded is the code of the list. -/
theorem decL_spec {l : List UInt8} {r : List P2} (h : decL l = some r) : encL r = l ∧ okB r = true := by
  unfold decL at h
  split at h
  · cases h
  · rename_i n c hr
    split at h
    · cases h
    · obtain ⟨xs, e1, e2, e3, e4⟩ := decI_spec _ _ _ _ h
      obtain ⟨_, _, u3, u4⟩ := rdU_take hr
      rw [List.nil_append] at e1
      subst e1
      refine ⟨?_, e4⟩
      unfold encL
      rw [e2, ← e3, u4, List.take_append_drop]
theorem decL_none1 {l : List UInt8} (h : rdU 0 l = none) : decL l = none := by unfold decL; rw [h]
theorem decL_none2 {l : List UInt8} {n c : Nat} (h : rdU 0 l = some (n, c)) (h2 : 64 < n) : decL l = none := by unfold decL; rw [h]; simp only; rw [if_pos h2]
theorem decL_go {l : List UInt8} {n c : Nat} (h : rdU 0 l = some (n, c)) (h2 : ¬ 64 < n) : decL l = decI n [] (l.drop c) := by unfold decL; rw [h]; simp only; rw [if_neg h2]
end Go.Proofs.YtoihfmjnonanjaaDoor.Hk
