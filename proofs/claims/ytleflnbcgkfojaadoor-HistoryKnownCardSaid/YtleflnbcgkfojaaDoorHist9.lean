/- Plain laws about the keys of words: in two parts; each once; each of a word. -/
import Derived.Test.YtleflnbcgkfojaaDoorHist8
namespace Go.Proofs.YtleflnbcgkfojaaDoor
open Go.RowKit Go.Lib Go.Shelf Hk Go.Maps
set_option linter.unusedSimpArgs false
set_option linter.unusedVariables false
set_option maxRecDepth 100000

def addU (l : List ByteArray) (k : ByteArray) : List ByteArray := if k ∈ l then l else l ++ [k]
theorem add1_ge (l : List ByteArray) (k : ByteArray) : l.length ≤ (add1 l k).length := by
  unfold add1
  split
  · rw [List.length_append]; omega
  · exact Nat.le_refl _
theorem fold_ge : ∀ (m l : List ByteArray), l.length ≤ (m.foldl add1 l).length
  | [], l => Nat.le_refl _
  | x :: m, l => Nat.le_trans (add1_ge l x) (fold_ge m _)
theorem addU_ge (l : List ByteArray) (k : ByteArray) : l.length ≤ (addU l k).length := by
  unfold addU
  split
  · exact Nat.le_refl _
  · rw [List.length_append]; omega
theorem foldU_ge : ∀ (m l : List ByteArray), l.length ≤ (m.foldl addU l).length
  | [], l => Nat.le_refl _
  | x :: m, l => Nat.le_trans (addU_ge l x) (foldU_ge m _)
theorem add_free (l : List ByteArray) (x : ByteArray) (h : l.length < 64) : add1 l x = addU l x := by
  unfold add1 addU
  by_cases hx : x ∈ l
  · rw [if_neg (fun e => e.2 hx), if_pos hx]
  · rw [if_pos ⟨h, hx⟩, if_neg hx]
theorem fold_free : ∀ (m l : List ByteArray), (m.foldl add1 l).length < 64 → m.foldl add1 l = m.foldl addU l
  | [], l, _ => rfl
  | x :: m, l, h => by
    have h1 := fold_ge m (add1 l x)
    have h2 := add1_ge l x
    rw [List.foldl_cons] at h ⊢
    rw [List.foldl_cons, ← add_free l x (by omega)]
    exact fold_free m _ h
theorem fold_freeU : ∀ (m l : List ByteArray), (m.foldl addU l).length < 64 → m.foldl add1 l = m.foldl addU l
  | [], l, _ => rfl
  | x :: m, l, h => by
    have h1 := foldU_ge m (addU l x)
    have h2 := addU_ge l x
    rw [List.foldl_cons] at h
    rw [List.foldl_cons, List.foldl_cons, add_free l x (by omega)]
    exact fold_freeU m _ h
/-- Those of D that are not in A. -/
def notIn (A D : List ByteArray) : List ByteArray := D.filter fun k => !decide (k ∈ A)
theorem addU_split (A D : List ByteArray) (y : ByteArray) : addU (A ++ notIn A D) y = A ++ notIn A (addU D y) := by
  unfold addU notIn
  by_cases hA : y ∈ A
  · rw [if_pos (List.mem_append_left _ hA)]
    by_cases hD : y ∈ D
    · rw [if_pos hD]
    · rw [if_neg hD, List.filter_append]
      simp [hA]
  · by_cases hD : y ∈ D
    · rw [if_pos hD, if_pos (List.mem_append_right _ (List.mem_filter.2 ⟨hD, by simpa using hA⟩))]
    · rw [if_neg hD, if_neg (by simp [hA, hD]), List.filter_append, ← List.append_assoc]
      simp [hA]
theorem foldU_split (A : List ByteArray) : ∀ (Y D : List ByteArray), Y.foldl addU (A ++ notIn A D) = A ++ notIn A (Y.foldl addU D)
  | [], D => rfl
  | y :: Y, D => by rw [List.foldl_cons, List.foldl_cons, addU_split, foldU_split A Y]
theorem addU_nodup (l : List ByteArray) (k : ByteArray) (h : l.Nodup) : (addU l k).Nodup := by
  unfold addU
  split
  · exact h
  · rename_i hk
    rw [List.nodup_append]
    exact ⟨h, by simp, fun a ha b hb e => hk (by simp at hb; rw [← hb, ← e]; exact ha)⟩
theorem add1_nodup (l : List ByteArray) (k : ByteArray) (h : l.Nodup) : (add1 l k).Nodup := by
  unfold add1
  split
  · rename_i hk
    rw [List.nodup_append]
    exact ⟨h, by simp, fun a ha b hb e => hk.2 (by simp at hb; rw [← hb, ← e]; exact ha)⟩
  · exact h
theorem foldU_nodup : ∀ (m l : List ByteArray), l.Nodup → (m.foldl addU l).Nodup
  | [], l, h => h
  | x :: m, l, h => foldU_nodup m _ (addU_nodup l x h)
theorem fold_nodup : ∀ (m l : List ByteArray), l.Nodup → (m.foldl add1 l).Nodup
  | [], l, h => h
  | x :: m, l, h => fold_nodup m _ (add1_nodup l x h)
theorem nodup_le : ∀ (D A : List ByteArray), D.Nodup → (∀ x ∈ D, x ∈ A) → D.length ≤ A.length
  | [], A, _, _ => Nat.zero_le _
  | x :: D, A, h, hs => by
    rw [List.nodup_cons] at h
    have hx := hs x List.mem_cons_self
    have h1 := nodup_le D (A.filter fun y => !decide (y = x)) h.2 fun y hy => List.mem_filter.2 ⟨hs y (List.mem_cons_of_mem _ hy), by
      have : y ≠ x := by rintro rfl; exact h.1 hy
      simpa using this⟩
    have h2 : (A.filter fun y => !decide (y = x)).length < A.length := List.length_filter_lt_length_iff_exists.2 ⟨x, hx, by simp⟩
    rw [List.length_cons]
    omega
theorem filter_two (p : ByteArray → Bool) : ∀ D : List ByteArray, D.length = (D.filter p).length + (D.filter fun k => !p k).length
  | [] => rfl
  | x :: D => by
    have := filter_two p D
    cases h : p x <;> simp [List.filter_cons, h] <;> omega
theorem allFrom_append : ∀ (p : ByteArray) (u v : List Wd), allFrom p (u ++ v) = allFrom p u ++ allFrom (lastD p u) v
  | p, [], v => rfl
  | p, x :: u, v => by rw [List.cons_append, allFrom, allFrom, allFrom_append x.2 u v, List.append_assoc, lastD_cons]

/-- In two parts. -/
theorem keys_parts (p : ByteArray) (ws : List Wd) (k : Nat) (h : (keysD p ws).length < 64) :
    keysD p ws = keysD p (ws.take k) ++ notIn (keysD p (ws.take k)) (keysD (lastD p (ws.take k)) (ws.drop k)) := by
  have e : allFrom p ws = allFrom p (ws.take k) ++ allFrom (lastD p (ws.take k)) (ws.drop k) := by
    conv => lhs; rw [← List.take_append_drop k ws]
    exact allFrom_append _ _ _
  rw [keysD_all, keysD_all, keysD_all] at *
  rw [e] at h ⊢
  generalize allFrom p (ws.take k) = X at *
  generalize allFrom (lastD p (ws.take k)) (ws.drop k) = Y at *
  have hfree := fold_free _ _ h
  rw [hfree] at h ⊢
  rw [List.foldl_append] at h ⊢
  have s := foldU_split (X.foldl addU []) Y []
  have e0 : X.foldl addU [] ++ notIn (X.foldl addU []) [] = X.foldl addU [] := by simp [notIn]
  rw [e0] at s
  rw [s] at h ⊢
  rw [List.length_append] at h
  rw [fold_freeU X [] (by omega)]
  have hd := foldU_nodup Y [] List.nodup_nil
  have h2 := filter_two (fun k => decide (k ∈ X.foldl addU [])) (Y.foldl addU [])
  have h3 := nodup_le _ (X.foldl addU []) (hd.filter fun k => decide (k ∈ X.foldl addU [])) (fun x hx => by simpa using (List.mem_filter.1 hx).2)
  rw [fold_freeU Y [] (by unfold notIn at h; omega)]

theorem keysD_nodup (p : ByteArray) (ws : List Wd) : (keysD p ws).Nodup := by
  rw [keysD_all]
  exact fold_nodup _ _ List.nodup_nil

/-- A key of a word, as HistoryOnly asks it. -/
def onlyB (kind : Int) (a b bf : List UInt8) (x : Wd) : Bool :=
  ((kind == 1) && (a == x.1.toList) && (b == x.2.toList) && readingD a) || ((kind == 2) && (a == bf) && (b == x.2.toList))
def foundD (kind : Int) (a b : List UInt8) : ByteArray → List Wd → Bool
  | _, [] => false
  | p, x :: ws => onlyB kind a b p.toList x || foundD kind a b x.2 ws
theorem foundD_snoc (kind : Int) (a b : List UInt8) : ∀ (p : ByteArray) (ws : List Wd) (x : Wd), foundD kind a b p (ws ++ [x]) = (foundD kind a b p ws || onlyB kind a b (lastD p ws).toList x)
  | p, [], x => by simp [foundD, lastD]
  | p, y :: ws, x => by rw [List.cons_append, foundD, foundD, foundD_snoc kind a b y.2 ws x, Bool.or_assoc, lastD_cons]
theorem wordKeys_parse {p : ByteArray} {x : Wd} {k : ByteArray} (h : k ∈ wordKeys p x) : ∃ kind a b, kparse k.data.toList = some (kind, a, b) ∧ onlyB kind a b p.toList x = true := by
  unfold wordKeys at h
  split at h
  · rename_i hc
    obtain ⟨l1, e1⟩ := Option.isSome_iff_exists.1 hc.2
    rw [e1] at h
    rcases List.mem_cons.1 h with rfl | h
    · refine ⟨1, _, _, (kparse_iff _ _ _ _).2 (by simpa [keyStr] using e1), ?_⟩
      unfold onlyB
      simp [ByteArray.toList_eq, hc.1]
    · split at h
      · rename_i l2 e2
        have : k = ⟨l2.toArray⟩ := by simpa using h
        subst this
        refine ⟨2, _, _, (kparse_iff _ _ _ _).2 (by simpa using e2), ?_⟩
        unfold onlyB
        simp [ByteArray.toList_eq]
      · cases h
  · cases h
theorem allFrom_parse : ∀ (ws : List Wd) (p : ByteArray) (k : ByteArray), k ∈ allFrom p ws → ∃ kind a b, kparse k.data.toList = some (kind, a, b) ∧ foundD kind a b p ws = true
  | [], p, k, h => by cases h
  | x :: ws, p, k, h => by
    rw [allFrom, List.mem_append] at h
    rcases h with h | h
    · obtain ⟨kind, a, b, h1, h2⟩ := wordKeys_parse h
      exact ⟨kind, a, b, h1, by rw [foundD, h2, Bool.true_or]⟩
    · obtain ⟨kind, a, b, h1, h2⟩ := allFrom_parse ws x.2 k h
      exact ⟨kind, a, b, h1, by rw [foundD, h2, Bool.or_true]⟩
theorem keysD_parse {p : ByteArray} {ws : List Wd} {k : ByteArray} (h : k ∈ keysD p ws) : ∃ kind a b, kparse k.data.toList = some (kind, a, b) ∧ foundD kind a b p ws = true := allFrom_parse ws p k (keysD_mem h)
end Go.Proofs.YtleflnbcgkfojaaDoor
