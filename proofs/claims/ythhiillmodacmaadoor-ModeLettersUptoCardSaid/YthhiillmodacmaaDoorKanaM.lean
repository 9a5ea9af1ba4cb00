/- Maps of strings that the call made, by what they hold at each key; the characters' forms as what such a map holds. -/
import Derived.Test.YthhiillmodacmaaDoorMap
import Derived.Test.YthhiillmodacmaaDoorKanaE
namespace Go.Proofs.YthhiillmodacmaaDoor
open Go.RowKit Go.Lib Go.Maps Hk
set_option linter.unusedSimpArgs false
set_option linter.unusedVariables false
set_option maxRecDepth 100000

section
variable {w w' : World} {k e t : TypeId} {b n : Nat} {f : Lit → Option Lit}
theorem elem_str {e : TypeId} (he : Tryd.prog.underlying e = some .string) {v : Value} {l : List UInt8} {ps : List MemPlace} (h : plainElem (H := Unit) Tryd.prog e v = some (.lit (.string l), ps)) : v = .string (bstr l) := by
  obtain ⟨s, rfl, hz, _⟩ := plainElem_string_inv he h
  simp only [Prod.mk.injEq, DataW.lit.injEq, Lit.string.injEq] at hz
  rw [hz.1, bstr_eta]
theorem elem_zero {e : TypeId} (he : Tryd.prog.underlying e = some .string) : plainElem (H := Unit) Tryd.prog e (.string ⟨#[]⟩) = some (.lit (.string []), []) := plainElem_string he (s := ⟨#[]⟩) (Nat.zero_le _)
/-- 'm[k]' at elements that are strings. -/
theorem MapIs.look_str (h : MapIs w k e b n f) (K : Keyed Tryd.prog k) (ht : Tryd.prog.underlying t = some (.map k e)) (he : Tryd.prog.underlying e = some .string) (hz : (zeroValue e).run Tryd.prog w = .ok (.string ⟨#[]⟩) w)
    {key : Value} {kl : Lit} (hkey : keyOf Tryd.prog k key = some kl) (hkl : WideAt.IsKeyLit kl) {l : List UInt8} (hx : f kl = some (.string l)) : (Instr.lookup t (.map (some b)) key false).run Tryd.prog w = .ok (.string (bstr l)) w := by
  obtain ⟨D, ho, _, hat⟩ := h
  obtain ⟨v, ps, hrun, hv⟩ := ho.lookup K ht hz (elem_zero he) hkey
  rw [hat kl hkl, hx] at hv
  rw [hrun, elem_str he hv]
/-- 'v, ok := m[k]': a key that the map holds. -/
theorem MapIs.look_yes (h : MapIs w k e b n f) (K : Keyed Tryd.prog k) (ht : Tryd.prog.underlying t = some (.map k e)) (he : Tryd.prog.underlying e = some .string) (hz : (zeroValue e).run Tryd.prog w = .ok (.string ⟨#[]⟩) w)
    {key : Value} {kl : Lit} (hkey : keyOf Tryd.prog k key = some kl) (hkl : WideAt.IsKeyLit kl) {l : List UInt8} (hx : f kl = some (.string l)) : (Instr.lookup t (.map (some b)) key true).run Tryd.prog w = .ok (.tuple #[.string (bstr l), .bool true]) w := by
  obtain ⟨D, ho, _, hat⟩ := h
  obtain ⟨v, ps, hrun, hv⟩ := ho.look_ok K ht hz (elem_zero he) hkey
  have hh : Maps.has D kl = true := Maps.has_true_of_atKey (y := .lit (.string l)) fun zd => by rw [hat kl hkl, hx]
  rw [hat kl hkl, hx] at hv
  rw [hrun, elem_str he hv, hh]
/-- 'v, ok := m[k]': a key that it does not hold. -/
theorem MapIs.look_no (h : MapIs w k e b n f) (K : Keyed Tryd.prog k) (ht : Tryd.prog.underlying t = some (.map k e)) (he : Tryd.prog.underlying e = some .string) (hz : (zeroValue e).run Tryd.prog w = .ok (.string ⟨#[]⟩) w)
    {key : Value} {kl : Lit} (hkey : keyOf Tryd.prog k key = some kl) (hkl : WideAt.IsKeyLit kl) (hx : f kl = none) : (Instr.lookup t (.map (some b)) key true).run Tryd.prog w = .ok (.tuple #[.string ⟨#[]⟩, .bool false]) w := by
  obtain ⟨D, ho, _, hat⟩ := h
  obtain ⟨v, ps, hrun, hv⟩ := ho.look_ok K ht hz (elem_zero he) hkey
  have hh : Maps.has D kl = false := Maps.has_false_of_atKey fun zd => by rw [hat kl hkl, hx]
  rw [hat kl hkl, hx] at hv
  rw [hrun, elem_str he hv, hh]
  rfl
end

/-- A list of characters and their forms, the newest first, as what a map of strings holds. -/
noncomputable def mapF : List (Nat × List Nat) → Lit → Option Lit
  | [] => fun _ => none
  | (p, h) :: l => putF (mapF l) (.int .i32 (p : Int)) (.string (encT h))
theorem mapF_at : ∀ (l : List (Nat × List Nat)) (c : Nat), mapF l (.int .i32 (c : Int)) = (l.lookup c).map fun h => Lit.string (encT h)
  | [], c => rfl
  | (p, h) :: l, c => by
    rw [List.lookup_cons]
    by_cases hc : c = p
    · subst hc
      rw [mapF, putF_same]; simp
    · have hne : Lit.int .i32 (c : Int) ≠ .int .i32 (p : Int) := by
        intro e
        injection e with _ e
        exact hc (by omega)
      have hb : (c == p) = false := by simpa using hc
      rw [mapF, putF_other _ _ hne, mapF_at l c, hb]
theorem mapF_keys : ∀ (l : List (Nat × List Nat)) (y v : Lit), mapF l y = some v → ∃ c h, (c, h) ∈ l ∧ y = .int .i32 (c : Int) ∧ v = .string (encT h)
  | [], y, v, h => by cases h
  | (p, h) :: l, y, v, e => by
    by_cases hy : y = .int .i32 (p : Int)
    · subst hy
      rw [mapF, putF_same] at e
      exact ⟨p, h, List.mem_cons_self, rfl, (Option.some.inj e).symm⟩
    · rw [mapF, putF_other _ _ hy] at e
      obtain ⟨c, h', hm, h1, h2⟩ := mapF_keys l y v e
      exact ⟨c, h', List.mem_cons_of_mem _ hm, h1, h2⟩
theorem halfK_look (c : Nat) : (formsL.lookup c = none ∧ halfK c = []) ∨ ∃ h, formsL.lookup c = some h ∧ halfK c = h ∧ h ≠ [] := by
  unfold halfK
  cases hl : formsL.lookup c with
  | none => exact .inl ⟨rfl, rfl⟩
  | some h =>
    right
    refine ⟨h, rfl, rfl, ?_⟩
    rintro rfl
    have := List.all_eq_true.1 forms_ok _ (lookup_mem _ _ _ hl)
    cases this
theorem mapF_none {c : Nat} (h : halfK c = []) : mapF formsL (.int .i32 (c : Int)) = none := by
  rw [mapF_at]
  rcases halfK_look c with ⟨h1, _⟩ | ⟨x, h1, h2, h3⟩
  · rw [h1]; rfl
  · exact absurd (h2.symm.trans h) h3
theorem mapF_some {c : Nat} (h : halfK c ≠ []) : mapF formsL (.int .i32 (c : Int)) = some (.string (encT (halfK c))) := by
  rw [mapF_at]
  rcases halfK_look c with ⟨_, h2⟩ | ⟨x, h1, h2, h3⟩
  · exact absurd h2 h
  · rw [h1, h2]; rfl

theorem law_i32 : Keyed Tryd.prog 21 := int_keyed Tryd.underlying21
theorem law_string : Keyed Tryd.prog 9 := string_keyed Tryd.underlying9
theorem zero_string (w : World) : (zeroValue 9).run Tryd.prog w = .ok (.string ⟨#[]⟩) w := by kernel_rfl
theorem wf_rune {c : Nat} (h : c < 2147483648) : (Lit.int .i32 (c : Int)).wf = true := WalkArith.wf_i32 (by omega)
theorem key_rune {c : Nat} (h : c < 2147483648) : keyOf Tryd.prog 21 (.int .i32 (c : Int)) = some (.int .i32 (c : Int)) := keyOf_int_mk Tryd.underlying21 (wf_rune h)
theorem key_str {l : List UInt8} (h : l.length ≤ 1048576) : keyOf Tryd.prog 9 (.string (bstr l)) = some (.string l) := by
  have := Go.WideMaps.keyOf_string_mk Tryd.underlying9 (s := bstr l) (by rw [bstr_size]; unfold maxLen; omega)
  rwa [bstr_data] at this
theorem isRune_lt {r : Nat} (h : isRune r) : r < 2147483648 := by unfold isRune at h; omega
end Go.Proofs.YthhiillmodacmaaDoor
