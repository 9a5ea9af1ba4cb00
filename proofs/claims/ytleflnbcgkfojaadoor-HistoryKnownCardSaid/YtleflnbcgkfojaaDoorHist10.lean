/- What henkanlaw31.has computes; parts of a slice of words. -/
import Derived.Test.YtleflnbcgkfojaaDoorHist9
import Derived.Deep.RegionWith
import Derived.Outline
namespace Go.Proofs.YtleflnbcgkfojaaDoor
open Go.RowKit Go.Lib Go.Shelf Hk Go.Maps
set_option linter.unusedSimpArgs false
set_option linter.unusedVariables false
set_option maxRecDepth 100000

set_option maxHeartbeats 1000000 in
theorem has_calls (A : Option Addr) (n cap : Nat) (l : List ByteArray) (s : ByteArray) (w : World) (B : Nat) (hn0 : l.length = n) (hl : Lies w B 1 A n (l.map Value.string)) (hn : n ≤ 9223372036854775807) :
    Calls Tryd.prog 23 #[.slice A n cap, .string s] w fun e w' => e = .returned (.bool (decide (s ∈ l))) ∧ w = w' := by
  have HL := Lib.hid hl
  have HN := Lib.hid hn0
  obtain ⟨x, hx⟩ : ∃ x, decide (s ∈ l) = x := ⟨_, rfl⟩
  have HX := Lib.hid hx
  rw [hx]
  clear hl hn0 hx
  go_enter Tryd.func23, Tryd.ntmps23
  go_wp2_with fail
  go_loop [9] (fun i => ∃ k : Nat, k ≤ n ∧ i = .int .i64 (k : Int) ∧ Hid (s ∉ l.take k)) (fun i => n - (intOf i).toNat)
  case atStart => exact ⟨0, Nat.zero_le _, rfl, by show _ ∉ _; simp⟩
  case round =>
    obtain ⟨k, hk, rfl, HA⟩ := hrel
    by_cases hlt : k < n
    · obtain ⟨key, hc⟩ : ∃ c, l[k]? = some c := ⟨_, List.getElem?_eq_getElem (by rw [HN.out]; exact hlt)⟩
      obtain ⟨b, off, rfl, hab, c0⟩ := HL.out.at1 hlt (u := .string key) (by rw [List.getElem?_map, hc]; rfl)
      cases hq : (key.toList == s.toList) with
      | true =>
        have HF : Hid (x = true) := by
          show _ = _
          rw [← HX.out]
          have := (list_eq_iff key s).1 hq
          exact decide_eq_true (by rw [← this]; exact List.mem_of_getElem? hc)
        clear hc
        go_wp2_with fail
        go_ret
        exact ⟨ret_bool HF.out.symm, rfl⟩
      | false =>
        have HA2 : Hid (s ∉ l.take (k + 1)) := by
          show _ ∉ _
          rw [take_snoc_list l k key hc, List.mem_append]
          rintro (h | h)
          · exact HA.out h
          · have : s = key := by simpa using h
            rw [(list_eq_iff key s).2 this.symm] at hq
            cases hq
        clear hc
        go_wp2_with fail
        go_round
        case rel => exact ⟨k + 1, by omega, by go_num, HA2⟩
        case measure => simp [intOf]; omega
    · have HF : Hid (x = false) := by
        show _ = _
        rw [← HX.out]
        have := HA.out
        rw [List.take_of_length_le (by rw [HN.out]; omega)] at this
        exact decide_eq_false this
      go_wp2_with fail
      go_ret
      exact ⟨ret_bool HF.out.symm, rfl⟩


theorem wdCells_len : ∀ l : List Wd, (wdCells l).length = l.length * 2
  | [] => rfl
  | c :: l => by
    show (_ ++ wdCells l).length = _
    rw [List.length_append, wdCells_len l]; simp; omega
theorem wdCells_append (a b : List Wd) : wdCells (a ++ b) = wdCells a ++ wdCells b := List.flatMap_append
theorem wdCells_split (l : List Wd) (k : Nat) : wdCells l = wdCells (l.take k) ++ wdCells (l.drop k) := by rw [← wdCells_append, List.take_append_drop]
theorem lies_take {w : World} {B : Nat} {A : Option Addr} {ws : List Wd} (h : Lies w B 2 A ws.length (wdCells ws)) (k : Nat) (hk : k ≤ ws.length) : Lies w B 2 A k (wdCells (ws.take k)) := by
  have hl : (ws.take k).length = k := by rw [List.length_take]; omega
  refine ⟨by rw [wdCells_len, hl], fun h0 => ?_⟩
  obtain ⟨b, off, hA, hb, hc⟩ := h.cells (by omega)
  refine ⟨b, off, hA, hb, fun j u hu => hc j u ?_⟩
  rw [wdCells_split ws k, List.getElem?_append_left (List.getElem?_eq_some_iff.1 hu).1]
  exact hu
theorem lies_drop {w : World} {B : Nat} {A X : Option Addr} {ws : List Wd} (h : Lies w B 2 A ws.length (wdCells ws)) (k n : Nat) (hk : k ≤ ws.length) (hn : n = ws.length - k) (hX : 0 < n → X = A.map (·.add (k * 2))) : Lies w B 2 X n (wdCells (ws.drop k)) := by
  have hl : (ws.drop k).length = n := by rw [List.length_drop, hn]
  refine ⟨by rw [wdCells_len, hl], fun h0 => ?_⟩
  obtain ⟨b, off, hA, hb, hc⟩ := h.cells (by omega)
  refine ⟨b, off + k * 2, by rw [hX h0, hA]; exact congrArg some (by unfold Addr.add; split <;> simp_all), hb, fun j u hu => ?_⟩
  have ht : (wdCells (ws.take k)).length = k * 2 := by rw [wdCells_len, List.length_take]; congr 1; omega
  have := hc (k * 2 + j) u (by rw [wdCells_split ws k, List.getElem?_append_right (by omega), ht]; rw [show k * 2 + j - k * 2 = j by omega]; exact hu)
  rw [show off + k * 2 + j = off + (k * 2 + j) by omega]
  exact this
theorem notIn_snoc (A D : List ByteArray) (x : ByteArray) : notIn A (D ++ [x]) = if x ∈ A then notIn A D else notIn A D ++ [x] := by
  unfold notIn
  rw [List.filter_append]
  by_cases h : x ∈ A <;> simp [h]
theorem notIn_len (A D : List ByteArray) : (notIn A D).length ≤ D.length := List.length_filter_le _ _
end Go.Proofs.YtleflnbcgkfojaaDoor
