/- What the small functions of henkanlaw31 compute. -/
import Derived.Test.YtleflnbcgkfojaaDoorHist3
namespace Go.Proofs.YtleflnbcgkfojaaDoor
open Go.RowKit Go.Lib Go.Shelf Hk Go.Maps
set_option linter.unusedSimpArgs false
set_option linter.unusedVariables false
set_option maxRecDepth 100000

set_option maxHeartbeats 1000000 in
theorem same_calls (A A' : Option Addr) (n cap cap' : Nat) (xs : List ByteArray) (w : World) (B B' : Nat) (hn0 : xs.length = n) (h1 : Lies w B 1 A n (xs.map Value.string)) (h2 : Lies w B' 1 A' n (xs.map Value.string)) (hn : n ≤ 9223372036854775807) :
    Calls Tryd.prog 13 #[.slice A n cap, .slice A' n cap'] w fun e w' => e = .returned (.bool true) ∧ Below w.heap.size w w' := by
  have H1 := Lib.hid h1
  have H2 := Lib.hid h2
  have HN := Lib.hid hn0
  clear h1 h2 hn0
  have q : ((n : Int) != (n : Int)) = false := by simp
  go_enter Tryd.func13, Tryd.ntmps13
  go_wp2_with fail
  go_loopw [13] (fun i wr => ∃ k q : Nat, k ≤ n ∧ i = .int .i64 (k : Int) ∧ wr = w.drewN q) (fun i _ => n - (intOf i).toNat)
  case atStart => exact ⟨0, 0, Nat.zero_le _, rfl, rfl⟩
  case round =>
    obtain ⟨k, q, hk, rfl, rfl⟩ := hrel
    by_cases hlt : k < n
    · obtain ⟨x, hx⟩ : ∃ x, xs[k]? = some x := ⟨_, List.getElem?_eq_getElem (by rw [HN.out]; exact hlt)⟩
      have q0 : (xs.map Value.string)[k]? = some (.string x) := by rw [List.getElem?_map, hx]; rfl
      obtain ⟨b, off, rfl, _, c0⟩ := H1.out.at1 hlt q0
      obtain ⟨b', off', rfl, _, d0⟩ := H2.out.at1 hlt q0
      clear hx q0
      have s0 : (x.toList == x.toList) = true := by simp
      go_wp2_with fail
      go_quiet (fail)
      go_wp2_with fail
      go_roundw
      case rel => exact ⟨k + 1, _, by omega, by go_num, rfl⟩
      case measure => simp [intOf]; omega
    · go_wp2_with fail
      go_ret
      exact ⟨rfl, below_drewN q⟩

/-- Keys of at most 1000 bytes, at most 200 of them. -/
def fewB (l : List ByteArray) : Bool := (l.all fun k => decide (k.size ≤ 1000)) && decide (l.length ≤ 200)
theorem fewB_yes {l : List ByteArray} (h : fewB l = true) : (∀ k ∈ l, k.size ≤ 1000) ∧ l.length ≤ 200 := by
  unfold fewB at h
  simp only [Bool.and_eq_true, List.all_eq_true, decide_eq_true_eq] at h
  exact h

set_option maxHeartbeats 1000000 in
theorem few_calls (A : Option Addr) (cap : Nat) (l : List ByteArray) (w : World) (B : Nat) (hl : Lies w B 1 A l.length (l.map Value.string)) (hn : l.length ≤ 9223372036854775807) (hs : ∀ k ∈ l, k.size ≤ 9223372036854775807) :
    Calls Tryd.prog 16 #[.slice A l.length cap] w fun e w' => e = .returned (.bool (fewB l)) ∧ w = w' := by
  have HL := Lib.hid hl
  have HS := Lib.hid hs
  clear hl hs
  obtain ⟨n, hnn⟩ : ∃ n, n = l.length := ⟨_, rfl⟩
  have HN := Lib.hid hnn
  obtain ⟨x, hx⟩ : ∃ x, fewB l = x := ⟨_, rfl⟩
  have HX := Lib.hid hx
  rw [← hnn] at hn ⊢
  rw [hx]
  clear hnn hx
  go_enter Tryd.func16, Tryd.ntmps16
  go_wp2_with fail
  go_loop [7] (fun i => ∃ k : Nat, k ≤ n ∧ i = .int .i64 (k : Int) ∧ Hid (∀ c ∈ l.take k, c.size ≤ 1000)) (fun i => n - (intOf i).toNat)
  case atStart => exact ⟨0, Nat.zero_le _, rfl, fun c hc => by simp at hc⟩
  case round =>
    obtain ⟨k, hk, rfl, HA⟩ := hrel
    by_cases hlt : k < n
    · obtain ⟨key, hc⟩ : ∃ c, l[k]? = some c := ⟨_, List.getElem?_eq_getElem (by rw [← HN.out]; exact hlt)⟩
      have hlw := HL.out
      rw [← HN.out] at hlw
      obtain ⟨b, off, rfl, hab, c0⟩ := hlw.at1 hlt (u := .string key) (by rw [List.getElem?_map, hc]; rfl)
      have hmem := List.mem_of_getElem? hc
      have hsz := HS.out key hmem
      by_cases hbig : 1000 < key.size
      · have HF : Hid (x = false) := by
          show _ = _
          rw [← HX.out]
          unfold fewB
          rw [Bool.and_eq_false_iff]
          left
          rw [List.all_eq_false]
          exact ⟨key, hmem, by simp; omega⟩
        clear hlw hc hmem
        go_wp2_with fail
        go_ret
        exact ⟨ret_bool HF.out.symm, rfl⟩
      · have HA2 : Hid (∀ c ∈ l.take (k + 1), c.size ≤ 1000) := fun c hcm => by
          rw [take_snoc_list l k key hc, List.mem_append] at hcm
          rcases hcm with h | h
          · exact HA.out c h
          · simp at h; subst h; omega
        clear hlw hc hmem
        go_wp2_with fail
        go_round
        case rel => exact ⟨k + 1, by omega, by go_num, HA2⟩
        case measure => simp [intOf]; omega
    · have HF : Hid (x = decide (n ≤ 200)) := by
        show _ = _
        have := HA.out
        rw [List.take_of_length_le (by rw [← HN.out]; omega)] at this
        rw [← HX.out]
        unfold fewB
        rw [HN.out, show (l.all fun k => decide (k.size ≤ 1000)) = true by rw [List.all_eq_true]; exact fun c hc => decide_eq_true (this c hc)]
        rfl
      have g : (decide ((n : Int) ≤ 200)) = decide (n ≤ 200) := by
        rw [Bool.eq_iff_iff, decide_eq_true_eq, decide_eq_true_eq]; omega
      go_wp2_with fail
      go_ret
      refine ⟨?_, rfl⟩
      rw [HF.out]
      first | exact ret_bool rfl | exact ret_bool g

/-- Words that the laws look at. -/
def lightB (prev : ByteArray) (ws : List Wd) : Bool := (ws.all fun c => decide (c.1.size ≤ 1000) && decide (c.2.size ≤ 1000)) && (decide (ws.length ≤ 200) && decide (prev.size ≤ 1000))
theorem lightB_yes {prev : ByteArray} {ws : List Wd} (h : lightB prev ws = true) : (∀ c ∈ ws, c.1.size ≤ 1000 ∧ c.2.size ≤ 1000) ∧ ws.length ≤ 200 ∧ prev.size ≤ 1000 := by
  unfold lightB at h
  simp only [Bool.and_eq_true, List.all_eq_true, decide_eq_true_eq] at h
  exact h

set_option maxHeartbeats 1000000 in
theorem light_calls (prev : ByteArray) (A : Option Addr) (cap : Nat) (ws : List Wd) (w : World) (hl : Lies w w.heap.size 2 A ws.length (wdCells ws)) (hn : ws.length ≤ 9223372036854775807) (hp : prev.size ≤ 9223372036854775807) (hs : WLight 9223372036854775807 ws) :
    Calls Tryd.prog 11 #[.string prev, .slice A ws.length cap] w fun e w' => e = .returned (.bool (lightB prev ws)) ∧ Below w.heap.size w w' := by
  have HL := Lib.hid hl
  have HS := Lib.hid hs
  clear hl hs
  obtain ⟨n, hnn⟩ : ∃ n, n = ws.length := ⟨_, rfl⟩
  have HN := Lib.hid hnn
  obtain ⟨x, hx⟩ : ∃ x, lightB prev ws = x := ⟨_, rfl⟩
  have HX := Lib.hid hx
  rw [← hnn] at hn ⊢
  rw [hx]
  clear hnn hx
  go_enter Tryd.func11, Tryd.ntmps11
  go_wp2_with fail
  go_loopw [9] (fun i wr => ∃ k : Nat, k ≤ n ∧ i = .int .i64 (k : Int) ∧ Hid (∀ c ∈ ws.take k, c.1.size ≤ 1000 ∧ c.2.size ≤ 1000) ∧ Below w.heap.size w wr) (fun i _ => n - (intOf i).toNat)
  case atStart => exact ⟨0, Nat.zero_le _, rfl, fun c hc => by simp at hc, Below.refl _ _⟩
  case round =>
    obtain ⟨k, hk, rfl, HA, hbw⟩ := hrel
    by_cases hlt : k < n
    · obtain ⟨c, hc⟩ : ∃ c, ws[k]? = some c := ⟨_, List.getElem?_eq_getElem (by rw [← HN.out]; exact hlt)⟩
      obtain ⟨q0, q1⟩ := wdCells_at ws k c hc
      have hlw := HL.out.below hbw
      rw [← HN.out] at hlw
      obtain ⟨b, off, rfl, hab, c0, c1⟩ := hlw.at2 hlt q0 q1
      have hmem := List.mem_of_getElem? hc
      obtain ⟨hs1, hs2⟩ := HS.out c hmem
      have HTS := Lib.hid (take_snoc_list ws k c hc)
      obtain ⟨r, s⟩ := c
      simp only at c0 c1 hs1 hs2
      clear hlw hc q0 q1
      have hbx := hbw.alloc hbw.size (.cells #[.string r, .string s] 35)
      by_cases hbig : 1000 < r.size ∨ 1000 < s.size
      · have HF : Hid (x = false) := by
          show _ = _
          rw [← HX.out]
          unfold lightB
          rw [Bool.and_eq_false_iff]
          left
          rw [List.all_eq_false]
          exact ⟨(r, s), hmem, by simp; omega⟩
        clear hmem
        by_cases hr : 1000 < r.size
        · clear hbig
          go_wp2_with fail
          go_ret
          exact ⟨ret_bool HF.out.symm, hbx⟩
        · have hs' : 1000 < s.size := by omega
          clear hbig
          go_wp2_with fail
          go_ret
          exact ⟨ret_bool HF.out.symm, hbx⟩
      · have hr : ¬ 1000 < r.size := by omega
        have hs' : ¬ 1000 < s.size := by omega
        have HA2 : Hid (∀ c ∈ ws.take (k + 1), c.1.size ≤ 1000 ∧ c.2.size ≤ 1000) := fun c hcm => by
          rw [HTS.out, List.mem_append] at hcm
          rcases hcm with h | h
          · exact HA.out c h
          · simp at h; subst h; exact ⟨by simpa using hr, by simpa using hs'⟩
        clear hmem hbig
        go_wp2_with fail
        go_roundw
        case rel => exact ⟨k + 1, by omega, by go_num, HA2, hbx⟩
        case measure => simp [intOf]; omega
    · have HF : Hid (x = (decide (n ≤ 200) && decide (prev.size ≤ 1000))) := by
        show _ = _
        have := HA.out
        rw [List.take_of_length_le (by rw [← HN.out]; omega)] at this
        rw [← HX.out]
        unfold lightB
        rw [HN.out, show (ws.all fun c => decide (c.1.size ≤ 1000) && decide (c.2.size ≤ 1000)) = true by rw [List.all_eq_true]; exact fun c hc => by simpa using this c hc]
        rfl
      by_cases h1 : n ≤ 200
      · by_cases h2 : prev.size ≤ 1000
        · have HG : Hid (x = true) := by show _ = _; rw [HF.out]; simp [h1, h2]
          have g1 : decide (n ≤ 200) = true := decide_eq_true h1
          have g2 : decide (prev.size ≤ 1000) = true := decide_eq_true h2
          have g3 : decide ((prev.size : Int) ≤ 1000) = true := decide_eq_true (by omega)
          go_wp2_with fail
          go_ret
          exact ⟨ret_bool HG.out.symm, hbw⟩
        · have HG : Hid (x = false) := by show _ = _; rw [HF.out]; simp [h1, h2]
          have g1 : decide (n ≤ 200) = true := decide_eq_true h1
          have g2 : decide (prev.size ≤ 1000) = false := decide_eq_false h2
          have g3 : decide ((prev.size : Int) ≤ 1000) = false := decide_eq_false (by omega)
          go_wp2_with fail
          go_ret
          exact ⟨ret_bool HG.out.symm, hbw⟩
      · have HG : Hid (x = false) := by show _ = _; rw [HF.out]; simp [h1]
        have g1 : decide (n ≤ 200) = false := decide_eq_false h1
        go_wp2_with fail
        go_ret
        exact ⟨ret_bool HG.out.symm, hbw⟩

theorem ret_str {a b : ByteArray} (h : a = b) : Ending.returned (.string a) = .returned (.string b) := by rw [h]

set_option maxHeartbeats 1000000 in
theorem last_calls (prev : ByteArray) (A : Option Addr) (cap : Nat) (ws : List Wd) (w : World) (B : Nat) (hl : Lies w B 2 A ws.length (wdCells ws)) (hn : ws.length ≤ 9223372036854775807) :
    Calls Tryd.prog 21 #[.string prev, .slice A ws.length cap] w fun e w' => e = .returned (.string (lastD prev ws)) ∧ w = w' := by
  by_cases h0 : 0 < ws.length
  · obtain ⟨c, hc⟩ : ∃ c, ws[ws.length - 1]? = some c := ⟨_, List.getElem?_eq_getElem (by omega)⟩
    have HD : Hid (lastD prev ws = c.2) := by
      show _ = _
      unfold lastD
      rw [List.getLast?_eq_getElem?, hc]
    obtain ⟨q0, q1⟩ := wdCells_at ws _ c hc
    obtain ⟨b, off, rfl, _, c0, c1⟩ := hl.at2 (k := ws.length - 1) (by omega) q0 q1
    clear hc q0 q1 hl
    obtain ⟨r, s⟩ := c
    simp only at c0 c1
    generalize ws.length = n at *
    go_enter Tryd.func21, Tryd.ntmps21
    go_wp2_with fail
    go_ret
    exact ⟨ret_str HD.out.symm, rfl⟩
  · have hnil : ws = [] := List.length_eq_zero_iff.1 (by omega)
    subst hnil
    have HD : Hid (lastD prev [] = prev) := rfl
    clear hl hn h0
    go_enter Tryd.func21, Tryd.ntmps21
    go_wp2_with fail
    go_ret
    exact ⟨ret_str HD.out.symm, rfl⟩

set_option maxHeartbeats 400000 in
theorem key_calls (k : Int) (a b : ByteArray) (w : World) (ha : a.size ≤ 4611686018427387903) (hb : b.size ≤ 4611686018427387903) (he : Env w) :
    Calls Tryd.prog 25 #[.int .i64 k, .string a, .string b] w fun e w' => e = .returned (.string (keyStr (kmk k a.data.toList b.data.toList))) ∧ Below w.heap.size w w' := by
  have CM := Lib.hid (make_calls k a b w ha hb he)
  clear he
  go_enter Tryd.func25, Tryd.ntmps25
  go_wp2_with fail
  refine CM.out.mono ?_
  rintro e w1 ⟨rfl, hb1⟩
  go_wp2_with fail
  go_ret
  exact ⟨rfl, hb1⟩
end Go.Proofs.YtleflnbcgkfojaaDoor
