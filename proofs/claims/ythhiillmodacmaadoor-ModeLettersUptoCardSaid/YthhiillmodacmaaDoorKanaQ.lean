/- What henkanref02.Table, in, Marked, half compute. -/
import Derived.Test.YthhiillmodacmaaDoorKanaR
import Derived.Test.YthhiillmodacmaaDoorKanaF
namespace Go.Proofs.YthhiillmodacmaaDoor
open Go.RowKit Go.Lib Go.Shelf Hk
set_option linter.unusedSimpArgs false
set_option linter.unusedVariables false
set_option maxRecDepth 100000

theorem take_snoc_nat (l : List Nat) (k c : Nat) (h : l[k]? = some c) : l.take (k + 1) = l.take k ++ [c] := by
  obtain ⟨hlt, e⟩ := List.getElem?_eq_some_iff.1 h
  rw [List.take_succ_eq_append_getElem hlt, e]
/-- A list of characters came back, in new memory. -/
def RowPost (w : World) (l : List Nat) (e : Ending) (w' : World) : Prop := ∃ v, e = .returned v ∧ w'.ownsRow w.heap.size 21 1 v l.length (runeCellsOf l) ∧ Below w.heap.size w w'
theorem runes_some {s : ByteArray} {rs : List Nat} {w : World} (h : runesD s.data.toList = some rs) (hs : s.size ≤ 35184372088831) :
    Calls Tryd.prog 55 #[.string s] w fun e w' => ∃ v, e = .returned (.tuple #[v, .bool true]) ∧ w'.ownsRow w.heap.size 21 1 v rs.length (runeCellsOf rs) ∧ Below w.heap.size w w' := by
  refine (runes_calls s w hs).mono ?_
  rintro e w1 ⟨hb, ⟨hD, rfl⟩ | ⟨rs', v, hD, rfl, ho⟩⟩
  · rw [h] at hD; cases hD
  · rw [h] at hD
    obtain rfl := Option.some.inj hD
    exact ⟨v, rfl, ho, hb⟩
theorem plain_runes : runesD plainLit.data.toList = some tableL := by rw [plainLit_eq, bstr_data]; exact runesD_enc _ table_rune

set_option maxHeartbeats 400000 in
theorem refTable_calls (w : World) : Calls Tryd.prog 60 #[] w (RowPost w tableL) := by
  have CR := Lib.hid (runes_some (w := w) plain_runes (by decide))
  go_enter Tryd.func60, Tryd.ntmps60
  go_wp2_with fail
  refine CR.out.mono ?_
  rintro e w1 ⟨v, rfl, ho, hb⟩
  go_wp2_with fail
  go_ret
  exact ⟨v, rfl, ho, hb⟩

set_option maxHeartbeats 1000000 in
theorem refIn_calls (c : Nat) (s : ByteArray) (L : List Nat) (w : World) (h : runesD s.data.toList = some L) (hs : s.size ≤ 1048576) :
    Calls Tryd.prog 75 #[.int .i32 (c : Int), .string s] w fun e w' => e = .returned (.bool (decide (c ∈ L))) ∧ Below w.heap.size w w' := by
  have CR := Lib.hid (runes_some (w := w) h (by omega))
  have hl : L.length ≤ s.size := by have := runesD_length _ _ _ (Nat.le_refl _) h; simpa using this
  obtain ⟨x, hx⟩ : ∃ x, decide (c ∈ L) = x := ⟨_, rfl⟩
  have HX := Lib.hid hx
  rw [hx]
  clear h hx
  go_enter Tryd.func75, Tryd.ntmps75
  go_wp2_with fail
  refine CR.out.mono ?_
  rintro e w1 ⟨v, rfl, ho, hb⟩
  obtain ⟨A, cc, rfl, _, _, hlies⟩ := own_lies ho
  have HL := Lib.hid hlies
  obtain ⟨n, hn⟩ : ∃ n, L.length = n := ⟨_, rfl⟩
  have HN := Lib.hid hn
  rw [hn] at hl HL ⊢
  clear hn ho hlies CR
  go_wp2_with fail
  go_loop [7] (fun i => ∃ k : Nat, k ≤ n ∧ i = .int .i64 (k : Int) ∧ Hid (c ∉ L.take k)) (fun i => n - (intOf i).toNat)
  case atStart => exact ⟨0, Nat.zero_le _, rfl, by show _ ∉ _; simp⟩
  case round =>
    obtain ⟨k, hk, rfl, HA⟩ := hrel
    by_cases hlt : k < n
    · obtain ⟨r, hr⟩ : ∃ r, L[k]? = some r := ⟨_, List.getElem?_eq_getElem (by rw [HN.out]; exact hlt)⟩
      obtain ⟨b, off, rfl, hab, c0⟩ := rune_at HL.out hlt hr
      have hts := take_snoc_nat L k r hr
      by_cases hq : r = c
      · have hq1 : ((r : Int) == (c : Int)) = true := by simp; omega
        have HF : Hid (x = true) := by
          show _ = _
          rw [← HX.out]
          exact decide_eq_true (by rw [← hq]; exact List.mem_of_getElem? hr)
        clear hr hts hq
        go_wp2_with fail
        go_ret
        exact ⟨by rw [HF.out]; rfl, hb⟩
      · have hq1 : ((r : Int) == (c : Int)) = false := by simp; omega
        have HA2 : Hid (c ∉ L.take (k + 1)) := by
          show _ ∉ _
          rw [hts, List.mem_append]
          rintro (h | h)
          · exact HA.out h
          · exact hq (List.mem_singleton.1 h).symm
        clear hr hts hq
        go_wp2_with fail
        go_round
        case rel => exact ⟨k + 1, by omega, by go_num, HA2⟩
        case measure => simp [intOf]; omega
    · have HF : Hid (x = false) := by
        show _ = _
        rw [← HX.out]
        have := HA.out
        rw [List.take_of_length_le (by rw [HN.out]; omega)] at this
        exact decide_eq_false this
      go_wp2_with fail
      go_ret
      exact ⟨by rw [HF.out]; rfl, hb⟩

def vkLit : ByteArray := ⟨#[227, 130, 171, 227, 130, 173, 227, 130, 175, 227, 130, 177, 227, 130, 179, 227, 130, 181, 227, 130, 183, 227, 130, 185, 227, 130, 187, 227, 130, 189, 227, 130, 191, 227, 131, 129, 227, 131, 132, 227, 131, 134, 227, 131, 136, 227, 131, 143, 227, 131, 146, 227, 131, 149, 227, 131, 152, 227, 131, 155]⟩
theorem vkLit_eq : vkLit = bstr (encT voicedL) := by decide +kernel
def hkLit : ByteArray := ⟨#[227, 131, 143, 227, 131, 146, 227, 131, 149, 227, 131, 152, 227, 131, 155]⟩
theorem hkLit_eq : hkLit = bstr (encT halfL) := by decide +kernel
theorem vk_runes : runesD vkLit.data.toList = some voicedL := by
  rw [vkLit_eq, bstr_data]; exact runesD_enc _ (all_rune (by decide +kernel))
theorem hk_runes : runesD hkLit.data.toList = some halfL := by
  rw [hkLit_eq, bstr_data]; exact runesD_enc _ (all_rune (by decide +kernel))

set_option maxHeartbeats 1000000 in
theorem refMarked_calls (c m : Nat) (w : World) (hc : c ≤ 1114111) (hm : m ≤ 1114111) : Calls Tryd.prog 61 #[.int .i32 (c : Int), .int .i32 (m : Int)] w fun e w' => e = .returned (.int .i32 (markedD c m : Int)) ∧ Below w.heap.size w w' := by
  have CV := Lib.hid fun W => refIn_calls c vkLit voicedL W vk_runes (by decide)
  have CH := Lib.hid fun W => refIn_calls c hkLit halfL W hk_runes (by decide)
  obtain ⟨x, hx⟩ : ∃ x, markedD c m = x := ⟨_, rfl⟩
  have HX := Lib.hid hx
  rw [hx]
  clear hx
  by_cases h1 : m = 65438
  · have q1 : ((m : Int) == 65438) = true := by simp; omega
    have q2 : ((m : Int) == 65439) = false := by simp; omega
    by_cases h2 : c = 12454
    · have q3 : ((c : Int) == 12454) = true := by simp; omega
      have HY : Hid (x = 12532) := by show _ = _; rw [← HX.out]; unfold markedD; rw [if_pos ⟨h1, h2⟩]
      clear h1 h2
      go_enter Tryd.func61, Tryd.ntmps61
      go_wp2_with fail
      go_ret
      exact ⟨by rw [HY.out]; rfl, Below.refl _ _⟩
    · have q3 : ((c : Int) == 12454) = false := by simp; omega
      by_cases h3 : c ∈ voicedL
      · have HY : Hid (x = c + 1) := by show _ = _; rw [← HX.out]; unfold markedD; rw [if_neg (fun e => h2 e.2), if_pos ⟨h1, h3⟩]
        rw [decide_eq_true h3] at CV
        clear h1 h2 h3
        go_enter Tryd.func61, Tryd.ntmps61
        go_wp2_with fail
        refine (CV.out _).mono ?_
        rintro e w1 ⟨rfl, hb⟩
        go_wp2_with fail
        go_ret
        exact ⟨by rw [HY.out]; exact ret_i32 (by omega), hb⟩
      · have HY : Hid (x = 0) := by show _ = _; rw [← HX.out]; unfold markedD; rw [if_neg (fun e => h2 e.2), if_neg (fun e => h3 e.2), if_neg (fun e => by omega)]
        rw [decide_eq_false h3] at CV
        clear h1 h2 h3
        go_enter Tryd.func61, Tryd.ntmps61
        go_wp2_with fail
        refine (CV.out _).mono ?_
        rintro e w1 ⟨rfl, hb⟩
        go_wp2_with fail
        go_ret
        exact ⟨by rw [HY.out]; rfl, hb⟩
  · have q1 : ((m : Int) == 65438) = false := by simp; omega
    by_cases h4 : m = 65439
    · have q2 : ((m : Int) == 65439) = true := by simp; omega
      by_cases h3 : c ∈ halfL
      · have HY : Hid (x = c + 2) := by show _ = _; rw [← HX.out]; unfold markedD; rw [if_neg (fun e => h1 e.1), if_neg (fun e => h1 e.1), if_pos ⟨h4, h3⟩]
        rw [decide_eq_true h3] at CH
        clear h1 h3 h4
        go_enter Tryd.func61, Tryd.ntmps61
        go_wp2_with fail
        refine (CH.out _).mono ?_
        rintro e w1 ⟨rfl, hb⟩
        go_wp2_with fail
        go_ret
        exact ⟨by rw [HY.out]; exact ret_i32 (by omega), hb⟩
      · have HY : Hid (x = 0) := by show _ = _; rw [← HX.out]; unfold markedD; rw [if_neg (fun e => h1 e.1), if_neg (fun e => h1 e.1), if_neg (fun e => h3 e.2)]
        rw [decide_eq_false h3] at CH
        clear h1 h3 h4
        go_enter Tryd.func61, Tryd.ntmps61
        go_wp2_with fail
        refine (CH.out _).mono ?_
        rintro e w1 ⟨rfl, hb⟩
        go_wp2_with fail
        go_ret
        exact ⟨by rw [HY.out]; rfl, hb⟩
    · have q2 : ((m : Int) == 65439) = false := by simp; omega
      have HY : Hid (x = 0) := by show _ = _; rw [← HX.out]; unfold markedD; rw [if_neg (fun e => h1 e.1), if_neg (fun e => h1 e.1), if_neg (fun e => h4 e.1)]
      clear h1 h4
      go_enter Tryd.func61, Tryd.ntmps61
      go_wp2_with fail
      go_ret
      exact ⟨by rw [HY.out]; rfl, Below.refl _ _⟩

/-! ### half -/
def halfR (c : Nat) : List Nat := if c = 0 then [65377, 65438] else halfK c
theorem half_one_ok : ∀ i : Fin 61, halfK (tableL.getD i.val 0) = [65377 + i.val] ∧ tableL.getD i.val 0 ≠ 0 := by decide +kernel
theorem half_two_ok : ∀ i : Fin 61, (markedD (tableL.getD i.val 0) 65438 = 0 ∨ halfK (markedD (tableL.getD i.val 0) 65438) = [65377 + i.val, 65438]) ∧ (markedD (tableL.getD i.val 0) 65439 = 0 ∨ halfK (markedD (tableL.getD i.val 0) 65439) = [65377 + i.val, 65439]) := by decide +kernel
theorem half_zero_ok : markedD (tableL.getD 0 0) 65438 = 0 ∧ halfK 0 = [] := by decide +kernel
theorem getD_of {l : List Nat} {k t : Nat} (h : l[k]? = some t) : l.getD k 0 = t := by rw [List.getD_eq_getElem?_getD, h]; rfl
theorem halfR_one {k t : Nat} (hk : k < 61) (h : tableL[k]? = some t) : halfR t = [65377 + k] := by
  have := half_one_ok ⟨k, hk⟩
  simp only at this
  rw [getD_of h] at this
  unfold halfR
  rw [if_neg this.2, this.1]
theorem halfR_two {k t c : Nat} (hk : k < 61) (h : tableL[k]? = some t) (hc : markedD t 65438 = c) (hz : c = 0 → k = 0) : halfR c = [65377 + k, 65438] := by
  by_cases h0 : c = 0
  · have := hz h0
    subst this h0
    rfl
  · have := (half_two_ok ⟨k, hk⟩).1
    simp only at this
    rw [getD_of h, hc] at this
    unfold halfR
    rw [if_neg h0]
    rcases this with e | e
    · exact absurd e h0
    · exact e
theorem halfR_three {k t c : Nat} (hk : k < 61) (h : tableL[k]? = some t) (hc : markedD t 65439 = c) (hz : c ≠ 0) : halfR c = [65377 + k, 65439] := by
  have := (half_two_ok ⟨k, hk⟩).2
  simp only at this
  rw [getD_of h, hc] at this
  unfold halfR
  rw [if_neg hz]
  rcases this with e | e
  · exact absurd e hz
  · exact e
theorem halfR_none {c : Nat} (h1 : ∀ (k t : Nat), k < 61 → tableL[k]? = some t → t ≠ c) (h2 : ∀ (k t : Nat), k < 61 → tableL[k]? = some t → markedD t 65438 ≠ c ∧ markedD t 65439 ≠ c) : halfR c = [] := by
  have hat : ∀ a, inTab a = true → tableL[a - 65377]? = some (tabD a) ∧ a - 65377 < 61 := by
    intro a ha
    rw [inTab_iff] at ha
    have hlt : a - 65377 < 61 := by omega
    refine ⟨?_, hlt⟩
    unfold tabD
    rw [List.getD_eq_getElem?_getD, List.getElem?_eq_getElem (by rw [table_len]; exact hlt)]
    rfl
  have h0 : c ≠ 0 := by
    intro e
    obtain ⟨t, ht⟩ : ∃ t, tableL[0]? = some t := ⟨_, rfl⟩
    have := half_zero_ok.1
    rw [getD_of ht] at this
    exact (h2 0 t (by omega) ht).1 (by rw [this, e])
  unfold halfR
  rw [if_neg h0]
  rcases halfK_shape c with e | ⟨⟨a, e, ha, h3⟩ | ⟨a, m, e, ha, hm, h3⟩, _⟩
  · exact e
  · obtain ⟨g1, g2⟩ := hat a ha
    exact absurd h3 (h1 _ _ g2 g1)
  · obtain ⟨g1, g2⟩ := hat a ha
    have := h2 _ _ g2 g1
    rcases hm with rfl | rfl
    · exact absurd h3 this.1
    · exact absurd h3 this.2
theorem own_row1 {w : World} {base : Nat} (a : Nat) (hb : base ≤ w.heap.size) : (w.alloc (.cells #[.int .i32 (a : Int)] 21)).ownsRow base 21 1 (.slice (some ⟨w.heap.size, 0, none⟩) 1 1) 1 (runeCellsOf [a]) :=
  own_whole (runeCellsOf [a]) hb (by unfold maxLen; omega) rfl
theorem own_row2 {w : World} {base : Nat} (a b : Nat) (hb : base ≤ w.heap.size) : (w.alloc (.cells #[.int .i32 (a : Int), .int .i32 (b : Int)] 21)).ownsRow base 21 1 (.slice (some ⟨w.heap.size, 0, none⟩) 2 2) 2 (runeCellsOf [a, b]) :=
  own_whole (runeCellsOf [a, b]) hb (by unfold maxLen; omega) rfl
theorem cast_add (k : Nat) : (65377 : Int) + (k : Int) = ((65377 + k : Nat) : Int) := by omega

set_option maxHeartbeats 4000000 in
theorem refHalfC_calls (c : Nat) (w : World) (hc : c ≤ 1114111) : Calls Tryd.prog 58 #[.int .i32 (c : Int)] w (RowPost w (halfR c)) := by
  have CT := Lib.hid refTable_calls
  have CM := Lib.hid refMarked_calls
  go_enter Tryd.func58, Tryd.ntmps58
  go_wp2_with fail
  refine (CT.out _).mono ?_
  rintro e w1 ⟨v, rfl, ho, hb⟩
  obtain ⟨A, cc, rfl, _, _, hlies⟩ := own_lies ho
  have HL : Hid (Lies w1 w1.heap.size 1 A 61 (runeCellsOf tableL)) := hlies
  rw [table_len]
  clear hlies ho
  go_wp2_with fail
  go_loop [4] (fun i => ∃ k : Nat, k ≤ 61 ∧ i = .int .i64 (k : Int) ∧ Hid (∀ (j t : Nat), j < k → tableL[j]? = some t → t ≠ c)) (fun i => 61 - (intOf i).toNat)
  case atStart => exact ⟨0, Nat.zero_le _, rfl, fun j t h => by omega⟩
  case round =>
    obtain ⟨k, hk, rfl, HA⟩ := hrel
    by_cases hlt : k < 61
    · obtain ⟨t, ht⟩ : ∃ t, tableL[k]? = some t := ⟨_, List.getElem?_eq_getElem (by rw [table_len]; exact hlt)⟩
      obtain ⟨b, off, rfl, hab, c0⟩ := rune_at HL.out hlt ht
      by_cases hq : t = c
      · have hq1 : ((t : Int) == (c : Int)) = true := by simp; omega
        have HF : Hid (halfR c = [65377 + k]) := by show _ = _; rw [← hq]; exact halfR_one hlt ht
        have hown := own_row1 (w := w1) (65377 + k) hb.size
        have hbx := hb.alloc hb.size (.cells #[.int .i32 ((65377 + k : Nat) : Int)] 21)
        rw [← cast_add] at hown hbx
        have HO := Lib.hid hown
        clear ht hq hown
        go_wp2_with fail
        go_ret
        refine ⟨_, rfl, ?_, hbx⟩
        rw [HF.out]
        exact HO.out
      · have hq1 : ((t : Int) == (c : Int)) = false := by simp; omega
        have HA2 : Hid (∀ (j u : Nat), j < k + 1 → tableL[j]? = some u → u ≠ c) := fun j u hj hu => by
          by_cases e : j = k
          · subst e
            rw [ht] at hu
            rw [← Option.some.inj hu]
            exact hq
          · exact HA.out j u (by omega) hu
        clear ht hq
        go_wp2_with fail
        go_round
        case rel => exact ⟨k + 1, by omega, by go_num, HA2⟩
        case measure => simp [intOf]; omega
    · have hk61 : k = 61 := by omega
      subst hk61
      have HA61 : Hid (∀ (j t : Nat), j < 61 → tableL[j]? = some t → t ≠ c) := HA
      clear HA hlt
      go_wp2_with fail
      go_loopw [5] (fun i wr => ∃ k : Nat, k ≤ 61 ∧ i = .int .i64 (k : Int) ∧ Hid (∀ (j t : Nat), j < k → tableL[j]? = some t → markedD t 65438 ≠ c ∧ markedD t 65439 ≠ c) ∧ Below w1.heap.size w1 wr) (fun i _ => 61 - (intOf i).toNat)
      case atStart => exact ⟨0, Nat.zero_le _, rfl, fun j t h => by omega, Below.refl _ _⟩
      case round =>
        obtain ⟨k, hk, rfl, HA, hbw⟩ := hrel
        by_cases hlt : k < 61
        · obtain ⟨t, ht⟩ : ∃ t, tableL[k]? = some t := ⟨_, List.getElem?_eq_getElem (by rw [table_len]; exact hlt)⟩
          obtain ⟨b, off, rfl, hab, c0⟩ := rune_at HL.out hlt ht
          have htr := table_rune t (List.mem_of_getElem? ht)
          have ht11 : t ≤ 1114111 := by unfold isRune at htr; omega
          have d0 := cell_later hbw c0
          have CM1 := Lib.hid fun W => CM.out t 65438 W ht11 (by decide)
          have CM2 := Lib.hid fun W => CM.out t 65439 W ht11 (by decide)
          obtain ⟨x, hx⟩ : ∃ x, markedD t 65438 = x := ⟨_, rfl⟩
          obtain ⟨y, hy⟩ : ∃ y, markedD t 65439 = y := ⟨_, rfl⟩
          rw [hx] at CM1
          rw [hy] at CM2
          by_cases hq : x = c
          · have hq1 : ((x : Int) == (c : Int)) = true := by simp; omega
            have HF : Hid (halfR c = [65377 + k, 65438]) := halfR_two hlt ht (hx.trans hq) fun e => by
              by_cases h0 : k = 0
              · exact h0
              · exfalso
                obtain ⟨t0, ht0⟩ : ∃ t, tableL[0]? = some t := ⟨_, rfl⟩
                have := half_zero_ok.1
                rw [getD_of ht0] at this
                exact (HA.out 0 t0 (by omega) ht0).1 (by rw [this, e])
            clear ht hq hx hy htr c0
            go_wp2_with fail
            refine (CM1.out _).mono ?_
            rintro e w2 ⟨rfl, hb2⟩
            have hb12 := qtrans hbw hb2
            have hb02 := qtrans hb hb12
            have hown := own_row2 (w := w2) (65377 + k) 65438 hb02.size
            have hbx := hb02.alloc hb02.size (.cells #[.int .i32 ((65377 + k : Nat) : Int), .int .i32 ((65438 : Nat) : Int)] 21)
            rw [← cast_add] at hown hbx
            have HO := Lib.hid hown
            clear hown hb2 hb12 d0
            go_wp2_with fail
            go_ret
            refine ⟨_, rfl, ?_, hbx⟩
            rw [HF.out]
            exact HO.out
          · have hq1 : ((x : Int) == (c : Int)) = false := by simp; omega
            by_cases hq2 : y = c
            · have hq3 : ((y : Int) == (c : Int)) = true := by simp; omega
              have HF : Hid (halfR c = [65377 + k, 65439]) := halfR_three hlt ht (hy.trans hq2) fun e => by
                obtain ⟨t0, ht0⟩ : ∃ t, tableL[0]? = some t := ⟨_, rfl⟩
                have h0 := half_zero_ok.1
                rw [getD_of ht0] at h0
                by_cases hk0 : k = 0
                · subst hk0
                  rw [ht0] at ht
                  obtain rfl := Option.some.inj ht
                  exact hq (by rw [← hx, h0, e])
                · exact (HA.out 0 t0 (by omega) ht0).1 (by rw [h0, e])
              clear ht hq hx hy htr c0 hq2
              go_wp2_with fail
              refine (CM1.out _).mono ?_
              rintro e w2 ⟨rfl, hb2⟩
              have d2 := cell_later hb2 d0
              have hb12 := qtrans hbw hb2
              clear hb2 d0
              go_wp2_with fail
              refine (CM2.out _).mono ?_
              rintro e w3 ⟨rfl, hb3⟩
              have hb03 := qtrans hb (qtrans hb12 hb3)
              have hown := own_row2 (w := w3) (65377 + k) 65439 hb03.size
              have hbx := hb03.alloc hb03.size (.cells #[.int .i32 ((65377 + k : Nat) : Int), .int .i32 ((65439 : Nat) : Int)] 21)
              rw [← cast_add] at hown hbx
              have HO := Lib.hid hown
              clear hown hb3 hb12 d2
              go_wp2_with fail
              go_ret
              refine ⟨_, rfl, ?_, hbx⟩
              rw [HF.out]
              exact HO.out
            · have hq3 : ((y : Int) == (c : Int)) = false := by simp; omega
              have HA2 : Hid (∀ (j u : Nat), j < k + 1 → tableL[j]? = some u → markedD u 65438 ≠ c ∧ markedD u 65439 ≠ c) := fun j u hj hu => by
                by_cases e : j = k
                · subst e
                  rw [ht] at hu
                  rw [← Option.some.inj hu, hx, hy]
                  exact ⟨hq, hq2⟩
                · exact HA.out j u (by omega) hu
              clear ht hq hx hy htr c0 hq2
              go_wp2_with fail
              refine (CM1.out _).mono ?_
              rintro e w2 ⟨rfl, hb2⟩
              have d2 := cell_later hb2 d0
              have hb12 := qtrans hbw hb2
              clear hb2 d0
              go_wp2_with fail
              refine (CM2.out _).mono ?_
              rintro e w3 ⟨rfl, hb3⟩
              have hb13 := qtrans hb12 hb3
              clear hb3 hb12 d2
              go_wp2_with fail
              go_roundw
              case rel => exact ⟨k + 1, by omega, by go_num, HA2, hb13⟩
              case measure => simp [intOf]; omega
        · have hk61 : k = 61 := by omega
          subst hk61
          have HF : Hid (halfR c = []) := halfR_none (fun k t h e => HA61.out k t h e) (fun k t h e => HA.out k t h e)
          have hb1w := qtrans hb hbw
          go_wp2_with fail
          go_ret
          refine ⟨_, rfl, ?_, hb1w⟩
          rw [HF.out]
          exact World.ownsRow_nil _ _ _ _
end Go.Proofs.YthhiillmodacmaaDoor
