/- What history.Keys, history.Last and history.About compute. -/
import Derived.Test.YtleflnbcgkfojaaDoorHist1
namespace Go.Proofs.YtleflnbcgkfojaaDoor
open Go.RowKit Go.Lib Go.Shelf Hk Go.Maps
set_option linter.unusedSimpArgs false
set_option linter.unusedVariables false
set_option maxRecDepth 100000

/-- A word: its reading and its surface. -/
abbrev Wd := ByteArray × ByteArray
/-- One word more: the surface before, the keys so far. -/
def wordStep (st : ByteArray × List ByteArray) (x : Wd) : ByteArray × List ByteArray :=
  (x.2, if readingD x.1.data.toList = true then
      (if (kmk 1 x.1.data.toList x.2.data.toList).isSome = true then addK (addK st.2 (kmk 1 x.1.data.toList x.2.data.toList)) (kmk 2 st.1.data.toList x.2.data.toList) else st.2)
    else st.2)
def keysSt (prev : ByteArray) (ws : List Wd) : ByteArray × List ByteArray := ws.foldl wordStep (prev, [])
def keysD (prev : ByteArray) (ws : List Wd) : List ByteArray := (keysSt prev ws).2
theorem keysSt_snoc (prev : ByteArray) (ws : List Wd) (x : Wd) : keysSt prev (ws ++ [x]) = wordStep (keysSt prev ws) x := by simp [keysSt, List.foldl_append]
theorem take_snoc_list {α : Type} (l : List α) (k : Nat) (c : α) (h : l[k]? = some c) : l.take (k + 1) = l.take k ++ [c] := by
  obtain ⟨hlt, e⟩ := List.getElem?_eq_some_iff.1 h
  rw [List.take_succ_eq_append_getElem hlt, e]
theorem wordStep_no (p : ByteArray) (l : List ByteArray) (x : Wd) (h : readingD x.1.data.toList = false) : wordStep (p, l) x = (x.2, l) := by
  unfold wordStep; rw [if_neg (by rw [h]; simp)]
theorem wordStep_none (p : ByteArray) (l : List ByteArray) (x : Wd) (h : readingD x.1.data.toList = true) (hk : (kmk 1 x.1.data.toList x.2.data.toList).isSome = false) : wordStep (p, l) x = (x.2, l) := by
  unfold wordStep; rw [if_pos h, if_neg (by rw [hk]; simp)]
theorem wordStep_yes (p : ByteArray) (l : List ByteArray) (x : Wd) (h : readingD x.1.data.toList = true) (hk : (kmk 1 x.1.data.toList x.2.data.toList).isSome = true) :
    wordStep (p, l) x = (x.2, addK (addK l (kmk 1 x.1.data.toList x.2.data.toList)) (kmk 2 p.data.toList x.2.data.toList)) := by
  unfold wordStep; rw [if_pos h, if_pos hk]

def wdCells (l : List Wd) : List Value := l.flatMap fun c => [.string c.1, .string c.2]
theorem wdCells_at : ∀ (l : List Wd) (k : Nat) (c : Wd), l[k]? = some c → (wdCells l)[k * 2]? = some (.string c.1) ∧ (wdCells l)[k * 2 + 1]? = some (.string c.2)
  | [], k, c, h => by simp at h
  | d :: l, 0, c, h => by
    simp at h
    subst h
    exact ⟨rfl, rfl⟩
  | d :: l, k + 1, c, h => by
    have ih := wdCells_at l k c (by simpa using h)
    simp only [wdCells, List.flatMap_cons] at ih ⊢
    rw [show (k + 1) * 2 = k * 2 + 2 by omega, show k * 2 + 2 + 1 = k * 2 + 1 + 2 by omega, List.getElem?_append_right (by simp), List.getElem?_append_right (by simp)]
    simpa using ih

/-- Words whose strings are no longer than that. -/
def WLight (N : Nat) (ws : List Wd) : Prop := ∀ c ∈ ws, c.1.size ≤ N ∧ c.2.size ≤ N

/-- The loop of history.Keys. -/
def KeysAt (w : World) (prev : ByteArray) (ws : List Wd) (p i : Value) (wr : World) : Prop :=
  ∃ (k : Nat) (pv : ByteArray) (l : List ByteArray), k ≤ ws.length ∧ i = .int .i64 (k : Int) ∧ p = .string pv ∧ pv.size ≤ 1048576 ∧ keysSt prev (ws.take k) = (pv, l) ∧ l.length ≤ 64 ∧
    KSt wr w.heap.size (w.heap.size + 2) w.heap.size (w.heap.size + 1) l ∧ Below w.heap.size w wr

def StrsPost (w : World) (l : List ByteArray) (e : Ending) (w' : World) : Prop := ∃ v, e = .returned v ∧ w'.ownsRow w.heap.size 9 1 v l.length (l.map Value.string) ∧ Below w.heap.size w w'

/-- The world in which the loop of history.Keys begins. -/
def keys0 (w : World) : World := ((w.alloc (.cells #[.slice none 0 0] 26)).alloc (.map #[] 0)).alloc (.cells #[.map (some (w.heap.size + 1))] 31)
theorem keys0_st (w : World) : KSt (keys0 w) w.heap.size (w.heap.size + 2) w.heap.size (w.heap.size + 1) [] := by
  have h1 : (w.alloc (.cells #[.slice none 0 0] 26)).heap.size = w.heap.size + 1 := by simp
  have h2 : ((w.alloc (.cells #[.slice none 0 0] 26)).alloc (.map #[] 0)).heap.size = w.heap.size + 2 := by simp
  refine ⟨?_, ⟨.slice none 0 0, ?_, World.ownsRow_nil _ _ _ _⟩, ?_, Nat.le_add_right _ _, Nat.le_refl _, Nat.le_add_right _ _⟩
  · have := heap_alloc_new ((w.alloc (.cells #[.slice none 0 0] 26)).alloc (.map #[] 0)) (.cells #[.map (some (w.heap.size + 1))] 31)
    rw [h2] at this
    exact this
  · have a := heap_alloc_new w (.cells #[.slice none 0 0] 26)
    have b := (Below.heap_alloc (w.alloc (.cells #[.slice none 0 0] 26)) (.map #[] 0) w.heap.size (by rw [h1]; omega)).trans a
    exact (Below.heap_alloc _ (.cells #[.map (some (w.heap.size + 1))] 31) w.heap.size (by rw [h2]; omega)).trans b
  · rw [setF_nil]
    have a := mapIs_made (w.alloc (.cells #[.slice none 0 0] 26)) 9 4
    rw [h1] at a
    exact a.kept (World.grownBy_alloc _ _ none) (by simp)
theorem keys0_below (w : World) : Below w.heap.size w (keys0 w) := (((Below.refl _ _).alloc (Nat.le_refl _) _).alloc (by simp) _).alloc (by simp; omega) _

set_option maxHeartbeats 4000000 in
theorem keys_calls (prev : ByteArray) (A : Option Addr) (cap : Nat) (ws : List Wd) (w : World) (hp : prev.size ≤ 1048576) (hl : Lies w w.heap.size 2 A ws.length (wdCells ws)) (hn : ws.length ≤ 1048576) (hws : WLight 1048576 ws) (he : Env w) :
    Calls Tryd.prog 14 #[.string prev, .slice A ws.length cap] w (StrsPost w (keysD prev ws)) := by
  have HE := Lib.hid he
  have HL := Lib.hid hl
  have HW := Lib.hid hws
  have CA := Lib.hid add_calls
  have CR := Lib.hid reading_calls
  clear he hl hws
  obtain ⟨n, hnn⟩ : ∃ n, n = ws.length := ⟨_, rfl⟩
  have HN := Lib.hid hnn
  rw [← hnn] at hn ⊢
  clear hnn
  have hmm := @run_makeMap Tryd.prog
  go_enter Tryd.func14, Tryd.ntmps14
  go_wp2_with fail
  go_loopw [0, 14] (fun p i wr => KeysAt w prev ws p i wr) (fun _ i _ => n - (intOf i).toNat)
  case atStart => exact ⟨0, prev, [], Nat.zero_le _, rfl, rfl, hp, rfl, by simp, keys0_st w, keys0_below w⟩
  case round =>
    clear hmm
    obtain ⟨k, pv, l, hk, rfl, rfl, hpv, hst, hl64, hK, hbw⟩ := hrel
    rw [← HN.out] at hk
    have HST := Lib.hid hst
    have HK := Lib.hid hK
    clear hst hK
    by_cases hlt : k < n
    · obtain ⟨c, hc⟩ : ∃ c, ws[k]? = some c := ⟨_, List.getElem?_eq_getElem (by rw [← HN.out]; exact hlt)⟩
      obtain ⟨q0, q1⟩ := wdCells_at ws k c hc
      have hlw := HL.out.below hbw
      rw [← HN.out] at hlw
      obtain ⟨b, off, rfl, hab, c0, c1⟩ := hlw.at2 hlt q0 q1
      obtain ⟨hr1, hr2⟩ := HW.out c (List.mem_of_getElem? hc)
      have hts := keysSt_snoc prev (ws.take k) c
      rw [← take_snoc_list ws k c hc, HST.out] at hts
      obtain ⟨r, s⟩ := c
      simp only at c0 c1 hr1 hr2
      clear q0 q1 hlw hc
      have HT := Lib.hid hts
      clear hts
      have hbx := (Below.refl wr.heap.size wr).alloc (Nat.le_refl _) (.cells #[.string r, .string s] 35)
      have Hbox := Lib.hid (heap_alloc_new wr (.cells #[.string r, .string s] 35))
      have HKx := Lib.hid (HK.out.below hbx)
      have hbwx := qtrans hbw hbx
      have hgl : wr.heap.size ≠ w.heap.size := by
        obtain ⟨v, h1, _⟩ := HK.out.list
        have := heap_lt h1
        omega
      clear hbx HK
      have C1 := Lib.hid fun W (hW : Env W) => CR.out r W (by omega) hW
      cases hrd : readingD r.data.toList with
      | false =>
        simp only [hrd] at C1
        have HS := Lib.hid (wordStep_no pv l (r, s) hrd)
        clear hrd
        go_wp2_with fail
        refine (C1.out _ (HE.out.below hbwx)).mono ?_
        rintro e w1 ⟨rfl, hb1⟩
        have HK1 := Lib.hid (HKx.out.below hb1)
        have hbw1 := qtrans hbwx hb1
        have d1 : w1.cell? ⟨wr.heap.size, 1, none⟩ = some (.string s) := cell_later hb1 (cell_of_row _ wr.heap.size 1 _ _ _ Hbox.out)
        clear hb1 HKx hbwx hbw c0 c1
        go_wp2_with fail
        go_roundw
        case rel => exact ⟨k + 1, s, l, by rw [← HN.out]; omega, by go_num, rfl, hr2, by rw [HT.out, HS.out], hl64, HK1.out, hbw1⟩
        case measure => simp [intOf]; omega
      | true =>
        simp only [hrd] at C1
        have CA1 := Lib.hid fun W h1 h2 hW => CA.out 1 r s W w.heap.size (w.heap.size + 2) w.heap.size (w.heap.size + 1) l h1 hl64 (by omega) (by omega) h2 hW
        cases hm : (kmk 1 r.data.toList s.data.toList).isSome with
        | false =>
          have HS := Lib.hid (wordStep_none pv l (r, s) hrd hm)
          have HA : Hid (addK l (kmk 1 r.data.toList s.data.toList) = l) := by
            show _ = _
            cases hx : kmk 1 r.data.toList s.data.toList with
            | none => rfl
            | some y => rw [hx] at hm; cases hm
          have HM := Lib.hid hm
          clear hrd hm
          go_wp2_with fail
          refine (C1.out _ (HE.out.below hbwx)).mono ?_
          rintro e w1 ⟨rfl, hb1⟩
          have HK1 := Lib.hid (HKx.out.below hb1)
          have hbw1 := qtrans hbwx hb1
          have Hb1 : Hid (w1.heap[wr.heap.size]? = _) := (hb1.block _ (heap_lt Hbox.out)).trans Hbox.out
          have d0 : w1.cell? ⟨wr.heap.size, 0, none⟩ = some (.string r) := cell_of_row _ wr.heap.size 0 _ _ _ Hb1.out
          have d1 : w1.cell? ⟨wr.heap.size, 1, none⟩ = some (.string s) := cell_of_row _ wr.heap.size 1 _ _ _ Hb1.out
          clear hb1 HKx hbwx hbw c0 c1
          go_wp2_with fail
          refine (CA1.out _ HK1.out hbw1.size (HE.out.below hbw1)).mono ?_
          rintro e w2 ⟨rfl, hK2, hb2, hk2⟩
          have d1' : w2.cell? ⟨wr.heap.size, 1, none⟩ = some (.string s) := cell_of_row _ wr.heap.size 1 _ _ _ (hk2 _ _ _ Hb1.out (by decide) hgl)
          have HK2 := Lib.hid hK2
          have hbw2 := hbw1.trans hb2
          rw [HM.out]
          clear hK2 hb2 hk2 d0 d1 hbw1 HK1
          go_wp2_with fail
          go_roundw
          case rel => exact ⟨k + 1, s, l, by rw [← HN.out]; omega, by go_num, rfl, hr2, by rw [HT.out, HS.out], hl64, by have := HK2.out; rwa [HA.out] at this, hbw2⟩
          case measure => simp [intOf]; omega
        | true =>
          have HS := Lib.hid (wordStep_yes pv l (r, s) hrd hm)
          have HM := Lib.hid hm
          have hl2 := addK_len l (kmk 1 r.data.toList s.data.toList) hl64
          have hl3 := addK_len _ (kmk 2 pv.data.toList s.data.toList) hl2
          have CA2 := Lib.hid fun W h1 h2 hW => CA.out 2 pv s W w.heap.size (w.heap.size + 2) w.heap.size (w.heap.size + 1) (addK l (kmk 1 r.data.toList s.data.toList)) h1 hl2 (by omega) (by omega) h2 hW
          clear hrd hm
          go_wp2_with fail
          refine (C1.out _ (HE.out.below hbwx)).mono ?_
          rintro e w1 ⟨rfl, hb1⟩
          have HK1 := Lib.hid (HKx.out.below hb1)
          have hbw1 := qtrans hbwx hb1
          have Hb1 : Hid (w1.heap[wr.heap.size]? = _) := (hb1.block _ (heap_lt Hbox.out)).trans Hbox.out
          have d0 : w1.cell? ⟨wr.heap.size, 0, none⟩ = some (.string r) := cell_of_row _ wr.heap.size 0 _ _ _ Hb1.out
          have d1 : w1.cell? ⟨wr.heap.size, 1, none⟩ = some (.string s) := cell_of_row _ wr.heap.size 1 _ _ _ Hb1.out
          clear hb1 HKx hbwx hbw c0 c1
          go_wp2_with fail
          refine (CA1.out _ HK1.out hbw1.size (HE.out.below hbw1)).mono ?_
          rintro e w2 ⟨rfl, hK2, hb2, hk2⟩
          have Hb2 := Lib.hid (hk2 _ _ _ Hb1.out (by decide) hgl)
          have d1' : w2.cell? ⟨wr.heap.size, 1, none⟩ = some (.string s) := cell_of_row _ wr.heap.size 1 _ _ _ Hb2.out
          have HK2 := Lib.hid hK2
          have hbw2 := hbw1.trans hb2
          rw [HM.out]
          clear hK2 hb2 hk2 d0 d1 hbw1 HK1
          go_wp2_with fail
          refine (CA2.out _ HK2.out hbw2.size (HE.out.below hbw2)).mono ?_
          rintro e w3 ⟨rfl, hK3, hb3, hk3⟩
          have d1'' : w3.cell? ⟨wr.heap.size, 1, none⟩ = some (.string s) := cell_of_row _ wr.heap.size 1 _ _ _ (hk3 _ _ _ Hb2.out (by decide) hgl)
          have HK3 := Lib.hid hK3
          have hbw3 := hbw2.trans hb3
          clear hK3 hb3 hk3 d1' hbw2 HK2 Hb1 Hb2
          go_wp2_with fail
          go_roundw
          case rel => exact ⟨k + 1, s, _, by rw [← HN.out]; omega, by go_num, rfl, hr2, by rw [HT.out, HS.out], hl3, HK3.out, hbw3⟩
          case measure => simp [intOf]; omega
    · have HT : Hid (keysD prev ws = l) := by
        show _ = _
        unfold keysD
        have := HST.out
        rw [List.take_of_length_le (by rw [← HN.out]; omega)] at this
        rw [this]
      obtain ⟨v, h1, h2⟩ := HK.out.list
      have c0 := heap_cell h1
      clear h1
      go_wp2_with fail
      go_ret
      refine ⟨_, rfl, ?_, hbw⟩
      rw [HT.out]
      exact h2
end Go.Proofs.YtleflnbcgkfojaaDoor
