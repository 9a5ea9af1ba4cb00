/- What pos.Find, pos.Breaks and the reference's Name, Find and Breaks compute. -/
import Derived.Test.YtoihfmjnonanjaaDoorPosE
namespace Go.Proofs.YtoihfmjnonanjaaDoor
open Go.RowKit Go.Lib Go.Shelf Hk
set_option linter.unusedSimpArgs false
set_option linter.unusedVariables false
set_option maxRecDepth 100000

/-- The cells of parts of speech. -/
def pcells (l : List P2) : List Value := l.flatMap fun c => [Value.string c.1, .int .i64 c.2]
theorem pcells_at : ∀ (l : List P2) (k : Nat) (c : P2), l[k]? = some c → (pcells l)[k * 2]? = some (.string c.1) ∧ (pcells l)[k * 2 + 1]? = some (.int .i64 c.2)
  | [], k, c, h => by simp at h
  | d :: l, 0, c, h => by
    simp at h
    subst h
    exact ⟨rfl, rfl⟩
  | d :: l, k + 1, c, h => by
    have ih := pcells_at l k c (by simpa using h)
    simp only [pcells, List.flatMap_cons] at ih ⊢
    rw [show (k + 1) * 2 = k * 2 + 2 by omega, show k * 2 + 2 + 1 = k * 2 + 1 + 2 by omega, List.getElem?_append_right (by simp), List.getElem?_append_right (by simp)]
    simpa using ih
theorem pcells_len (l : List P2) : (pcells l).length = l.length * 2 := flat2_len _ _ l
theorem pcells_append (a b : List P2) : pcells (a ++ b) = pcells a ++ pcells b := by simp [pcells]
theorem pcells_one (a : List P2) (p : P2) : pcells (a ++ [p]) = pcells a ++ [.string p.1, .int .i64 p.2] := by rw [pcells_append]; rfl

theorem breaks_calls (a b : Int) (w : World) : Calls Tryd.prog 28 #[.int .i64 a, .int .i64 b] w fun e w' => e = .returned (.bool (b != 1 && a != 2)) ∧ w = w' := by
  go_enter Tryd.func28, Tryd.ntmps28
  go_wp2_with fail
  all_goals
    go_ret
    refine ⟨ret_bool ?_, rfl⟩
    simp_all
theorem refBreaks_calls (a b : Int) (w : World) : Calls Tryd.prog 29 #[.int .i64 a, .int .i64 b] w fun e w' => e = .returned (.bool (b != 1 && a != 2)) ∧ w = w' := by
  go_enter Tryd.func29, Tryd.ntmps29
  go_wp2_with fail
  all_goals
    go_ret
    refine ⟨ret_bool ?_, rfl⟩
    simp_all

/-- The literal of Find: is this the name? -/
theorem isName_calls (B : Nat) (s : ByteArray) (p : P2) (W : World) (hB : B < W.heap.size) (hc : W.cell? ⟨B, 0, none⟩ = some (.string s)) :
    Calls Tryd.prog 48 #[.agg #[.string p.1, .int .i64 p.2], .pointer (some ⟨B, 0, none⟩)] W fun e w' => e = .returned (.bool (decide (p.1 = s))) ∧ Below W.heap.size W w' := by
  have hc2 : (W.alloc (.cells #[.string p.1, .int .i64 p.2] 33)).cell? ⟨B, 0, none⟩ = some (.string s) := by rw [World.cell?_alloc_lt _ _ _ hB]; exact hc
  obtain ⟨a, k⟩ := p
  have HE : Hid ((a.toList == s.toList) = decide (a = s)) := by
    show _ = _
    rw [ByteArray.toList_eq, ByteArray.toList_eq, Bool.eq_iff_iff]
    simp
    constructor
    · intro h
      cases a; cases s
      simp at h ⊢
      exact h
    · rintro rfl; rfl
  go_enter Tryd.func48, Tryd.ntmps48
  go_wp2_with fail
  go_ret
  exact ⟨ret_bool HE.out, (Below.refl _ _).alloc (Nat.le_refl _) _⟩

/-- What slices.IndexFunc finds. -/
def idxI (l : List P2) (s : ByteArray) : Int := if findN l s < l.length then (findN l s : Int) else -1
def NoneTo (l : List P2) (s : ByteArray) (k : Nat) : Prop := ∀ j (hj : j < l.length), j < k → l[j].1 ≠ s
theorem idxI_hit (l : List P2) (s : ByteArray) (k : Nat) (p : P2) (hk : l[k]? = some p) (hp : p.1 = s) (h : NoneTo l s k) : idxI l s = k ∧ findN l s = k := by
  obtain ⟨hlt, rfl⟩ := List.getElem?_eq_some_iff.1 hk
  have := findN_hit l s k hlt hp fun j hj => h j (by omega) hj
  unfold idxI
  rw [this, if_pos hlt]
  exact ⟨rfl, rfl⟩
theorem idxI_miss (l : List P2) (s : ByteArray) (h : NoneTo l s l.length) : idxI l s = -1 ∧ findN l s = l.length := by
  have := findN_miss l s fun j hj => h j hj hj
  unfold idxI
  rw [this, if_neg (by omega)]
  exact ⟨rfl, rfl⟩
theorem NoneTo.next {l : List P2} {s : ByteArray} {k : Nat} {p : P2} (h : NoneTo l s k) (hk : l[k]? = some p) (hp : p.1 ≠ s) : NoneTo l s (k + 1) := by
  intro j hj hjk
  obtain ⟨hlt, rfl⟩ := List.getElem?_eq_some_iff.1 hk
  by_cases e : j = k
  · subst e; exact hp
  · exact h j hj (by omega)

set_option maxHeartbeats 1000000 in
theorem indexFunc_calls (A : Option Addr) (cap : Nat) (l : List P2) (s : ByteArray) (B : Nat) (w : World) (hl : Lies w w.heap.size 2 A l.length (pcells l)) (hn : l.length ≤ maxLen) (hB : B < w.heap.size) (hc : w.cell? ⟨B, 0, none⟩ = some (.string s)) :
    Calls Tryd.prog 47 #[.slice A l.length cap, .func (.func 48) #[] #[.pointer (some ⟨B, 0, none⟩)]] w fun e w' => e = .returned (.int .i64 (idxI l s)) ∧ Below w.heap.size w w' := by
  unfold maxLen at hn
  have HL := Lib.hid hl
  have HC := Lib.hid hc
  clear hl hc
  obtain ⟨n, hnn⟩ : ∃ n, n = l.length := ⟨_, rfl⟩
  have HN := Lib.hid hnn
  rw [← hnn]
  rw [← hnn] at hn
  clear hnn
  have eg := enters_of Tryd.func48 (by kernel_rfl) rfl
  go_enter Tryd.func47, Tryd.ntmps47
  go_wp2_with fail
  go_loopw [5, 8] (fun _ i wr => ∃ k : Nat, k ≤ n ∧ i = .int .i64 (k : Int) ∧ Hid (NoneTo l s k) ∧ Below w.heap.size w wr) (fun _ i _ => n - (intOf i).toNat)
  case atStart => exact ⟨0, Nat.zero_le _, rfl, fun j hj h => by omega, Below.refl _ _⟩
  case round =>
    obtain ⟨k, hk, rfl, HT, hbw⟩ := hrel
    by_cases hlt : k < n
    · obtain ⟨p, hp⟩ : ∃ p, l[k]? = some p := ⟨_, List.getElem?_eq_getElem (by rw [← HN.out]; exact hlt)⟩
      obtain ⟨q0, q1⟩ := pcells_at l k p hp
      have hlw := HL.out.below hbw
      rw [← HN.out] at hlw
      obtain ⟨b, off, rfl, hab, c0, c1⟩ := hlw.at2 hlt q0 q1
      have HP := Lib.hid hp
      clear q0 q1 hlw hp
      have CN := Lib.hid (isName_calls B s p wr (Nat.lt_of_lt_of_le hB hbw.size) (cell_later hbw HC.out))
      obtain ⟨pn, pk⟩ := p
      simp only at c0 c1
      by_cases he : pn = s
      · have HE := Lib.hid (idxI_hit l s k _ HP.out he HT.out).1
        have hd : decide (pn = s) = true := decide_eq_true he
        simp only [hd] at CN
        clear he hd HT
        go_wp2_with fail
        refine CN.out.mono ?_
        rintro e w1 ⟨rfl, hb1⟩
        go_wp2_with fail
        go_ret
        exact ⟨ret_i64 HE.out.symm, qtrans hbw hb1⟩
      · have HT2 := Lib.hid (HT.out.next HP.out he)
        have hd : decide (pn = s) = false := decide_eq_false he
        simp only [hd] at CN
        clear he hd HT
        go_wp2_with fail
        refine CN.out.mono ?_
        rintro e w1 ⟨rfl, hb1⟩
        go_wp2_with fail
        go_roundw
        case rel => exact ⟨k + 1, by omega, by go_num, HT2, qtrans hbw hb1⟩
        case measure => simp [intOf]; omega
    · obtain rfl : k = n := by omega
      have HE : Hid (idxI l s = -1) := by
        show _ = _
        refine (idxI_miss l s ?_).1
        have := HT.out
        rw [HN.out] at this
        exact this
      go_wp2_with fail
      go_ret
      exact ⟨ret_i64 HE.out.symm, hbw⟩

set_option maxHeartbeats 400000 in
theorem find_calls (A : Option Addr) (cap : Nat) (l : List P2) (s : ByteArray) (w : World) (hl : Lies w w.heap.size 2 A l.length (pcells l)) (hn : l.length ≤ maxLen) :
    Calls Tryd.prog 25 #[.slice A l.length cap, .string s] w fun e w' => e = .returned (.tuple #[.int .i64 (findI l s), .bool (findB l s)]) ∧ Below w.heap.size w w' := by
  have hmf : ∀ (fn : Fn) (first cap : Array Value) (w : World), (Instr.makeFunc fn first cap).run Tryd.prog w = .ok (.func fn first cap) w := fun _ _ _ _ => rfl
  have hb0 : Below w.heap.size w (w.alloc (.cells #[.string s] 9)) := (Below.refl _ _).alloc (Nat.le_refl _) _
  have CI := Lib.hid (indexFunc_calls A cap l s w.heap.size (w.alloc (.cells #[.string s] 9)) ((hl.below hb0).up hb0.size) hn (by simp) (by simp))
  have HL := Lib.hid hl
  clear hl hb0
  go_enter Tryd.func25, Tryd.ntmps25
  by_cases h : findN l s < l.length
  · have HI : Hid (idxI l s = (findN l s : Int)) := by show _ = _; unfold idxI; rw [if_pos h]
    have HF : Hid (findI l s = (findN l s : Int) ∧ findB l s = true) := by show _ ∧ _; unfold findI findB; rw [if_pos h]; exact ⟨rfl, decide_eq_true h⟩
    generalize findN l s = k at *
    go_wp2_with fail
    refine CI.out.mono ?_
    rintro e w1 ⟨rfl, hb1⟩
    rw [HI.out]
    unfold maxLen at hn
    go_wp2_with fail
    go_ret2
    rw [HF.out.1, HF.out.2]
    exact ⟨rfl, ((Below.refl _ _).alloc (Nat.le_refl _) _).trans (hb1.mono (by simp))⟩
  · have HI : Hid (idxI l s = -1) := by show _ = _; unfold idxI; rw [if_neg h]
    have HF : Hid (findI l s = 0 ∧ findB l s = false) := by show _ ∧ _; unfold findI findB; rw [if_neg h]; exact ⟨rfl, decide_eq_false h⟩
    clear h
    go_wp2_with fail
    refine CI.out.mono ?_
    rintro e w1 ⟨rfl, hb1⟩
    rw [HI.out]
    go_wp2_with fail
    go_ret2
    rw [HF.out.1, HF.out.2]
    exact ⟨rfl, ((Below.refl _ _).alloc (Nat.le_refl _) _).trans (hb1.mono (by simp))⟩
end Go.Proofs.YtoihfmjnonanjaaDoor
