/- What the reference's Name, Find and Valid compute, and pos.Check. -/
import Derived.Test.YtoihfmjnonanjaaDoorPosF
namespace Go.Proofs.YtoihfmjnonanjaaDoor
open Go.RowKit Go.Lib Go.Shelf Hk
set_option linter.unusedSimpArgs false
set_option linter.unusedVariables false
set_option maxRecDepth 100000

theorem eq_toList (a s : ByteArray) : (a.toList == s.toList) = decide (a = s) := by
  rw [ByteArray.toList_eq, ByteArray.toList_eq, Bool.eq_iff_iff]
  simp
  constructor
  · intro h
    cases a; cases s
    simp at h ⊢
    exact h
  · rintro rfl; rfl

set_option maxHeartbeats 1000000 in
theorem refFind_calls (A : Option Addr) (cap : Nat) (l : List P2) (s : ByteArray) (B : Nat) (w : World) (hl : Lies w B 2 A l.length (pcells l)) (hn : l.length ≤ maxLen) :
    Calls Tryd.prog 26 #[.slice A l.length cap, .string s] w fun e w' => e = .returned (.tuple #[.int .i64 (findI l s), .bool (findB l s)]) ∧ w = w' := by
  unfold maxLen at hn
  have HL := Lib.hid hl
  clear hl
  obtain ⟨n, hnn⟩ : ∃ n, n = l.length := ⟨_, rfl⟩
  have HN := Lib.hid hnn
  rw [← hnn]
  rw [← hnn] at hn
  clear hnn
  go_enter Tryd.func26, Tryd.ntmps26
  go_wp2_with fail
  go_loop [6] (fun i => ∃ k : Nat, k ≤ n ∧ i = .int .i64 (k : Int) ∧ Hid (NoneTo l s k)) (fun i => n - (intOf i).toNat)
  case atStart => exact ⟨0, Nat.zero_le _, rfl, fun j hj h => by omega⟩
  case round =>
    obtain ⟨k, hk, rfl, HT⟩ := hrel
    by_cases hlt : k < n
    · obtain ⟨p, hp⟩ : ∃ p, l[k]? = some p := ⟨_, List.getElem?_eq_getElem (by rw [← HN.out]; exact hlt)⟩
      obtain ⟨q0, q1⟩ := pcells_at l k p hp
      have hlw := HL.out
      rw [← HN.out] at hlw
      obtain ⟨b, off, rfl, hab, c0, c1⟩ := hlw.at2 hlt q0 q1
      have HP := Lib.hid hp
      clear q0 q1 hlw hp
      obtain ⟨pn, pk⟩ := p
      simp only at c0 c1
      have he := eq_toList pn s
      by_cases hd : pn = s
      · have HE := Lib.hid (idxI_hit l s k _ HP.out hd HT.out).2
        have HF : Hid (findI l s = (k : Int) ∧ findB l s = true) := by
          show _ ∧ _
          unfold findI findB
          rw [HE.out, ← HN.out, if_pos hlt]
          exact ⟨rfl, decide_eq_true hlt⟩
        rw [decide_eq_true hd] at he
        clear hd HT HE
        go_wp2_with fail
        go_ret2
        rw [HF.out.1, HF.out.2]
        exact ⟨rfl, rfl⟩
      · have HT2 := Lib.hid (HT.out.next HP.out hd)
        rw [decide_eq_false hd] at he
        clear hd HT
        go_wp2_with fail
        go_round
        case rel => exact ⟨k + 1, by omega, by go_num, HT2⟩
        case measure => simp [intOf]; omega
    · obtain rfl : k = n := by omega
      have HF : Hid (findI l s = 0 ∧ findB l s = false) := by
        show _ ∧ _
        have h2 := (idxI_miss l s (by have := HT.out; rw [HN.out] at this; exact this)).2
        unfold findI findB
        rw [h2, if_neg (by omega)]
        exact ⟨rfl, decide_eq_false (by omega)⟩
      go_wp2_with fail
      go_ret2
      rw [HF.out.1, HF.out.2]
      exact ⟨rfl, rfl⟩

def OkTo (s : ByteArray) (k : Nat) : Prop := ∀ j (hj : j < s.size), j < k → okc s[j].toNat = true
theorem OkTo.next {s : ByteArray} {k : Nat} (h : OkTo s k) (hk : k < s.size) (hc : okc s[k].toNat = true) : OkTo s (k + 1) := by
  intro j hj hjk
  by_cases e : j = k
  · subst e; exact hc
  · exact h j hj (by omega)
theorem mem_bytes (s : ByteArray) (c : UInt8) : c ∈ s.data.toList ↔ ∃ j, ∃ hj : j < s.size, s[j] = c := by
  have h2 : s.size = s.data.toList.length := by simp
  rw [List.mem_iff_getElem]
  constructor
  · rintro ⟨j, hj, rfl⟩
    exact ⟨j, by omega, rfl⟩
  · rintro ⟨j, hj, rfl⟩
    exact ⟨j, by omega, rfl⟩
theorem nameD_bad (s : ByteArray) (k : Nat) (hk : k < s.size) (h : okc s[k].toNat = false) : nameD s = false := by
  unfold nameD nameL
  have : (s.data.toList.all fun c => okc c.toNat) = false := by
    rw [List.all_eq_false]
    exact ⟨s[k], (mem_bytes s _).2 ⟨k, hk, rfl⟩, by simp [h]⟩
  rw [this, Bool.and_false]
theorem nameD_good (s : ByteArray) (h : OkTo s s.size) : nameD s = (decide (1 ≤ s.size) && decide (s.size ≤ 16)) := by
  unfold nameD nameL
  have : (s.data.toList.all fun c => okc c.toNat) = true := by
    rw [List.all_eq_true]
    intro c hc
    obtain ⟨j, hj, rfl⟩ := (mem_bytes s c).1 hc
    exact h j hj hj
  have h2 : s.data.toList.length = s.size := by simp
  rw [this, Bool.and_true, h2]

set_option maxHeartbeats 2000000 in
theorem refName_calls (s : ByteArray) (w : World) (hs : s.size ≤ maxLen) : Calls Tryd.prog 49 #[.string s] w fun e w' => e = .returned (.bool (nameD s)) ∧ w = w' := by
  unfold maxLen at hs
  go_enter Tryd.func49, Tryd.ntmps49
  go_wp2_with fail
  go_loop [3] (fun i => ∃ k : Nat, k ≤ s.size ∧ i = .int .i64 (k : Int) ∧ Hid (OkTo s k)) (fun i => s.size - (intOf i).toNat)
  case atStart => exact ⟨0, Nat.zero_le _, rfl, fun j hj h => by omega⟩
  case round =>
    obtain ⟨k, hk, rfl, HT⟩ := hrel
    by_cases hlt : k < s.size
    · have hcs : (s[k].toNat : Int) < 45 ∨ (s[k].toNat : Int) = 45 ∨ (46 ≤ (s[k].toNat : Int) ∧ (s[k].toNat : Int) < 48) ∨ (48 ≤ (s[k].toNat : Int) ∧ (s[k].toNat : Int) ≤ 57) ∨ (57 < (s[k].toNat : Int) ∧ (s[k].toNat : Int) < 65) ∨ (65 ≤ (s[k].toNat : Int) ∧ (s[k].toNat : Int) ≤ 90) ∨
          (90 < (s[k].toNat : Int) ∧ (s[k].toNat : Int) < 95) ∨ (s[k].toNat : Int) = 95 ∨ (s[k].toNat : Int) = 96 ∨ (97 ≤ (s[k].toNat : Int) ∧ (s[k].toNat : Int) ≤ 122) ∨ 122 < (s[k].toNat : Int) := by omega
      have HB : Hid (okc s[k].toNat = false → nameD s = false) := nameD_bad s k hlt
      have HG : Hid (okc s[k].toNat = true → OkTo s (k + 1)) := HT.out.next hlt
      clear HT
      rcases hcs with h | h | ⟨h, h'⟩ | ⟨h, h'⟩ | ⟨h, h'⟩ | ⟨h, h'⟩ | ⟨h, h'⟩ | h | h | ⟨h, h'⟩ | h
      all_goals
        go_wp2_with fail
        all_goals first
          | (exfalso; omega)
          | (go_ret; exact ⟨ret_bool (HB.out (by unfold okc; simp; omega)).symm, rfl⟩)
          | (exfalso; clear HB HG; simp_all; done)
          | (exfalso; clear HB HG; simp_all; omega)
          | (have HT2 := Lib.hid (HG.out (by unfold okc; simp; omega)); go_round; (case rel => exact ⟨k + 1, by omega, by go_num, HT2⟩); (case measure => simp [intOf]; omega))
    · obtain rfl : k = s.size := by omega
      have HN := Lib.hid (nameD_good s HT.out)
      clear HT
      go_wp2_with fail
      all_goals
        go_ret
        refine ⟨ret_bool ?_, rfl⟩
        rw [HN.out, Bool.eq_iff_iff]
        simp
        try omega
end Go.Proofs.YtoihfmjnonanjaaDoor
