/- What ReadUint of henkanref12 computes. -/
import Derived.Test.YtoihfmjnonanjaaDoorPosAE
namespace Go.Proofs.YtoihfmjnonanjaaDoor
open Go.RowKit Go.Lib Go.Shelf Hk
set_option linter.unusedSimpArgs false
set_option linter.unusedVariables false
set_option maxRecDepth 100000

/-- k digits have come. -/
def RuS (l : List UInt8) (k V M : Nat) : Prop :=
  (k ≤ 9 → V < 2 ^ (7 * k) ∧ M = 2 ^ (7 * k) ∧ rdU 0 l = (rdU k (l.drop k)).map fun x => (V + 2 ^ (7 * k) * x.1, x.2 + k)) ∧ (k = 10 → rdU 0 l = none)
theorem RuS.start (l : List UInt8) : RuS l 0 0 1 := ⟨fun _ => ⟨by decide, rfl, by simp⟩, fun h => by omega⟩
theorem rd_long {l : List UInt8} {V : Nat} (h : rdU 0 l = none) (hV : V < 18446744073709551616) : decide (l.take (uintL V).length = uintL V) = false := by
  refine decide_eq_false fun he => ?_
  have := rdU_uintL V (l.drop (uintL V).length) hV
  rw [← he, List.length_take] at this
  have e : (l.take (uintL V).length).length = (uintL V).length := congrArg List.length he
  rw [List.length_take] at e
  rw [e, List.take_append_drop, h] at this
  cases this
/-- The next digit's value, as the program computes it. -/
def ruV (V M z : Nat) : Nat := (V + M * (z % 128)) % 18446744073709551616
theorem RuS.short {l : List UInt8} {k V M : Nat} {c : UInt8} (h : RuS l k V M) (hk : k ≤ 9) (hc : l[k]? = some c) (hs : c.toNat < 128) :
    (rdU 0 l = none ∧ decide (l.take (uintL (ruV V M c.toNat)).length = uintL (ruV V M c.toNat)) = false) ∨
      (rdU 0 l = some (ruV V M c.toNat, k + 1) ∧ (uintL (ruV V M c.toNat)).length = k + 1 ∧ decide (l.take (uintL (ruV V M c.toNat)).length = uintL (ruV V M c.toNat)) = true) := by
  obtain ⟨h1, rfl, h3⟩ := h.1 hk
  have hd : l.drop k = c :: l.drop (k + 1) := by
    obtain ⟨h1, rfl⟩ := List.getElem?_eq_some_iff.1 hc
    exact List.drop_eq_getElem_cons h1
  rw [hd] at h3
  have hv : ruV V (2 ^ (7 * k)) c.toNat < 18446744073709551616 := Nat.mod_lt _ (by omega)
  by_cases hb : k = 9 ∧ 1 < c.toNat ∨ 0 < k ∧ c.toNat = 0
  · have := num_bad h3 hb
    exact .inl ⟨this, rd_long this hv⟩
  · have h4 := num_done h3 hb hs
    have h5 := (digit_lt hk h1 (Nat.mod_lt c.toNat (by omega : 0 < 128)) (fun h => by omega)).1
    have h6 : ruV V (2 ^ (7 * k)) c.toNat = V + 2 ^ (7 * k) * (c.toNat % 128) := Nat.mod_eq_of_lt h5
    obtain ⟨_, _, h7, h8⟩ := rdU_take h4
    have h9 : (uintL (V + 2 ^ (7 * k) * (c.toNat % 128))).length = k + 1 := by rw [h8, List.length_take]; omega
    rw [h6]
    exact .inr ⟨h4, h9, decide_eq_true (by rw [h9, h8])⟩
theorem RuS.long {l : List UInt8} {k V M : Nat} {c : UInt8} (h : RuS l k V M) (hk : k ≤ 9) (hc : l[k]? = some c) (hs : ¬ c.toNat < 128) : RuS l (k + 1) (ruV V M c.toNat) (M * 128 % 18446744073709551616) := by
  obtain ⟨h1, rfl, h3⟩ := h.1 hk
  have hd : l.drop k = c :: l.drop (k + 1) := by
    obtain ⟨h1, rfl⟩ := List.getElem?_eq_some_iff.1 hc
    exact List.drop_eq_getElem_cons h1
  rw [hd] at h3
  refine ⟨fun hk2 => ?_, fun hk2 => ?_⟩
  · have h4 := num_next h3 (by omega) hs
    have h5 := digit_lt hk h1 (Nat.mod_lt c.toNat (by omega : 0 < 128)) (fun h => by omega)
    have h6 : ruV V (2 ^ (7 * k)) c.toNat = V + 2 ^ (7 * k) * (c.toNat % 128) := Nat.mod_eq_of_lt h5.1
    have h7 := @pow_le_63 (k + 1) (by omega)
    have h8 : 2 ^ (7 * k) * 128 = 2 ^ (7 * (k + 1)) := by rw [show 7 * (k + 1) = 7 * k + 7 by omega, Nat.pow_add]
    rw [h6]
    exact ⟨h5.2, by rw [h8]; exact Nat.mod_eq_of_lt (by omega), h4⟩
  · exact num_bad h3 (.inl ⟨by omega, by omega⟩)
theorem RuS.over {l : List UInt8} {k V M : Nat} (h : RuS l k V M) (hk : k ≤ 10) (hd : k = 10 ∨ l.length ≤ k) : rdU 0 l = none := by
  by_cases h10 : k = 10
  · exact h.2 h10
  · obtain ⟨_, _, h3⟩ := h.1 (by omega)
    rw [h3, List.drop_of_length_le (by omega)]
    rfl
theorem ruV_int (V M z : Nat) (hz : z < 256) : IntKind.u64.wrap ((V : Int) + IntKind.u64.wrap ((M : Int) * ((z : Int) % 128))) = (ruV V M z : Int) := by
  unfold ruV
  simp only [IntKind.wrap, IntKind.bits, IntKind.signed]
  simp
theorem ruM_int (M : Nat) : IntKind.u64.wrap ((M : Int) * 128) = ((M * 128 % 18446744073709551616 : Nat) : Int) := by
  simp [IntKind.wrap, IntKind.bits, IntKind.signed]

def RuLo (bs : List UInt8) (p : Nat) (w : World) (v m i : Value) (wr : World) : Prop :=
  ∃ k V M : Nat, k ≤ 10 ∧ V < 18446744073709551616 ∧ M < 18446744073709551616 ∧ v = .int .u64 (V : Int) ∧ m = .int .u64 (M : Int) ∧ i = .int .i64 (k : Int) ∧ Hid (RuS (bs.drop p) k V M) ∧ Below w.heap.size w wr
set_option maxHeartbeats 4000000 in
theorem readUint_calls (A : Option Addr) (n cap : Nat) (bs : List UInt8) (p B : Nat) (w : World) (hl : Lies w B 1 A n (byteCells bs)) (hB : B ≤ w.heap.size) (hn : n = bs.length) (hp : p ≤ n) (hnm : n ≤ 9223372036854775807) :
    Calls Tryd.prog 53 #[.slice A n cap, .int .i64 (p : Int)] w fun e w' => e = .returned (uRes (rdU 0 (bs.drop p)) p) ∧ Below w.heap.size w w' := by
  have HL := Lib.hid (hl.up hB)
  have HN := Lib.hid hn
  clear hl hn
  have CW := Lib.hid refUint_calls
  go_enter Tryd.func53, Tryd.ntmps53
  go_wp2_with fail
  go_loopw [7, 8, 9] (fun v m i wr => RuLo bs p w v m i wr) (fun _ _ i _ => 10 - (intOf i).toNat)
  case atStart => exact ⟨0, 0, 1, by omega, by omega, by omega, rfl, rfl, rfl, RuS.start _, Below.refl _ _⟩
  case round =>
    obtain ⟨k, V, M, hk, hV, hM, rfl, rfl, rfl, HS, hbw⟩ := hrel
    by_cases hlt : k < 10 ∧ p + k < n
    · obtain ⟨hk10, hpk⟩ := hlt
      obtain ⟨c, hc⟩ : ∃ c, bs[p + k]? = some c := ⟨_, List.getElem?_eq_getElem (by rw [← HN.out]; exact hpk)⟩
      have hcl : (bs.drop p)[k]? = some c := by rw [List.getElem?_drop]; exact hc
      obtain ⟨b1, o1, rfl, _, c0⟩ := (HL.out.below hbw).at1 hpk (u := .int .u8 (c.toNat : Int)) (by simp [byteCells, hc])
      have hz := c.toNat_lt
      have HSH := Lib.hid (HS.out.short (by omega) hcl)
      have HLO := Lib.hid (HS.out.long (by omega) hcl)
      have hvi := ruV_int V M c.toNat (by omega)
      have hmi := ruM_int M
      have hvl : ruV V M c.toNat < 18446744073709551616 := Nat.mod_lt _ (by omega)
      have hml : M * 128 % 18446744073709551616 < 18446744073709551616 := Nat.mod_lt _ (by omega)
      clear hc hcl HS
      generalize ruV V M c.toNat = V' at *
      generalize M * 128 % 18446744073709551616 = M' at *
      generalize c.toNat = z at *
      by_cases hz8 : z < 128
      · have HSS := Lib.hid (HSH.out hz8)
        have hul := uintL_len V'
        have C1 := Lib.hid (CW.out V' wr hvl)
        have CB : Hid (∀ A' c' W, Below w.heap.size w W → Lies W W.heap.size 1 A' (uintL V').length (byteCells (uintL V')) → Calls Tryd.prog 67 #[.slice (some ⟨b1, o1, none⟩) n cap, .int .i64 (p : Int), .slice A' (uintL V').length c'] W fun e w' => e = .returned (.bool (decide (((bs.drop p)).take (uintL V').length = uintL V'))) ∧ Below W.heap.size W w') :=
          fun A' c' W hW hl' => begins_calls _ A' n _ cap c' bs (uintL V') p _ _ W (HL.out.below hW) hl' HN.out rfl hp hnm (by omega)
        unfold NewU8 at C1
        rcases HSS.out with ⟨hno, hbf⟩ | ⟨hyes, hlen, hbt⟩
        · rw [hbf] at CB
          have HX := Lib.hid hno
          clear HSH HLO HSS hno hbf CW
          obtain ⟨m, hm⟩ : ∃ m, m = (uintL V').length := ⟨_, rfl⟩
          rw [← hm] at C1 CB hul
          generalize byteCells (uintL V') = xs at *
          clear hm
          go_wp2_with fail
          refine C1.out.mono ?_
          rintro e w2 ⟨v2, rfl, ho2, hb2⟩
          obtain ⟨A', c', rfl, _, _⟩ := own_slice ho2
          have hbw2 := qtrans hbw hb2
          have C2 := Lib.hid (CB.out A' c' w2 hbw2 (Lies.of_own ho2))
          clear C1 CB ho2 hb2 c0
          by_cases hmk : m = k + 1
          · subst hmk
            have q : (((k + 1 : Nat) : Int) == (k : Int) + 1) = true := by rw [beq_iff_eq]; omega
            go_wp2_with fail
            refine C2.out.mono ?_
            rintro e w3 ⟨rfl, hb3⟩
            have hbw3 := qtrans hbw2 hb3
            clear C2 hb3
            go_wp2_with fail
            go_ret3
            exact ⟨by rw [HX.out]; rfl, hbw3⟩
          · have q : ((m : Int) == (k : Int) + 1) = false := by rw [beq_eq_false_iff_ne]; omega
            go_wp2_with fail
            go_ret3
            exact ⟨by rw [HX.out]; rfl, hbw2⟩
        · rw [hbt] at CB
          have HX := Lib.hid hyes
          rw [hlen] at CB C1
          clear HSH HLO HSS hyes hbt CW
          generalize byteCells (uintL V') = xs at *
          go_wp2_with fail
          refine C1.out.mono ?_
          rintro e w2 ⟨v2, rfl, ho2, hb2⟩
          obtain ⟨A', c', rfl, _, _⟩ := own_slice ho2
          have hbw2 := qtrans hbw hb2
          have C2 := Lib.hid (CB.out A' c' w2 hbw2 (Lies.of_own ho2))
          have q : (((k + 1 : Nat) : Int) == (k : Int) + 1) = true := by rw [beq_iff_eq]; omega
          clear C1 CB ho2 hb2 c0
          go_wp2_with fail
          refine C2.out.mono ?_
          rintro e w3 ⟨rfl, hb3⟩
          have hbw3 := qtrans hbw2 hb3
          clear C2 hb3
          go_wp2_with fail
          go_ret3
          exact ⟨by rw [HX.out]; rfl, hbw3⟩
      · have HLL := Lib.hid (HLO.out hz8)
        clear HSH HLO CW
        go_wp2_with fail
        go_roundw
        case rel => exact ⟨k + 1, V', M', by omega, hvl, hml, by go_num, by go_num, by go_num, HLL, hbw⟩
        case measure => simp [intOf]; omega
    · have HX := Lib.hid (HS.out.over hk (by rw [List.length_drop, ← HN.out]; omega))
      clear CW
      by_cases h10 : k = 10
      · have q1 : decide ((k : Int) < 10) = false := decide_eq_false (by omega)
        clear hlt
        go_wp2_with fail
        go_ret3
        exact ⟨by rw [HX.out]; rfl, hbw⟩
      · have hk9 : k < 10 := by omega
        by_cases hpn : p < n
        · have q1 : decide ((k : Int) < (n : Int) - (p : Int)) = false := decide_eq_false (by omega)
          clear hlt
          go_wp2_with fail
          go_ret3
          exact ⟨by rw [HX.out]; rfl, hbw⟩
        · clear hlt
          go_wp2_with fail
          go_ret3
          exact ⟨by rw [HX.out]; rfl, hbw⟩
end Go.Proofs.YtoihfmjnonanjaaDoor
