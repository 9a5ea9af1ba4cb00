/- What coding's reader computes: numbers. -/
import Derived.Test.YtoihfmjnonanjaaDoorPosX
import Derived.Test.YtoihfmjnonanjaaDoorPosZ
import Derived.RangeFuncBox
import Derived.WalkLawsBesides
namespace Go.Proofs.YtoihfmjnonanjaaDoor
open Go.RowKit Go.Lib Go.Shelf Hk
set_option linter.unusedSimpArgs false
set_option linter.unusedVariables false
set_option maxRecDepth 100000

/-- A reader in block R: it reads n bytes at A and stands at a place. -/
def Rdr (W : World) (R : Nat) (A : Option Addr) (n cap : Nat) (at' : Int) : Prop := W.heap[R]? = some (Obj.cells #[.slice A n cap, .int .i64 at'] 116 (0, 0))
section
variable {W W' : World} {R n cap : Nat} {A : Option Addr} {p : Int}
theorem Rdr.lt (h : Rdr W R A n cap p) : R < W.heap.size := (Array.getElem?_eq_some_iff.1 h).1
theorem Rdr.c0 (h : Rdr W R A n cap p) : W.cell? ⟨R, 0, none⟩ = some (.slice A n cap) := by simp [World.cell?, show W.heap[R]? = _ from h]
theorem Rdr.c1 (h : Rdr W R A n cap p) : W.cell? ⟨R, 1, none⟩ = some (.int .i64 p) := by simp [World.cell?, show W.heap[R]? = _ from h]
theorem Rdr.f1 (h : Rdr W R A n cap p) : W.frozen? ⟨R, 1, none⟩ = false := by simp [World.frozen?, show W.heap[R]? = _ from h]
theorem Rdr.drew (h : Rdr W R A n cap p) : Rdr W.drew R A n cap p := h
theorem Rdr.set (h : Rdr W R A n cap p) (q : Int) : Rdr (W.setCell ⟨R, 1, none⟩ (.int .i64 q)) R A n cap q := by
  obtain ⟨hlt, hk⟩ := Array.getElem?_eq_some_iff.1 h
  show (W.heap.modify R _)[R]? = _
  rw [Array.getElem?_eq_getElem (by rw [Array.size_modify]; exact hlt), Array.getElem_modify_self, hk]
  rfl
theorem rdr_below (h : Rdr W R A n cap p) (hb : Below W.heap.size W W') : Rdr W' R A n cap p := (hb.block R h.lt).trans h
end

theorem below_drewNR {R q : Nat} {W W' : World} (h : Below R W W') : Below R W (W'.drewN q) := h.trans ⟨rfl, rfl, rfl, Nat.le_refl _, fun _ _ => rfl⟩
theorem rdr_drewN {W : World} {R n cap q : Nat} {A : Option Addr} {p : Int} (h : Rdr W R A n cap p) : Rdr (W.drewN q) R A n cap p := h
/-- The loop of number: k bytes on. -/
def NuAt (W : World) (R : Nat) (A : Option Addr) (n cap : Nat) (bs : List UInt8) (p : Nat) (v sh : Value) (wr : World) : Prop :=
  ∃ k V : Nat, k ≤ 9 ∧ v = .int .u64 (V : Int) ∧ sh = .int .i64 ((7 * k : Nat) : Int) ∧ V < 2 ^ (7 * k) ∧ Hid (rdU 0 (bs.drop p) = (rdU k (bs.drop (p + k))).map fun x => (V + 2 ^ (7 * k) * x.1, x.2 + k)) ∧ Rdr wr R A n cap ((p + k : Nat) : Int) ∧ Below R W wr

set_option maxHeartbeats 4000000 in
theorem number_calls (R : Nat) (A : Option Addr) (n cap : Nat) (bs : List UInt8) (p : Nat) (W : World) (hR : Rdr W R A n cap (p : Int)) (hl : Lies W R 1 A n (byteCells bs)) (hn : n = bs.length) (hnm : n ≤ 9223372036854775807) (hp : p ≤ 9223372036854775807) :
    Calls Tryd.prog 64 #[.pointer (some ⟨R, 0, none⟩)] W fun e W' => Below R W W' ∧
      ((∃ v c, rdU 0 (bs.drop p) = some (v, c) ∧ e = .returned (.int .u64 (v : Int)) ∧ Rdr W' R A n cap ((p + c : Nat) : Int)) ∨ (rdU 0 (bs.drop p) = none ∧ e = .panicked [{ v := .iface 114 (.agg #[]), recovered := false }])) := by
  have HL := Lib.hid hl
  have HN := Lib.hid hn
  clear hl hn
  go_enter Tryd.func64, Tryd.ntmps64
  go_wp2_with fail
  go_loopw [3, 4] (fun v sh wr => NuAt W R A n cap bs p v sh wr) (fun _ sh _ => 70 - (intOf sh).toNat)
  case atStart => exact ⟨0, 0, by omega, rfl, rfl, by simp, (show _ = _ by simp), hR, Below.refl _ _⟩
  case round =>
    obtain ⟨k, V, hk, rfl, rfl, hV, HD, hr, hbw⟩ := hrel
    obtain ⟨j, hj⟩ : ∃ j, j = p + k := ⟨_, rfl⟩
    rw [← hj] at hr HD
    have HJ := Lib.hid hj
    have hjm : j ≤ 9223372036854775816 := by omega
    clear hj
    have k0 := hr.c0
    have k1 := hr.c1
    have f1 := hr.f1
    by_cases hlt : j < n
    · obtain ⟨c, hc⟩ : ∃ c, bs[j]? = some c := ⟨_, List.getElem?_eq_getElem (by rw [← HN.out]; exact hlt)⟩
      obtain ⟨b, off, rfl, hbR, c0⟩ := (HL.out.below hbw).at1 hlt (u := .int .u8 (c.toNat : Int)) (by simp [byteCells, hc])
      have hcl := c.toNat_lt
      have hdr : bs.drop j = c :: bs.drop (j + 1) := by
        obtain ⟨h1, rfl⟩ := List.getElem?_eq_some_iff.1 hc
        exact List.drop_eq_getElem_cons h1
      have hd := HD.out
      rw [hdr] at hd
      have HB := Lib.hid (@num_bad k V c _ _ hd)
      have HDN := Lib.hid (@num_done k V c _ _ hd)
      have HNX := Lib.hid (@num_next k V c _ _ hd)
      have hac := @acc_bits k V c.toNat hk hV hcl
      have hdl := @digit_lt k V (c.toNat % 128) hk hV (Nat.mod_lt _ (by omega))
      clear hdr hc hd HD
      generalize c.toNat = z at *
      obtain ⟨S, hS⟩ : ∃ S, S = 7 * k := ⟨_, rfl⟩
      rw [← hS] at hV hac hdl HDN ⊢
      have HS := Lib.hid hS
      have HAC := Lib.hid hac
      have HDL := Lib.hid hdl
      have HV := Lib.hid hV
      have hS3 : S ≤ 63 := by omega
      clear hV hac hdl
      by_cases hk9 : k = 9
      · have q1 : ((S : Int) == 63) = true := by rw [beq_iff_eq]; omega
        have hS1 : 0 < S := by omega
        by_cases hz1 : 1 < z
        · have HX := Lib.hid (HB.out (.inl ⟨hk9, hz1⟩))
          clear hS hk9
          clear HDN HNX HAC HDL HV HB
          go_wp2_with fail
          go_quiet (fail)
          go_wp2_with fail
          go_quiet (fail)
          go_wp2_with fail
          exact ⟨rfl, below_drewNR hbw, .inr ⟨HX.out, rfl⟩⟩
        · by_cases hz0 : z = 0
          · have HX := Lib.hid (HB.out (.inr ⟨by omega, hz0⟩))
            have q2 : ((z : Int) == 0) = true := by rw [beq_iff_eq]; omega
            have q3 : decide ((1 : Int) < (z : Int)) = false := decide_eq_false (by omega)
            clear hS hk9 hz0 hz1
            clear HDN HNX HAC HDL HV HB
            go_wp2_with fail
            go_quiet (fail)
            go_wp2_with fail
            go_quiet (fail)
            go_wp2_with fail
            exact ⟨rfl, below_drewNR hbw, .inr ⟨HX.out, rfl⟩⟩
          · have q2 : ((z : Int) == 0) = false := by rw [beq_eq_false_iff_ne]; omega
            have q3 : decide ((1 : Int) < (z : Int)) = false := decide_eq_false (by omega)
            have hnb : ¬ (k = 9 ∧ 1 < z ∨ 0 < k ∧ z = 0) := by omega
            have hz : z < 128 := by omega
            clear hS hz0
            have HX := Lib.hid (HDN.out hnb hz)
            have HA2 := Lib.hid (HAC.out (by omega))
            clear HDN HNX HAC HDL HV HB hnb
            go_wp2_with fail
            go_quiet (fail)
            go_wp2_with fail
            go_quiet (fail)
            go_wp2_with fail
            go_ret
            refine ⟨(below_drewNR hbw).setCell (p := ⟨R, 1, none⟩) (Nat.le_refl R) _, .inl ⟨_, _, HX.out, ?_, ?_⟩⟩
            · first | rfl | (rw [HA2.out]; rfl) | rw [HA2.out]
            · rw [show ((p + (k + 1) : Nat) : Int) = (j : Int) + 1 by rw [HJ.out]; omega]
              exact (rdr_drewN hr).set _
      · have q1 : ((S : Int) == 63) = false := by rw [beq_eq_false_iff_ne]; omega
        by_cases hk0 : k = 0
        · have hS0 : S = 0 := by omega
          have qs : decide ((0 : Int) < (S : Int)) = false := decide_eq_false (by omega)
          have qs2 : decide (0 < S) = false := decide_eq_false (by omega)
          have hnb : ¬ (k = 9 ∧ 1 < z ∨ 0 < k ∧ z = 0) := by omega
          have hk1 : k ≤ 0 := by omega
          clear hS hk9 hk0 hS0
          by_cases hz : z < 128
          · have HX := Lib.hid (HDN.out hnb hz)
            have HA2 := Lib.hid (HAC.out (by omega))
            clear HDN HNX HAC HDL HV HB hnb
            go_wp2_with fail
            go_quiet (fail)
            go_wp2_with fail
            go_quiet (fail)
            go_wp2_with fail
            go_ret
            refine ⟨(below_drewNR hbw).setCell (p := ⟨R, 1, none⟩) (Nat.le_refl R) _, .inl ⟨_, _, HX.out, ?_, ?_⟩⟩
            · first | rfl | (rw [HA2.out]; rfl) | rw [HA2.out]
            · rw [show ((p + (k + 1) : Nat) : Int) = (j : Int) + 1 by rw [HJ.out]; omega]
              exact (rdr_drewN hr).set _
          · have HX := Lib.hid (HNX.out hnb (by omega))
            have HA2 := Lib.hid (HAC.out (by omega))
            have HD2 := Lib.hid (HDL.out (by omega))
            have hz' : 128 ≤ z := by omega
            clear HDN HNX HAC HDL HV HB hnb
            go_wp2_with fail
            go_quiet (fail)
            go_wp2_with fail
            go_quiet (fail)
            go_wp2_with fail
            go_roundw
            case rel =>
              refine ⟨k + 1, V + 2 ^ S * (z % 128), by omega, by first | rfl | (rw [HA2.out]; rfl) | rw [HA2.out], by rw [HS.out]; go_num, HD2.out.2, ?_, ?_, (below_drewNR hbw).setCell (p := ⟨R, 1, none⟩) (Nat.le_refl R) _⟩
              · show _ = _
                rw [HX.out, HJ.out, HS.out, Nat.add_assoc]
              · rw [show ((p + (k + 1) : Nat) : Int) = (j : Int) + 1 by rw [HJ.out]; omega]
                exact (rdr_drewN hr).set _
            case measure => simp [intOf]; omega
        · have hS1 : 0 < S := by omega
          by_cases hz0 : z = 0
          · have HX := Lib.hid (HB.out (.inr ⟨by omega, hz0⟩))
            have q2 : ((z : Int) == 0) = true := by rw [beq_iff_eq]; omega
            clear hS hk9 hz0 hk0
            clear HDN HNX HAC HDL HV HB
            go_wp2_with fail
            go_quiet (fail)
            go_wp2_with fail
            go_quiet (fail)
            go_wp2_with fail
            exact ⟨rfl, below_drewNR hbw, .inr ⟨HX.out, rfl⟩⟩
          · have q2 : ((z : Int) == 0) = false := by rw [beq_eq_false_iff_ne]; omega
            have hnb : ¬ (k = 9 ∧ 1 < z ∨ 0 < k ∧ z = 0) := by omega
            have hk8 : k ≤ 8 := by omega
            clear hS hk9 hz0 hk0
            by_cases hz : z < 128
            · have HX := Lib.hid (HDN.out hnb hz)
              have HA2 := Lib.hid (HAC.out (by omega))
              clear HDN HNX HAC HDL HV HB hnb
              go_wp2_with fail
              go_quiet (fail)
              go_wp2_with fail
              go_quiet (fail)
              go_wp2_with fail
              go_ret
              refine ⟨(below_drewNR hbw).setCell (p := ⟨R, 1, none⟩) (Nat.le_refl R) _, .inl ⟨_, _, HX.out, ?_, ?_⟩⟩
              · first | rfl | (rw [HA2.out]; rfl) | rw [HA2.out]
              · rw [show ((p + (k + 1) : Nat) : Int) = (j : Int) + 1 by rw [HJ.out]; omega]
                exact (rdr_drewN hr).set _
            · have HX := Lib.hid (HNX.out hnb (by omega))
              have HA2 := Lib.hid (HAC.out (by omega))
              have HD2 := Lib.hid (HDL.out (by omega))
              have hz' : 128 ≤ z := by omega
              clear HDN HNX HAC HDL HV HB hnb
              go_wp2_with fail
              go_quiet (fail)
              go_wp2_with fail
              go_quiet (fail)
              go_wp2_with fail
              go_roundw
              case rel =>
                refine ⟨k + 1, V + 2 ^ S * (z % 128), by omega, by first | rfl | (rw [HA2.out]; rfl) | rw [HA2.out], by rw [HS.out]; go_num, HD2.out.2, ?_, ?_, (below_drewNR hbw).setCell (p := ⟨R, 1, none⟩) (Nat.le_refl R) _⟩
                · show _ = _
                  rw [HX.out, HJ.out, HS.out, Nat.add_assoc]
                · rw [show ((p + (k + 1) : Nat) : Int) = (j : Int) + 1 by rw [HJ.out]; omega]
                  exact (rdr_drewN hr).set _
              case measure => simp [intOf]; omega
    · have hge : n ≤ j := by omega
      have HX : Hid (rdU 0 (bs.drop p) = none) := by
        show _ = _
        rw [HD.out, List.drop_of_length_le (by rw [← HN.out]; exact hge)]
        rfl
      have q : decide ((n : Int) ≤ (j : Int)) = true := decide_eq_true (by omega)
      go_wp2_with fail
      go_quiet (fail)
      go_wp2_with fail
      exact ⟨rfl, below_drewNR hbw, .inr ⟨HX.out, rfl⟩⟩
end Go.Proofs.YtoihfmjnonanjaaDoor
