/- What the functions of henkanref30 compute. -/
import Derived.Test.YtleflnbcgkfojaaDoorKeysR
namespace Go.Proofs.YtleflnbcgkfojaaDoor
open Go.RowKit Go.Lib Go.Shelf Hk
set_option linter.unusedSimpArgs false
set_option linter.unusedVariables false
set_option maxRecDepth 100000

def NoZero (s : ByteArray) (k : Nat) : Prop := ∀ j, j < k → (s.get! j).toNat ≠ 0
theorem get_list (s : ByteArray) (j : Nat) (h : j < s.size) : s.data.toList[j]? = some (s.get! j) := by
  have : s.get! j = s.data[j]! := rfl
  rw [this, getElem!_pos s.data j h]
  simp
theorem noZero_all {s : ByteArray} (h : NoZero s s.size) : s.data.toList.contains 0 = false := by
  rw [Bool.eq_false_iff]
  intro hc
  rw [List.contains_iff_mem] at hc
  obtain ⟨j, hj⟩ := List.mem_iff_getElem?.1 hc
  have hlt : j < s.size := by
    have := (List.getElem?_eq_some_iff.1 hj).1
    simpa using this
  rw [get_list s j hlt] at hj
  exact h j hlt (by rw [Option.some.inj hj]; rfl)
theorem zero_at {s : ByteArray} {j : Nat} (hj : j < s.size) (h : (s.get! j).toNat = 0) : s.data.toList.contains 0 = true := by
  rw [List.contains_iff_mem]
  refine List.mem_iff_getElem?.2 ⟨j, ?_⟩
  rw [get_list s j hj]
  congr 1
  exact UInt8.toNat_inj.1 h

theorem kpart_zero {l : List UInt8} (h : l.contains 0 = true) : kpart l = false := by unfold kpart; rw [h]; simp
theorem kpart_nz {l : List UInt8} (h : l.contains 0 = false) (h1 : l.isEmpty = false) : kpart l = validD l := by unfold kpart; rw [h, h1]; simp

set_option maxHeartbeats 1000000 in
theorem refPart_calls (s : ByteArray) (w : World) (hs : s.size ≤ 35184372088831) : Calls Tryd.prog 46 #[.string s] w fun e w' => e = .returned (.bool (kpart s.data.toList)) ∧ Below w.heap.size w w' := by
  have CV := Lib.hid fun W => refValid_calls s W hs
  go_enter Tryd.func46, Tryd.ntmps46
  go_wp2
  go_loop [3] (fun i => ∃ k : Nat, k ≤ s.size ∧ i = .int .i64 k ∧ NoZero s k) (fun i => s.size - (intOf i).toNat)
  case atStart => exact ⟨0, Nat.zero_le _, rfl, fun j h => by omega⟩
  case round =>
    obtain ⟨k, hk, rfl, hz⟩ := hrel
    by_cases hlt : k < s.size
    · obtain ⟨b, hb⟩ : ∃ b : Nat, (s.get! k).toNat = b := ⟨_, rfl⟩
      have hsk : s[k].toNat = b := by rw [← hb, get_of_lt s k hlt]
      have HB := Lib.hid hb
      clear hb
      by_cases hb0 : b = 0
      · have hbz : ((b : Int) == 0) = true := by simp [hb0]
        have HP : Hid (kpart s.data.toList = false) := kpart_zero (zero_at hlt (HB.out.trans hb0))
        clear hb0 hz
        go_wp2
        go_ret
        exact ⟨by rw [HP.out]; rfl, Below.refl _ _⟩
      · have hbz : ((b : Int) == 0) = false := by simp [hb0]
        go_wp2
        go_round
        case rel => exact ⟨k + 1, by omega, by go_num, fun j hj => by
          by_cases e : j = k
          · rw [e, HB.out]; exact hb0
          · exact hz j (by omega)⟩
        case measure => simp [intOf]; omega
    · obtain rfl : k = s.size := by omega
      have hc := noZero_all hz
      clear hz
      by_cases h0' : s.data.toList = []
      · have HP : Hid (kpart s.data.toList = false) := by show _ = _; rw [h0']; rfl
        have h0 : s.toList = [] := by rw [ByteArray.toList_eq]; exact h0'
        have h1 : s.toList.isEmpty = true := by rw [h0]; rfl
        clear h0' hc
        go_wp2_with fail
        go_ret
        exact ⟨by rw [HP.out]; rfl, Below.refl _ _⟩
      · have h1' : s.data.toList.isEmpty = false := by simpa using h0'
        have h1 : s.toList.isEmpty = false := by rw [ByteArray.toList_eq]; exact h1'
        have h0 : ¬ s.toList = [] := by rw [ByteArray.toList_eq]; exact h0'
        have HP : Hid (kpart s.data.toList = validD s.data.toList) := kpart_nz hc h1'
        clear hc h0' h1'
        go_wp2_with (go_at_call 53; refine (CV.out _).mono ?_; rintro e w1 ⟨rfl, hb1⟩)
        go_ret
        exact ⟨by rw [HP.out]; rfl, hb1⟩

theorem bcell {W w1 : World} (hb : Below W.heap.size W w1) : (∀ b o, b < W.heap.size → w1.cell? ⟨b, o, none⟩ = W.cell? ⟨b, o, none⟩) ∧ (∀ b o, b < W.heap.size → w1.frozen? ⟨b, o, none⟩ = W.frozen? ⟨b, o, none⟩) :=
  ⟨fun b o h => hb.cell (p := ⟨b, o, none⟩) h, fun b o h => hb.frozen (p := ⟨b, o, none⟩) h⟩

theorem below_mid1 {w w2 w3 : World} {o : Obj} (h : Below w.heap.size w w2) (k : Below (w2.alloc o).heap.size (w2.alloc o).drew w3) : Below w.heap.size w w3 :=
  qtrans (qtrans h ((Below.refl _ _).alloc (Nat.le_refl _) o)) (w1 := w2.alloc o) (k := ⟨k.os, k.tape, k.output, k.size, k.block⟩)
theorem below_mid2 {w w2 w3 : World} (h : Below w.heap.size w w2) (k : Below w2.heap.size w2.drew w3) (o : Obj) : Below w.heap.size w (w3.alloc o) :=
  qtrans (w1 := w3) (qtrans (w1 := w2) h ⟨k.os, k.tape, k.output, k.size, k.block⟩) ((Below.refl _ _).alloc (Nat.le_refl _) o)

/-- The string of one byte that lies in memory. -/
theorem one_byte (c : UInt8) (n : Int) (hn : n = (c.toNat : Int)) (g : Nat) (W : World) (h : W.cell? ⟨g, 0, none⟩ = some (.int .u8 n)) :
    (convert 52 9 (.slice (some ⟨g, 0, none⟩) 1 1)).run Tryd.prog W = .ok (.string ⟨#[c]⟩) W := by
  subst hn
  exact run_convert_bytes_back (P := Tryd.prog) W 52 9 5 ⟨g, 0, none⟩ 1 [c] Tryd.underlying52 Tryd.underlying5 Tryd.underlying9 (fun j hj => by
    have : j = 0 := by simp at hj; exact hj
    subst this
    exact h)

set_option maxHeartbeats 400000 in
theorem zero_calls (w : World) : Calls Tryd.prog 47 #[] w fun e w' => e = .returned (.string ⟨#[0]⟩) ∧ Below w.heap.size w w' := by
  have hcv := one_byte 0 0 rfl w.heap.size (w.alloc (.cells #[.int .u8 0] 5)) (by simp)
  go_enter Tryd.func47, Tryd.ntmps47
  go_wp2
  go_ret
  exact ⟨rfl, (Below.refl _ _).alloc (Nat.le_refl _) _⟩

set_option maxHeartbeats 1000000 in
theorem refMake_calls (k : Int) (a b : ByteArray) (w : World) (ha : a.size ≤ 35184372088831) (hb : b.size ≤ 35184372088831) :
    Calls Tryd.prog 38 #[.int .i64 k, .string a, .string b] w (MakePost k a b w) := by
  by_cases hk : k = 1 ∨ k = 2
  · cases hpa : kpart a.data.toList with
    | false =>
      have HN := Lib.hid (kmk_a k _ b.data.toList hpa)
      have cA := refPart_calls a w ha
      rw [hpa] at cA
      have CA := Lib.hid cA
      clear cA hpa
      rcases hk with rfl | rfl
      all_goals
        go_enter Tryd.func38, Tryd.ntmps38
        go_wp2_with fail
        refine CA.out.mono ?_
        rintro e w1 ⟨rfl, hb1⟩
        go_wp2_with fail
        go_ret2
        exact make_no HN.out hb1
    | true =>
      have cA := refPart_calls a w ha
      rw [hpa] at cA
      have CA := Lib.hid cA
      clear cA
      cases hpb : kpart b.data.toList with
      | false =>
        have HN := Lib.hid (kmk_b k a.data.toList _ hpb)
        have cB := fun W => refPart_calls b W hb
        simp only [hpb] at cB
        have CB := Lib.hid cB
        clear cB hpa hpb
        rcases hk with rfl | rfl
        all_goals
          go_enter Tryd.func38, Tryd.ntmps38
          go_wp2_with fail
          refine CA.out.mono ?_
          rintro e w1 ⟨rfl, hb1⟩
          go_wp2_with fail
          refine (CB.out _).mono ?_
          rintro e w2 ⟨rfl, hb2⟩
          go_wp2_with fail
          go_ret2
          exact make_no HN.out (qtrans hb1 hb2)
      | true =>
        have cB := fun W => refPart_calls b W hb
        simp only [hpb] at cB
        have CB := Lib.hid cB
        clear cB
        by_cases hlen : 398 < a.data.toList.length + b.data.toList.length
        · have HN := Lib.hid (kmk_long k _ _ hlen)
          have hlen2 : 398 < a.size + b.size := by simpa using hlen
          have hlen3 : 400 < (a.size : Int) + (b.size : Int) + 2 := by omega
          clear hpa hpb hlen
          rcases hk with rfl | rfl
          all_goals
            go_enter Tryd.func38, Tryd.ntmps38
            go_wp2_with fail
            refine CA.out.mono ?_
            rintro e w1 ⟨rfl, hb1⟩
            go_wp2_with fail
            refine (CB.out _).mono ?_
            rintro e w2 ⟨rfl, hb2⟩
            go_wp2_with fail
            go_ret2
            exact make_no HN.out (qtrans hb1 hb2)
        · have HY := Lib.hid (kmk_yes k _ _ hk hpa hpb (by omega))
          have hlen2 : ¬ 398 < a.size + b.size := by simpa using hlen
          have hlen3 : ¬ 400 < (a.size : Int) + (b.size : Int) + 2 := by omega
          clear hpa hpb hlen
          have z1 : ∀ c : UInt8, (⟨#[c]⟩ : ByteArray).size = 1 := fun _ => rfl
          have CZ := Lib.hid zero_calls
          rcases hk with rfl | rfl
          · go_enter Tryd.func38, Tryd.ntmps38
            go_wp2_with fail
            refine CA.out.mono ?_
            rintro e w1 ⟨rfl, hb1⟩
            go_wp2_with fail
            refine (CB.out _).mono ?_
            rintro e w2 ⟨rfl, hb2⟩
            have hb12 := qtrans hb1 hb2
            have hcv := one_byte 49 49 rfl
            have q1 : IntKind.i64.wrap 49 = 49 := by kernel_rfl
            have q2 : IntKind.u8.wrap 49 = 49 := by kernel_rfl
            clear CA CB hb1 hb2
            go_wp2_with fail
            go_region_with (go_at_call 47; refine (CZ.out _).mono ?_; rintro e w3 ⟨rfl, hb3⟩; obtain ⟨hc3, hf3⟩ := bcell hb3)
            all_goals
              go_wp2
              go_ret2
              refine make_yes HY.out (by simp [Go.Joins.data_append]) ?_
              first
                | exact below_mid1 hb12 hb3
                | exact below_mid2 hb12 hb3 _
          · go_enter Tryd.func38, Tryd.ntmps38
            go_wp2_with fail
            refine CA.out.mono ?_
            rintro e w1 ⟨rfl, hb1⟩
            go_wp2_with fail
            refine (CB.out _).mono ?_
            rintro e w2 ⟨rfl, hb2⟩
            have hb12 := qtrans hb1 hb2
            have hcv := one_byte 50 50 rfl
            have q1 : IntKind.i64.wrap 50 = 50 := by kernel_rfl
            have q2 : IntKind.u8.wrap 50 = 50 := by kernel_rfl
            clear CA CB hb1 hb2
            go_wp2_with fail
            go_region_with (go_at_call 47; refine (CZ.out _).mono ?_; rintro e w3 ⟨rfl, hb3⟩; obtain ⟨hc3, hf3⟩ := bcell hb3)
            all_goals
              go_wp2
              go_ret2
              refine make_yes HY.out (by simp [Go.Joins.data_append]) ?_
              first
                | exact below_mid1 hb12 hb3
                | exact below_mid2 hb12 hb3 _
  · have HN := Lib.hid (kmk_kind k a.data.toList b.data.toList (by omega))
    have h1 : (k == 1) = false := by simp; omega
    have h2 : (k == 2) = false := by simp; omega
    have h3 : (k != 1) = true := by simp; omega
    have h4 : (k != 2) = true := by simp; omega
    clear hk
    go_enter Tryd.func38, Tryd.ntmps38
    go_wp2_with fail
    go_ret2
    exact make_no HN.out (Below.refl _ _)
end Go.Proofs.YtleflnbcgkfojaaDoor
