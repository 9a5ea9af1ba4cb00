/- Proved: henkanlaw30.KeysOrder returns true for every four strings: the order of keys is that of their strings, and keys of words come before those of pairs. No condition of ours. -/
import Derived.Test.YtbdiimldociobaaDoorFrame
namespace Go.Proofs.YtbdiimldociobaaDoor
open Go.ChangeShapes Go.WideShapes Go.ChangeAt Go.RowKit Go.Lib Go.Shelf Hk
open Go.ChangeMaps (open_string shut_string)
set_option linter.unusedSimpArgs false
set_option linter.unusedVariables false
set_option maxRecDepth 100000

theorem u8_pos (y : UInt8) (h : y ≠ 0) : (0 : UInt8) < y := by
  rw [UInt8.lt_iff_toNat_lt]
  have : y.toNat ≠ 0 := fun e => h (UInt8.toNat_inj.1 e)
  simp
  omega
theorem u8_not_lt_zero (y : UInt8) : ¬ y < 0 := by
  rw [UInt8.lt_iff_toNat_lt]
  simp

/-- The order of two keys of one kind. -/
theorem less_keys : ∀ (a c b d : List UInt8), (0 : UInt8) ∉ a → (0 : UInt8) ∉ c → Op.bytesLess (a ++ 0 :: b) (c ++ 0 :: d) = (Op.bytesLess a c || ((a == c) && Op.bytesLess b d))
  | [], [], b, d, _, _ => by simp [Op.bytesLess]
  | [], y :: c, b, d, _, hc => by
    have : (0 : UInt8) < y := u8_pos y fun e => hc (by simp [e])
    simp [Op.bytesLess, this]
  | x :: a, [], b, d, ha, _ => by
    have h1 : ¬ x < 0 := u8_not_lt_zero x
    have h2 : x ≠ 0 := fun e => ha (by simp [e])
    simp [Op.bytesLess, h1, h2]
  | x :: a, y :: c, b, d, ha, hc => by
    have ih := less_keys a c b d (fun h => ha (by simp [h])) (fun h => hc (by simp [h]))
    simp only [List.cons_append, Op.bytesLess, ih]
    rw [show ((x :: a == y :: c) = ((x == y) && (a == c))) from rfl]
    cases decide (x < y) <;> cases (x == y) <;> cases Op.bytesLess a c <;> cases (a == c) <;> rfl
theorem less_cons (x : UInt8) (l m : List UInt8) : Op.bytesLess (x :: l) (x :: m) = Op.bytesLess l m := by
  have : ¬ x < x := by rw [UInt8.lt_iff_toNat_lt]; omega
  simp [Op.bytesLess, this]
theorem key_eq (a c b d : List UInt8) (ha : (0 : UInt8) ∉ a) (hc : (0 : UInt8) ∉ c) : (a ++ 0 :: b == c ++ 0 :: d) = ((a == c) && (b == d)) := by
  rw [Bool.eq_iff_iff, Bool.and_eq_true, beq_iff_eq, beq_iff_eq, beq_iff_eq]
  constructor
  · intro h
    have h1 := cut_app a b ha
    have h2 := cut_app c d hc
    rw [h] at h1
    exact ⟨h1.1.symm.trans h2.1, h1.2.symm.trans h2.2⟩
  · rintro ⟨rfl, rfl⟩; rfl
theorem cons_eq (x : UInt8) (l m : List UInt8) : (x :: l == x :: m) = (l == m) := by
  rw [show ((x :: l == x :: m) = ((x == x) && (l == m))) from rfl]
  simp

/-- The two keys of one kind, as the walk compares them. -/
theorem order_same {k : Int} {A B C D : ByteArray} {l m : List UInt8} (h1 : kmk k A.data.toList B.data.toList = some l) (h2 : kmk k C.data.toList D.data.toList = some m) :
    Op.bytesLess l m = (Op.bytesLess A.toList C.toList || ((A.toList == C.toList) && Op.bytesLess B.toList D.toList)) ∧ (l == m) = ((A.toList == C.toList) && (B.toList == D.toList)) := by
  obtain ⟨_, a1, _, _, rfl⟩ := kmk_some h1
  obtain ⟨_, c1, _, _, rfl⟩ := kmk_some h2
  simp only [ByteArray.toList_eq]
  rw [less_cons, cons_eq]
  exact ⟨less_keys _ _ _ _ (kpart_no_zero a1) (kpart_no_zero c1), key_eq _ _ _ _ (kpart_no_zero a1) (kpart_no_zero c1)⟩
theorem order_other {A B C D l m : List UInt8} (h1 : kmk 1 A B = some l) (h2 : kmk 2 C D = some m) : Op.bytesLess l m = true := by
  obtain ⟨_, _, _, _, rfl⟩ := kmk_some h1
  obtain ⟨_, _, _, _, rfl⟩ := kmk_some h2
  have : ((48 + (1 : Int)).toNat.toUInt8) < ((48 + (2 : Int)).toNat.toUInt8) := by decide
  simp only [Op.bytesLess, this, decide_true, Bool.true_or]
theorem less_irrefl_of_eq {a c : List UInt8} (h : (a == c) = true) : Op.bytesLess a c = false := by
  rw [beq_iff_eq] at h
  subst h
  induction a with
  | nil => rfl
  | cons x a ih => rw [less_cons]; exact ih

def Cells4 (w : World) (g : Nat) (A B C D : ByteArray) : Prop :=
  w.cell? ⟨g, 0, none⟩ = some (.string A) ∧ w.cell? ⟨g, 1, none⟩ = some (.string B) ∧ w.cell? ⟨g, 2, none⟩ = some (.string C) ∧ w.cell? ⟨g, 3, none⟩ = some (.string D)
theorem Cells4.below {w w' : World} {g : Nat} {A B C D : ByteArray} (h : Cells4 w g A B C D) (hb : Below w.heap.size w w') : Cells4 w' g A B C D :=
  ⟨cell_later hb h.1, cell_later hb h.2.1, cell_later hb h.2.2.1, cell_later hb h.2.2.2⟩

theorem MakePost_any (k : Int) (a b : ByteArray) : ∃ (S : ByteArray) (x : Bool), (∀ W, MakePost k a b W = fun e w' => e = .returned (.tuple #[.string S, .bool x]) ∧ Below W.heap.size W w') ∧ (x = true → ∃ l, kmk k a.data.toList b.data.toList = some l ∧ S.toList = l) := by
  cases h : kmk k a.data.toList b.data.toList with
  | none => exact ⟨_, _, fun W => MakePost_none h, fun e => by cases e⟩
  | some l => exact ⟨_, _, fun W => MakePost_some h, fun _ => ⟨l, rfl, by rw [ByteArray.toList_eq]⟩⟩

/-- The loop over the two kinds. -/
def OrderAt (w : World) (A B C D : ByteArray) (i : Value) (wr : World) : Prop :=
  ∃ n : Nat, 1 ≤ n ∧ n ≤ 3 ∧ i = .int .i64 (n : Int) ∧ Below w.heap.size w wr ∧ Cells4 wr w.heap.size A B C D

set_option maxHeartbeats 8000000 in
theorem keysOrder_calls (A B C D : ByteArray) (w : World) (hA : A.size ≤ 9223372036854775807) (hB : B.size ≤ 9223372036854775807) (hC : C.size ≤ 9223372036854775807) (hD : D.size ≤ 9223372036854775807) (he : Env w) :
    Calls Tryd.prog 7 #[.agg #[.string A, .string B, .string C, .string D]] w fun e w' => e = .returned (.bool true) ∧ Below w.heap.size w w' := by
  have HE := Lib.hid he
  clear he
  by_cases h1 : 1000 < A.size
  · go_enter Tryd.func7, Tryd.ntmps7
    go_wp2_with fail
    go_ret
    exact ⟨rfl, (Below.refl _ _).alloc (Nat.le_refl _) _⟩
  by_cases h2 : 1000 < B.size
  · go_enter Tryd.func7, Tryd.ntmps7
    go_wp2_with fail
    go_ret
    exact ⟨rfl, (Below.refl _ _).alloc (Nat.le_refl _) _⟩
  by_cases h3 : 1000 < C.size
  · go_enter Tryd.func7, Tryd.ntmps7
    go_wp2_with fail
    go_ret
    exact ⟨rfl, (Below.refl _ _).alloc (Nat.le_refl _) _⟩
  by_cases h4 : 1000 < D.size
  · go_enter Tryd.func7, Tryd.ntmps7
    go_wp2_with fail
    go_ret
    exact ⟨rfl, (Below.refl _ _).alloc (Nat.le_refl _) _⟩
  have d1 : decide (1000 < (A.size : Int)) = false := by simp; omega
  have d2 : decide (1000 < (B.size : Int)) = false := by simp; omega
  have d3 : decide (1000 < (C.size : Int)) = false := by simp; omega
  have d4 : decide (1000 < (D.size : Int)) = false := by simp; omega
  go_enter Tryd.func7, Tryd.ntmps7
  go_wp2_with fail
  clear d1 d2 d3 d4
  go_loopw [3] (fun i wr => OrderAt w A B C D i wr) (fun i _ => 3 - (intOf i).toNat)
  case atStart => exact ⟨1, by omega, by omega, rfl, (Below.refl _ _).alloc (Nat.le_refl _) _, by refine ⟨?_, ?_, ?_, ?_⟩ <;> simp⟩
  case round =>
    obtain ⟨n, hn1, hn3, rfl, hbw, hcs⟩ := hrel
    by_cases hlt : n ≤ 2
    · obtain ⟨S1, x1, hS1, hX1⟩ := MakePost_any (n : Int) A B
      obtain ⟨S2, x2, hS2, hX2⟩ := MakePost_any (n : Int) C D
      have C1 := Lib.hid fun W (hW : Env W) => make_calls (n : Int) A B W (by omega) (by omega) hW
      have C2 := Lib.hid fun W (hW : Env W) => make_calls (n : Int) C D W (by omega) (by omega) hW
      simp only [hS1] at C1
      simp only [hS2] at C2
      have HO : Hid (x1 = true → x2 = true → Op.bytesLess S1.toList S2.toList = (Op.bytesLess A.toList C.toList || ((A.toList == C.toList) && Op.bytesLess B.toList D.toList)) ∧ (S1.toList == S2.toList) = ((A.toList == C.toList) && (B.toList == D.toList))) := by
        intro e1 e2
        obtain ⟨l, hl, el⟩ := hX1 e1
        obtain ⟨m, hm, em⟩ := hX2 e2
        rw [el, em]
        exact order_same hl hm
      clear hS1 hS2 hX1 hX2
      obtain ⟨k0, k1, k2, k3⟩ := hcs
      cases x1 with
      | false =>
        clear HO
        go_wp2_with fail
        refine (C1.out _ (HE.out.below hbw)).mono ?_
        rintro e w1 ⟨rfl, hb1⟩
        have hcs1 : Cells4 w1 w.heap.size A B C D := Cells4.below ⟨k0, k1, k2, k3⟩ hb1
        have hbw1 := qtrans hbw hb1
        clear k0 k1 k2 k3 hb1 hbw
        obtain ⟨k0, k1, k2, k3⟩ := hcs1
        go_wp2_with fail
        refine (C2.out _ (HE.out.below hbw1)).mono ?_
        rintro e w2 ⟨rfl, hb2⟩
        have hcs2 : Cells4 w2 w.heap.size A B C D := Cells4.below ⟨k0, k1, k2, k3⟩ hb2
        have hbw2 := qtrans hbw1 hb2
        clear k0 k1 k2 k3 hb2 hbw1
        go_wp2_with fail
        go_roundw
        case rel => exact ⟨n + 1, by omega, by omega, by go_num, hbw2, hcs2⟩
        case measure => simp [intOf]; omega
      | true =>
      cases x2 with
      | false =>
        clear HO
        go_wp2_with fail
        refine (C1.out _ (HE.out.below hbw)).mono ?_
        rintro e w1 ⟨rfl, hb1⟩
        have hcs1 : Cells4 w1 w.heap.size A B C D := Cells4.below ⟨k0, k1, k2, k3⟩ hb1
        have hbw1 := qtrans hbw hb1
        clear k0 k1 k2 k3 hb1 hbw
        obtain ⟨k0, k1, k2, k3⟩ := hcs1
        go_wp2_with fail
        refine (C2.out _ (HE.out.below hbw1)).mono ?_
        rintro e w2 ⟨rfl, hb2⟩
        have hcs2 : Cells4 w2 w.heap.size A B C D := Cells4.below ⟨k0, k1, k2, k3⟩ hb2
        have hbw2 := qtrans hbw1 hb2
        clear k0 k1 k2 k3 hb2 hbw1
        go_wp2_with fail
        go_roundw
        case rel => exact ⟨n + 1, by omega, by omega, by go_num, hbw2, hcs2⟩
        case measure => simp [intOf]; omega
      | true =>
        obtain ⟨o1, o2⟩ := HO.out rfl rfl
        clear HO
        have y1 : ∀ y : Bool, (y != y) = false := fun y => by simp
        cases q1 : Op.bytesLess A.toList C.toList with
        | true =>
          have q2 : (A.toList == C.toList) = false := by
            cases q : (A.toList == C.toList) with
            | false => rfl
            | true => rw [less_irrefl_of_eq q] at q1; cases q1
          rw [q1, q2] at o1
          rw [q2] at o2
          simp only [Bool.true_or, Bool.false_and] at o1 o2
          go_wp2_with fail
          refine (C1.out _ (HE.out.below hbw)).mono ?_
          rintro e w1 ⟨rfl, hb1⟩
          have hcs1 : Cells4 w1 w.heap.size A B C D := Cells4.below ⟨k0, k1, k2, k3⟩ hb1
          have hbw1 := qtrans hbw hb1
          clear k0 k1 k2 k3 hb1 hbw
          obtain ⟨k0, k1, k2, k3⟩ := hcs1
          go_wp2_with fail
          refine (C2.out _ (HE.out.below hbw1)).mono ?_
          rintro e w2 ⟨rfl, hb2⟩
          have hcs2 : Cells4 w2 w.heap.size A B C D := Cells4.below ⟨k0, k1, k2, k3⟩ hb2
          have hbw2 := qtrans hbw1 hb2
          clear k0 k1 k2 k3 hb2 hbw1
          have HC2 := Lib.hid hcs2
          obtain ⟨k0, k1, k2, k3⟩ := hcs2
          go_wp2_with fail
          go_roundw
          case rel => exact ⟨n + 1, by omega, by omega, by go_num, hbw2, HC2.out⟩
          case measure => simp [intOf]; omega
        | false =>
          cases q2 : (A.toList == C.toList) with
          | false =>
            rw [q1, q2] at o1
            rw [q2] at o2
            simp only [Bool.false_or, Bool.false_and] at o1 o2
            go_wp2_with fail
            refine (C1.out _ (HE.out.below hbw)).mono ?_
            rintro e w1 ⟨rfl, hb1⟩
            have hcs1 : Cells4 w1 w.heap.size A B C D := Cells4.below ⟨k0, k1, k2, k3⟩ hb1
            have hbw1 := qtrans hbw hb1
            clear k0 k1 k2 k3 hb1 hbw
            obtain ⟨k0, k1, k2, k3⟩ := hcs1
            go_wp2_with fail
            refine (C2.out _ (HE.out.below hbw1)).mono ?_
            rintro e w2 ⟨rfl, hb2⟩
            have hcs2 : Cells4 w2 w.heap.size A B C D := Cells4.below ⟨k0, k1, k2, k3⟩ hb2
            have hbw2 := qtrans hbw1 hb2
            clear k0 k1 k2 k3 hb2 hbw1
            have HC2 := Lib.hid hcs2
            obtain ⟨k0, k1, k2, k3⟩ := hcs2
            go_wp2_with fail
            go_roundw
            case rel => exact ⟨n + 1, by omega, by omega, by go_num, hbw2, HC2.out⟩
            case measure => simp [intOf]; omega
          | true =>
            rw [q1, q2] at o1
            rw [q2] at o2
            simp only [Bool.false_or, Bool.true_and] at o1 o2
            go_wp2_with fail
            refine (C1.out _ (HE.out.below hbw)).mono ?_
            rintro e w1 ⟨rfl, hb1⟩
            have hcs1 : Cells4 w1 w.heap.size A B C D := Cells4.below ⟨k0, k1, k2, k3⟩ hb1
            have hbw1 := qtrans hbw hb1
            clear k0 k1 k2 k3 hb1 hbw
            obtain ⟨k0, k1, k2, k3⟩ := hcs1
            go_wp2_with fail
            refine (C2.out _ (HE.out.below hbw1)).mono ?_
            rintro e w2 ⟨rfl, hb2⟩
            have hcs2 : Cells4 w2 w.heap.size A B C D := Cells4.below ⟨k0, k1, k2, k3⟩ hb2
            have hbw2 := qtrans hbw1 hb2
            clear k0 k1 k2 k3 hb2 hbw1
            have HC2 := Lib.hid hcs2
            obtain ⟨k0, k1, k2, k3⟩ := hcs2
            go_wp2_with fail
            go_roundw
            case rel => exact ⟨n + 1, by omega, by omega, by go_num, hbw2, HC2.out⟩
            case measure => simp [intOf]; omega
    · obtain rfl : n = 3 := by omega
      obtain ⟨S1, x1, hS1, hX1⟩ := MakePost_any 1 A B
      obtain ⟨S2, x2, hS2, hX2⟩ := MakePost_any 2 C D
      have C1 := Lib.hid fun W (hW : Env W) => make_calls 1 A B W (by omega) (by omega) hW
      have C2 := Lib.hid fun W (hW : Env W) => make_calls 2 C D W (by omega) (by omega) hW
      have CW := Lib.hid works_calls
      simp only [hS1] at C1
      simp only [hS2] at C2
      have HO : Hid (x1 = true → x2 = true → Op.bytesLess S1.toList S2.toList = true) := by
        intro e1 e2
        obtain ⟨l, hl, el⟩ := hX1 e1
        obtain ⟨m, hm, em⟩ := hX2 e2
        rw [el, em]
        exact order_other hl hm
      clear hS1 hS2 hX1 hX2
      obtain ⟨k0, k1, k2, k3⟩ := hcs
      cases x1 with
      | false =>
        clear HO
        go_wp2_with fail
        refine (C1.out _ (HE.out.below hbw)).mono ?_
        rintro e w1 ⟨rfl, hb1⟩
        have hcs1 : Cells4 w1 w.heap.size A B C D := Cells4.below ⟨k0, k1, k2, k3⟩ hb1
        have hbw1 := qtrans hbw hb1
        clear k0 k1 k2 k3 hb1 hbw
        obtain ⟨k0, k1, k2, k3⟩ := hcs1
        go_wp2_with fail
        refine (C2.out _ (HE.out.below hbw1)).mono ?_
        rintro e w2 ⟨rfl, hb2⟩
        have hbw2 := qtrans hbw1 hb2
        clear k0 k1 k2 k3 hb2 hbw1
        go_wp2_with fail
        refine (CW.out _ (HE.out.below hbw2)).mono ?_
        rintro e w3 ⟨rfl, hb3⟩
        have hbw3 := qtrans hbw2 hb3
        go_wp2_with fail
        go_ret
        exact ⟨rfl, hbw3⟩
      | true =>
      cases x2 with
      | false =>
        clear HO
        go_wp2_with fail
        refine (C1.out _ (HE.out.below hbw)).mono ?_
        rintro e w1 ⟨rfl, hb1⟩
        have hcs1 : Cells4 w1 w.heap.size A B C D := Cells4.below ⟨k0, k1, k2, k3⟩ hb1
        have hbw1 := qtrans hbw hb1
        clear k0 k1 k2 k3 hb1 hbw
        obtain ⟨k0, k1, k2, k3⟩ := hcs1
        go_wp2_with fail
        refine (C2.out _ (HE.out.below hbw1)).mono ?_
        rintro e w2 ⟨rfl, hb2⟩
        have hbw2 := qtrans hbw1 hb2
        clear k0 k1 k2 k3 hb2 hbw1
        go_wp2_with fail
        refine (CW.out _ (HE.out.below hbw2)).mono ?_
        rintro e w3 ⟨rfl, hb3⟩
        have hbw3 := qtrans hbw2 hb3
        go_wp2_with fail
        go_ret
        exact ⟨rfl, hbw3⟩
      | true =>
        have o1 := HO.out rfl rfl
        clear HO
        go_wp2_with fail
        refine (C1.out _ (HE.out.below hbw)).mono ?_
        rintro e w1 ⟨rfl, hb1⟩
        have hcs1 : Cells4 w1 w.heap.size A B C D := Cells4.below ⟨k0, k1, k2, k3⟩ hb1
        have hbw1 := qtrans hbw hb1
        clear k0 k1 k2 k3 hb1 hbw
        obtain ⟨k0, k1, k2, k3⟩ := hcs1
        go_wp2_with fail
        refine (C2.out _ (HE.out.below hbw1)).mono ?_
        rintro e w2 ⟨rfl, hb2⟩
        have hbw2 := qtrans hbw1 hb2
        clear k0 k1 k2 k3 hb2 hbw1
        go_wp2_with fail
        refine (CW.out _ (HE.out.below hbw2)).mono ?_
        rintro e w3 ⟨rfl, hb3⟩
        have hbw3 := qtrans hbw2 hb3
        go_wp2_with fail
        go_ret
        exact ⟨rfl, hbw3⟩

theorem keysOrder_lifted (os : Os) (started : os.Started) (H : Type) (enc : TypeId × Value → H) :
    ReturnsInHanded {} Tryd.checked os 7 .any (fun w args => (Rows.keysOrderSpec.pre enc Tryd.prog Tryd.f7 Rows.keysOrderRow.domain false w args ∧ laidMetH Tryd.prog laidOf w) ∧ sizedMet enc Tryd.prog Tryd.f7 (OpenSpec.ofChange Rows.keysOrderSpec) false w args)
      (Rows.keysOrderSpec.post enc Tryd.prog Tryd.f7 false true false false) := by
  refine returns_shaped (C := Tryd.checked) (X := fun w _ => laidMetH Tryd.prog laidOf w) (fun _ _ _ hh h => h.of_heap hh) own started (by kernel_rfl) Tryd.func7
    (ChangeSpec.witness_shaped (enc := enc) (C := Tryd.checked) (os := os) (X := fun w _ => laidMetH Tryd.prog laidOf w) false (World.laidAll Tryd.prog os laidOf) #[.agg #[.string ⟨#[]⟩, .string ⟨#[]⟩, .string ⟨#[]⟩, .string ⟨#[]⟩]] 8 (World.laidAll_os _ _ _)
      (World.shaped_of_ZipB (by kernel_rfl) (by kernel_rfl)) (by kernel_rfl) (by kernel_rfl) (by kernel_rfl)
      (by rw [MakeChecks.laidMetH_plain _ _ _ laidOf_plain]; exact laidMet_laidAll _ (by kernel_rfl) (by kernel_rfl))) ?_
  intro W base args ds gs before hval0 hW _ hL hsh
  have hval : ∀ (j : Nat) t v, Tryd.f7.params[j]? = some t → args[j]? = some v → Value.okWide Tryd.prog W .any base t v := hval0
  have hW' := hW
  obtain ⟨p, q, hA0, hV, rfl, _, _⟩ := hW
  have hA : DataW.TrodAll enc Tryd.prog W 0 (fun _ => true) true Tryd.f7.params.toList args.toList ds p := hA0
  have hpar : Tryd.f7.params = #[31] := by kernel_rfl
  rw [hpar] at hA hval
  obtain ⟨v0, d0, hargs, rfl, h0⟩ := trodAll_one hA
  obtain rfl : args = #[v0] := by first | exact hargs | (cases args; simp_all)
  obtain ⟨c0, c1, c2, c3, y0, y1, y2, y3, m, rfl, rfl, rfl, hy0, hy1, hy2, hy3⟩ := Go.Joins.open_agg4 Tryd.underlying31 (by kernel_rfl) (by kernel_rfl) (hval 0 31 v0 rfl rfl) h0
  obtain ⟨s0, e0, rfl, u0⟩ := DataW.trod_string Tryd.underlying9 hy0
  obtain ⟨s1, e1, rfl, u1⟩ := DataW.trod_string Tryd.underlying9 hy1
  obtain ⟨s2, e2, rfl, u2⟩ := DataW.trod_string Tryd.underlying9 hy2
  obtain ⟨s3, e3, rfl, u3⟩ := DataW.trod_string Tryd.underlying9 hy3
  simp at e0 e1 e2 e3
  subst e0 e1 e2 e3
  refine (keysOrder_calls s0 s1 s2 s3 W (by simpa [maxLen] using u0) (by simpa [maxLen] using u1) (by simpa [maxLen] using u2) (by simpa [maxLen] using u3) (env_of hL hsh)).mono fun e W' ⟨he, hbl⟩ => ?_
  subst he
  exact ⟨_, rfl, law_post rfl rfl (by kernel_rfl) hW' rfl rfl rfl hbl⟩

theorem keysOrder_row : Rows.KeysOrderSaid :=
  OpenClaim.holds_of_wide 7 Tryd.f7 rfl rfl rfl rfl rfl rfl rfl ⟨rfl, rfl, rfl, rfl, rfl⟩ rfl rfl rfl rfl rfl (by kernel_rfl) Tryd.func7 (by kernel_rfl)
    (of_decide_eq_true (by kernel_rfl)) (by unfold Func.isWrapper; first | (rw [if_pos (by decide +kernel)]; kernel_rfl) | (rw [if_neg (by decide +kernel)]; exact ⟨rfl, rfl⟩))
    (fun os started H enc _ => keysOrder_lifted os started H enc)
theorem keysOrder_holds : Rows.KeysOrderCardSaid :=
  Claim7.holds_tied_plain_at .later [] [.data, .pinned] true Rows.keysOrderCard.stood.harness false keysOrder_row (fun _ h => by cases h) (by kernel_rfl) (fun _ h => by cases h) keysOrder_row_tie rfl ⟨rfl, rfl⟩ (by kernel_rfl) rfl
    (fun f fn hf hfn => by
      obtain rfl : f = 7 := Option.some.inj ((show Tryd.prog.funcNamed Rows.keysOrderRow.func = some 7 by kernel_rfl).symm.trans hf) |>.symm
      obtain rfl : fn = Tryd.f7 := (Option.some.inj (Tryd.func7.symm.trans hfn)).symm
      exact ⟨by kernel_rfl, fun j t ht => by
        have hpar : Tryd.f7.params = #[31] := by kernel_rfl
        rw [hpar] at ht
        have hm : t ∈ [31] := by simpa using Array.mem_of_getElem? ht
        have hall : ([31].all fun u => !Tryd.prog.wantsStandIn u) = true := by kernel_rfl
        exact (show Tryd.prog.wantsStandIn t = false by simpa using List.all_eq_true.1 hall t hm)⟩)
    (by kernel_rfl)
#print axioms keysOrder_holds
end Go.Proofs.YtbdiimldociobaaDoor
