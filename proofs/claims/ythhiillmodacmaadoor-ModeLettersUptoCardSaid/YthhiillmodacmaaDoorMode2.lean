/- What mode.Show, Form, Char and the reference's compute; henkanlaw07.works. -/
import Derived.Test.YthhiillmodacmaaDoorMode1
import Derived.Test.YthhiillmodacmaaDoorKanaZ
namespace Go.Proofs.YthhiillmodacmaaDoor
open Go.RowKit Go.Lib Go.Shelf Hk
set_option linter.unusedSimpArgs false
set_option linter.unusedVariables false
set_option maxRecDepth 100000

theorem ret_two {a b : ByteArray} {x y : Bool} (h : a = b) (k : x = y) : Ending.returned (.tuple #[.string a, .bool x]) = .returned (.tuple #[.string b, .bool y]) := by rw [h, k]
theorem u8_nat {z : Int} (h : (Lit.int .u8 z).wf = true) : ∃ c : Nat, c < 256 ∧ z = (c : Int) := by
  have hb : 0 ≤ z ∧ z ≤ 255 := by
    simp [Lit.wf, IntKind.min, IntKind.max, IntKind.bits, IntKind.signed] at h
    omega
  exact ⟨z.toNat, by omega, by omega⟩
def showD (m : Int) (s : ByteArray) : ByteArray := if m = 2 then kataS s else if m = 3 then halfS s else s
def formS (n : Int) (t r : ByteArray) : ByteArray := if n = 6 then hiraS (fullS t) else if n = 7 then kataS (fullS t) else if n = 8 then halfS t else if n = 9 then wideS r else if n = 10 then narrowS r else ⟨#[]⟩
def formB (n : Int) : Bool := decide (6 ≤ n ∧ n ≤ 10)
theorem formB_no {n : Int} (h6 : n ≠ 6) (h7 : n ≠ 7) (h8 : n ≠ 8) (h9 : n ≠ 9) (h10 : n ≠ 10) : formB n = false := decide_eq_false (by omega)
def chS (c : Nat) : ByteArray := bstr (encodeRune (c : Int))
def charS (m : Int) (c : Nat) : ByteArray := if c < 32 ∨ 126 < c then ⟨#[]⟩ else if m = 5 then chS c else if m = 4 then wideS (chS c) else ⟨#[]⟩
def charB (m : Int) (c : Nat) : Bool := decide (32 ≤ c ∧ c ≤ 126 ∧ (m = 4 ∨ m = 5))
theorem chS_size (c : Nat) : (chS c).size ≤ 4 := by unfold chS; rw [bstr_size]; exact (enc_len _).2

theorem show_calls (m : Int) (s : ByteArray) (w : World) (hs : s.size ≤ 1048576) (he : Env w) : Calls Tryd.prog 12 #[.int .i64 m, .string s] w fun e w' => e = .returned (.string (showD m s)) ∧ Below w.heap.size w w' := by
  by_cases h2 : m = 2
  · subst h2
    have HX : Hid (showD 2 s = kataS s) := rfl
    have C := Lib.hid (kata_calls s w (by omega) he)
    clear he
    go_enter Tryd.func12, Tryd.ntmps12
    go_wp2_with fail
    refine C.out.mono ?_
    rintro e w1 ⟨rfl, hb1⟩
    go_wp2_with fail
    go_ret
    exact ⟨by rw [HX.out]; rfl, hb1⟩
  · have q2 : (m == 2) = false := by simpa using h2
    by_cases h3 : m = 3
    · subst h3
      have HX : Hid (showD 3 s = halfS s) := rfl
      have C := Lib.hid (half_calls s w (by omega) he)
      clear h2
      clear he
      go_enter Tryd.func12, Tryd.ntmps12
      go_wp2_with fail
      refine C.out.mono ?_
      rintro e w1 ⟨rfl, hb1⟩
      go_wp2_with fail
      go_ret
      exact ⟨by rw [HX.out]; rfl, hb1⟩
    · have q3 : (m == 3) = false := by simpa using h3
      have HX : Hid (showD m s = s) := by show _ = _; unfold showD; rw [if_neg h2, if_neg h3]
      clear h2 h3
      clear he
      go_enter Tryd.func12, Tryd.ntmps12
      go_wp2_with fail
      go_ret
      exact ⟨by rw [HX.out]; rfl, Below.refl _ _⟩

theorem refShow_calls (m : Int) (s : ByteArray) (w : World) (hs : s.size ≤ 1048576) : Calls Tryd.prog 17 #[.int .i64 m, .string s] w fun e w' => e = .returned (.string (showD m s)) ∧ Below w.heap.size w w' := by
  by_cases h2 : m = 2
  · subst h2
    have HX : Hid (showD 2 s = kataS s) := rfl
    have C := Lib.hid (refKata_calls s w (by omega))
    go_enter Tryd.func17, Tryd.ntmps17
    go_wp2_with fail
    refine C.out.mono ?_
    rintro e w1 ⟨rfl, hb1⟩
    go_wp2_with fail
    go_ret
    exact ⟨by rw [HX.out]; rfl, hb1⟩
  · have q2 : (m == 2) = false := by simpa using h2
    by_cases h3 : m = 3
    · subst h3
      have HX : Hid (showD 3 s = halfS s) := rfl
      have C := Lib.hid (refHalf_calls s w (by omega))
      clear h2
      go_enter Tryd.func17, Tryd.ntmps17
      go_wp2_with fail
      refine C.out.mono ?_
      rintro e w1 ⟨rfl, hb1⟩
      go_wp2_with fail
      go_ret
      exact ⟨by rw [HX.out]; rfl, hb1⟩
    · have q3 : (m == 3) = false := by simpa using h3
      have HX : Hid (showD m s = s) := by show _ = _; unfold showD; rw [if_neg h2, if_neg h3]
      clear h2 h3
      go_enter Tryd.func17, Tryd.ntmps17
      go_wp2_with fail
      go_ret
      exact ⟨by rw [HX.out]; rfl, Below.refl _ _⟩

set_option maxHeartbeats 1000000 in
theorem form_calls (n : Int) (t r : ByteArray) (w : World) (ht : t.size ≤ 1048576) (hr : r.size ≤ 1048576) (he : Env w) : Calls Tryd.prog 13 #[.int .i64 n, .string t, .string r] w fun e w' => e = .returned (.tuple #[.string (formS n t r), .bool (formB n)]) ∧ Below w.heap.size w w' := by
  have HE := Lib.hid he
  clear he
  have hf := full_size t
  by_cases h6 : n = 6
  · subst h6
    have HX : Hid (formS 6 t r = hiraS (fullS t)) := rfl
    have C0 := Lib.hid (fun W (hW : Env W) => full_calls t W (by omega) hW)
    have C1 := Lib.hid (fun W (hW : Env W) => hira_calls (fullS t) W (by omega) hW)
    clear hf
    go_enter Tryd.func13, Tryd.ntmps13
    go_wp2_with fail
    refine (C0.out _ (HE.out)).mono ?_
    rintro e w1 ⟨rfl, hb1⟩
    go_wp2_with fail
    refine (C1.out _ (HE.out.below hb1)).mono ?_
    rintro e w2 ⟨rfl, hb2⟩
    replace hb2 := qtrans hb1 hb2
    go_wp2_with fail
    go_ret2
    exact ⟨ret_two HX.out.symm rfl, hb2⟩
  · have q6 : (n == 6) = false := by simpa using h6
    by_cases h7 : n = 7
    · subst h7
      have HX : Hid (formS 7 t r = kataS (fullS t)) := rfl
      have C0 := Lib.hid (fun W (hW : Env W) => full_calls t W (by omega) hW)
      have C1 := Lib.hid (fun W (hW : Env W) => kata_calls (fullS t) W (by omega) hW)
      clear hf h6
      go_enter Tryd.func13, Tryd.ntmps13
      go_wp2_with fail
      refine (C0.out _ (HE.out)).mono ?_
      rintro e w1 ⟨rfl, hb1⟩
      go_wp2_with fail
      refine (C1.out _ (HE.out.below hb1)).mono ?_
      rintro e w2 ⟨rfl, hb2⟩
      replace hb2 := qtrans hb1 hb2
      go_wp2_with fail
      go_ret2
      exact ⟨ret_two HX.out.symm rfl, hb2⟩
    · have q7 : (n == 7) = false := by simpa using h7
      by_cases h8 : n = 8
      · subst h8
        have HX : Hid (formS 8 t r = halfS t) := rfl
        have C0 := Lib.hid (fun W (hW : Env W) => half_calls t W (by omega) hW)
        clear hf h6 h7
        go_enter Tryd.func13, Tryd.ntmps13
        go_wp2_with fail
        refine (C0.out _ (HE.out)).mono ?_
        rintro e w1 ⟨rfl, hb1⟩
        go_wp2_with fail
        go_ret2
        exact ⟨ret_two HX.out.symm rfl, hb1⟩
      · have q8 : (n == 8) = false := by simpa using h8
        by_cases h9 : n = 9
        · subst h9
          have HX : Hid (formS 9 t r = wideS r) := rfl
          have C0 := Lib.hid (fun W (hW : Env W) => wide_calls r W (by omega) hW)
          clear hf h6 h7 h8
          go_enter Tryd.func13, Tryd.ntmps13
          go_wp2_with fail
          refine (C0.out _ (HE.out)).mono ?_
          rintro e w1 ⟨rfl, hb1⟩
          go_wp2_with fail
          go_ret2
          exact ⟨ret_two HX.out.symm rfl, hb1⟩
        · have q9 : (n == 9) = false := by simpa using h9
          by_cases h10 : n = 10
          · subst h10
            have HX : Hid (formS 10 t r = narrowS r) := rfl
            have C0 := Lib.hid (fun W (hW : Env W) => narrow_calls r W (by omega) hW)
            clear hf h6 h7 h8 h9
            go_enter Tryd.func13, Tryd.ntmps13
            go_wp2_with fail
            refine (C0.out _ (HE.out)).mono ?_
            rintro e w1 ⟨rfl, hb1⟩
            go_wp2_with fail
            go_ret2
            exact ⟨ret_two HX.out.symm rfl, hb1⟩
          · have q10 : (n == 10) = false := by simpa using h10
            have HX : Hid (formS n t r = ⟨#[]⟩) := by show _ = _; unfold formS; rw [if_neg h6, if_neg h7, if_neg h8, if_neg h9, if_neg h10]
            have HY := Lib.hid (formB_no h6 h7 h8 h9 h10)
            clear h6 h7 h8 h9 h10 hf
            go_enter Tryd.func13, Tryd.ntmps13
            go_wp2_with fail
            go_ret2
            exact ⟨ret_two HX.out.symm HY.out.symm, Below.refl _ _⟩

set_option maxHeartbeats 1000000 in
theorem refForm_calls (n : Int) (t r : ByteArray) (w : World) (ht : t.size ≤ 1048576) (hr : r.size ≤ 1048576) : Calls Tryd.prog 24 #[.int .i64 n, .string t, .string r] w fun e w' => e = .returned (.tuple #[.string (formS n t r), .bool (formB n)]) ∧ Below w.heap.size w w' := by
  have hf := full_size t
  by_cases h6 : n = 6
  · subst h6
    have HX : Hid (formS 6 t r = hiraS (fullS t)) := rfl
    have C0 := Lib.hid (fun W => refFull_calls t W (by omega))
    have C1 := Lib.hid (fun W => refHira_calls (fullS t) W (by omega))
    clear hf
    go_enter Tryd.func24, Tryd.ntmps24
    go_wp2_with fail
    refine (C0.out _ ).mono ?_
    rintro e w1 ⟨rfl, hb1⟩
    go_wp2_with fail
    refine (C1.out _ ).mono ?_
    rintro e w2 ⟨rfl, hb2⟩
    replace hb2 := qtrans hb1 hb2
    go_wp2_with fail
    go_ret2
    exact ⟨ret_two HX.out.symm rfl, hb2⟩
  · have q6 : (n == 6) = false := by simpa using h6
    by_cases h7 : n = 7
    · subst h7
      have HX : Hid (formS 7 t r = kataS (fullS t)) := rfl
      have C0 := Lib.hid (fun W => refFull_calls t W (by omega))
      have C1 := Lib.hid (fun W => refKata_calls (fullS t) W (by omega))
      clear hf h6
      go_enter Tryd.func24, Tryd.ntmps24
      go_wp2_with fail
      refine (C0.out _ ).mono ?_
      rintro e w1 ⟨rfl, hb1⟩
      go_wp2_with fail
      refine (C1.out _ ).mono ?_
      rintro e w2 ⟨rfl, hb2⟩
      replace hb2 := qtrans hb1 hb2
      go_wp2_with fail
      go_ret2
      exact ⟨ret_two HX.out.symm rfl, hb2⟩
    · have q7 : (n == 7) = false := by simpa using h7
      by_cases h8 : n = 8
      · subst h8
        have HX : Hid (formS 8 t r = halfS t) := rfl
        have C0 := Lib.hid (fun W => refHalf_calls t W (by omega))
        clear hf h6 h7
        go_enter Tryd.func24, Tryd.ntmps24
        go_wp2_with fail
        refine (C0.out _ ).mono ?_
        rintro e w1 ⟨rfl, hb1⟩
        go_wp2_with fail
        go_ret2
        exact ⟨ret_two HX.out.symm rfl, hb1⟩
      · have q8 : (n == 8) = false := by simpa using h8
        by_cases h9 : n = 9
        · subst h9
          have HX : Hid (formS 9 t r = wideS r) := rfl
          have C0 := Lib.hid (fun W => refWide_calls r W (by omega))
          clear hf h6 h7 h8
          go_enter Tryd.func24, Tryd.ntmps24
          go_wp2_with fail
          refine (C0.out _ ).mono ?_
          rintro e w1 ⟨rfl, hb1⟩
          go_wp2_with fail
          go_ret2
          exact ⟨ret_two HX.out.symm rfl, hb1⟩
        · have q9 : (n == 9) = false := by simpa using h9
          by_cases h10 : n = 10
          · subst h10
            have HX : Hid (formS 10 t r = narrowS r) := rfl
            have C0 := Lib.hid (fun W => refNarrow_calls r W (by omega))
            clear hf h6 h7 h8 h9
            go_enter Tryd.func24, Tryd.ntmps24
            go_wp2_with fail
            refine (C0.out _ ).mono ?_
            rintro e w1 ⟨rfl, hb1⟩
            go_wp2_with fail
            go_ret2
            exact ⟨ret_two HX.out.symm rfl, hb1⟩
          · have q10 : (n == 10) = false := by simpa using h10
            have HX : Hid (formS n t r = ⟨#[]⟩) := by show _ = _; unfold formS; rw [if_neg h6, if_neg h7, if_neg h8, if_neg h9, if_neg h10]
            have HY := Lib.hid (formB_no h6 h7 h8 h9 h10)
            clear h6 h7 h8 h9 h10 hf
            go_enter Tryd.func24, Tryd.ntmps24
            go_wp2_with fail
            go_ret2
            exact ⟨ret_two HX.out.symm HY.out.symm, Below.refl _ _⟩

theorem charS_out {m : Int} {c : Nat} (h : c < 32 ∨ 126 < c) : charS m c = ⟨#[]⟩ ∧ charB m c = false := by
  refine ⟨by unfold charS; rw [if_pos h], decide_eq_false (by omega)⟩
theorem charS_five {c : Nat} (h : ¬ (c < 32 ∨ 126 < c)) : charS 5 c = chS c ∧ charB 5 c = true := by
  refine ⟨by unfold charS; rw [if_neg h, if_pos rfl], decide_eq_true (by omega)⟩
theorem charS_four {c : Nat} (h : ¬ (c < 32 ∨ 126 < c)) : charS 4 c = wideS (chS c) ∧ charB 4 c = true := by
  refine ⟨by unfold charS; rw [if_neg h, if_neg (by decide), if_pos rfl], decide_eq_true (by omega)⟩
theorem charS_no {m : Int} {c : Nat} (h5 : m ≠ 5) (h4 : m ≠ 4) : charS m c = ⟨#[]⟩ ∧ charB m c = false := by
  refine ⟨by unfold charS; rw [if_neg h5, if_neg h4]; split <;> rfl, decide_eq_false (by omega)⟩
theorem utf8_ch {c : Nat} (h : c < 256) : Utf8.encode (c : Int) = chS c := utf8_encode c (by unfold isRune; omega)

set_option maxHeartbeats 1000000 in
theorem char_calls (m : Int) (c : Nat) (w : World) (hc : c < 256) (he : Env w) : Calls Tryd.prog 22 #[.int .i64 m, .int .u8 (c : Int)] w fun e w' => e = .returned (.tuple #[.string (charS m c), .bool (charB m c)]) ∧ Below w.heap.size w w' := by
  have C := Lib.hid fun (X : ByteArray) (hX : X.size ≤ 4) => wide_calls X w (Nat.le_trans hX (by decide)) he
  clear he
  by_cases h : c < 32 ∨ 126 < c
  · obtain ⟨h1, h2⟩ := charS_out (m := m) h
    have HX := Lib.hid h1
    have HY := Lib.hid h2
    clear h1 h2
    clear C
    rcases h with h | h
    · go_enter Tryd.func22, Tryd.ntmps22
      go_wp2_with fail
      go_ret2
      exact ⟨ret_two HX.out.symm HY.out.symm, Below.refl _ _⟩
    · go_enter Tryd.func22, Tryd.ntmps22
      go_wp2_with fail
      go_ret2
      exact ⟨ret_two HX.out.symm HY.out.symm, Below.refl _ _⟩
  · have hlo : 32 ≤ c := by omega
    have hhi : c ≤ 126 := by omega
    by_cases h5 : m = 5
    · subst h5
      obtain ⟨h1, h2⟩ := charS_five h
      have HX := Lib.hid h1
      have HY := Lib.hid h2
      clear h1 h2 h C
      go_enter Tryd.func22, Tryd.ntmps22
      go_wp2_with fail
      go_ret2
      exact ⟨ret_two (by rw [HX.out]; exact utf8_ch hc) HY.out.symm, Below.refl _ _⟩
    · have q5 : (m == 5) = false := by simpa using h5
      by_cases h4 : m = 4
      · subst h4
        obtain ⟨h1, h2⟩ := charS_four h
        have HX := Lib.hid h1
        have HY := Lib.hid h2
        clear h1 h2 h h5
        go_enter Tryd.func22, Tryd.ntmps22
        go_wp2_with fail
        refine (C.out _ (encode_size_le _)).mono ?_
        rintro e w1 ⟨rfl, hb1⟩
        go_wp2_with fail
        go_ret2
        exact ⟨ret_two (by rw [HX.out, utf8_ch hc]) HY.out.symm, hb1⟩
      · have q4 : (m == 4) = false := by simpa using h4
        obtain ⟨h1, h2⟩ := charS_no (c := c) h5 h4
        have HX := Lib.hid h1
        have HY := Lib.hid h2
        clear h1 h2 h h5 h4 C
        go_enter Tryd.func22, Tryd.ntmps22
        go_wp2_with fail
        go_ret2
        exact ⟨ret_two HX.out.symm HY.out.symm, Below.refl _ _⟩

set_option maxHeartbeats 1000000 in
theorem refChar_calls (m : Int) (c : Nat) (w : World) (hc : c < 256) : Calls Tryd.prog 23 #[.int .i64 m, .int .u8 (c : Int)] w fun e w' => e = .returned (.tuple #[.string (charS m c), .bool (charB m c)]) ∧ Below w.heap.size w w' := by
  by_cases h : c < 32 ∨ 126 < c
  · obtain ⟨h1, h2⟩ := charS_out (m := m) h
    have HX := Lib.hid h1
    have HY := Lib.hid h2
    clear h1 h2
    rcases h with h | h
    · go_enter Tryd.func23, Tryd.ntmps23
      go_wp2_with fail
      go_ret2
      exact ⟨ret_two HX.out.symm HY.out.symm, Below.refl _ _⟩
    · go_enter Tryd.func23, Tryd.ntmps23
      go_wp2_with fail
      go_ret2
      exact ⟨ret_two HX.out.symm HY.out.symm, Below.refl _ _⟩
  · have hlo : 32 ≤ c := by omega
    have hhi : c ≤ 126 := by omega
    have hcv := conv_own (own_whole (w := w) (base := w.heap.size) (e := 5) (size := 1) (n := 1) (byteCells [c.toUInt8]) (Nat.le_refl _) (by unfold maxLen; omega) rfl)
    rw [← byte_val hc, show bstr [c.toUInt8] = chS c by unfold chS; rw [enc_one c (by omega)]] at hcv
    have hbx : Below w.heap.size w (w.alloc (.cells #[.int .u8 (c : Int)] 5)) := (Below.refl _ _).alloc (Nat.le_refl _) _
    by_cases h5 : m = 5
    · subst h5
      obtain ⟨h1, h2⟩ := charS_five h
      have HX := Lib.hid h1
      have HY := Lib.hid h2
      clear h1 h2 h
      go_enter Tryd.func23, Tryd.ntmps23
      go_wp2_with fail
      go_ret2
      exact ⟨ret_two HX.out.symm HY.out.symm, hbx⟩
    · have q5 : (m == 5) = false := by simpa using h5
      have q5' : (m != 5) = true := by simpa using h5
      by_cases h4 : m = 4
      · subst h4
        obtain ⟨h1, h2⟩ := charS_four h
        have HX := Lib.hid h1
        have HY := Lib.hid h2
        have C := Lib.hid fun W => refWide_calls (chS c) W (Nat.le_trans (chS_size c) (by decide))
        clear h1 h2 h h5
        go_enter Tryd.func23, Tryd.ntmps23
        go_wp2_with fail
        refine (C.out _).mono ?_
        rintro e w1 ⟨rfl, hb1⟩
        go_wp2_with fail
        go_ret2
        exact ⟨ret_two HX.out.symm HY.out.symm, qtrans hbx hb1⟩
      · have q4 : (m == 4) = false := by simpa using h4
        have q4' : (m != 4) = true := by simpa using h4
        obtain ⟨h1, h2⟩ := charS_no (c := c) h5 h4
        have HX := Lib.hid h1
        have HY := Lib.hid h2
        clear h1 h2 h h5 h4
        go_enter Tryd.func23, Tryd.ntmps23
        go_wp2_with fail
        go_ret2
        exact ⟨ret_two HX.out.symm HY.out.symm, Below.refl _ _⟩

theorem lit_form : formS 6 ⟨#[227, 131, 139, 227, 129, 187, 227, 131, 179]⟩ ⟨#[110, 105, 104, 111, 110]⟩ = ⟨#[227, 129, 171, 227, 129, 187, 227, 130, 147]⟩ ∧ formB 6 = true := by decide +kernel
theorem lit_char : charS 4 97 = ⟨#[239, 189, 129]⟩ ∧ charB 4 97 = true := by decide +kernel
theorem lit_show : showD 3 ⟨#[227, 129, 139, 227, 129, 170]⟩ = ⟨#[239, 189, 182, 239, 190, 133]⟩ ∧ showD 1 ⟨#[227, 129, 139, 227, 129, 170]⟩ = ⟨#[227, 129, 139, 227, 129, 170]⟩ := by decide +kernel
set_option maxHeartbeats 2000000 in
theorem works_calls (w : World) (he : EnvM w) : Calls Tryd.prog 16 #[] w fun e w' => e = .returned (.bool true) ∧ Below w.heap.size w w' := by
  have HE := Lib.hid he
  have C1 := Lib.hid fun W (hW : EnvM W) => form_calls 6 ⟨#[227, 131, 139, 227, 129, 187, 227, 131, 179]⟩ ⟨#[110, 105, 104, 111, 110]⟩ W (by decide) (by decide) hW.1
  rw [lit_form.1, lit_form.2] at C1
  have C2 := Lib.hid fun W (hW : EnvM W) => char_calls 4 97 W (by decide) hW.1
  rw [lit_char.1, lit_char.2] at C2
  have C3 := Lib.hid fun W (hW : EnvM W) => show_calls 3 ⟨#[227, 129, 139, 227, 129, 170]⟩ W (by decide) hW.1
  rw [lit_show.1] at C3
  have C4 := Lib.hid fun W (hW : EnvM W) => show_calls 1 ⟨#[227, 129, 139, 227, 129, 170]⟩ W (by decide) hW.1
  rw [lit_show.2] at C4
  have C5 := Lib.hid fun W (hW : EnvM W) => toggle_calls 1 107 W hW.2
  rw [show toggleD 1 107 = 2 from rfl] at C5
  have C6 := Lib.hid fun W => roman_calls 3 W
  rw [show romanD 3 = true from rfl] at C6
  have C7 := Lib.hid fun W => roman_calls 5 W
  rw [show romanD 5 = false from rfl] at C7
  clear he
  go_enter Tryd.func16, Tryd.ntmps16
  go_wp2_with fail
  refine (C1.out _ HE.out).mono ?_
  rintro e w1 ⟨rfl, hb1⟩
  go_wp2_with fail
  refine (C2.out _ (HE.out.below hb1)).mono ?_
  rintro e w2 ⟨rfl, hb2⟩
  replace hb2 := qtrans hb1 hb2
  go_wp2_with fail
  refine (C3.out _ (HE.out.below hb2)).mono ?_
  rintro e w3 ⟨rfl, hb3⟩
  replace hb3 := qtrans hb2 hb3
  go_wp2_with fail
  refine (C4.out _ (HE.out.below hb3)).mono ?_
  rintro e w4 ⟨rfl, hb4⟩
  replace hb4 := qtrans hb3 hb4
  go_wp2_with fail
  refine (C5.out _ (HE.out.below hb4)).mono ?_
  rintro e w5 ⟨rfl, hb5⟩
  replace hb5 := qtrans hb4 hb5
  go_wp2_with fail
  refine (C6.out _).mono ?_
  rintro e w6 ⟨rfl, rfl⟩
  go_wp2_with fail
  refine (C7.out _).mono ?_
  rintro e w6 ⟨rfl, rfl⟩
  go_wp2_with fail
  go_ret
  exact ⟨rfl, hb5⟩
end Go.Proofs.YthhiillmodacmaaDoor
