/- Proved: henkanlaw15.PosOwn returns true for every list: arguments stay as they are, and results are new memory. No condition of ours. -/
import Derived.Test.YtoihfmjnonanjaaDoorBulkU
import Derived.Test.YtoihfmjnonanjaaDoorPosR
namespace Go.Proofs.YtoihfmjnonanjaaDoor
open Go.ChangeShapes Go.WideShapes Go.ChangeAt Go.RowKit Go.Lib Go.Shelf Hk
open Go.ChangeMaps (open_string shut_string)
set_option linter.unusedSimpArgs false
set_option linter.unusedVariables false
set_option maxRecDepth 100000

/-- A row that stands: m cells at least in block g, whatever they hold. -/
def Std (W : World) (base : Nat) (e : TypeId) (g m : Nat) : Prop := base ≤ g ∧ ∃ cs : Array Value, W.heap[g]? = some (Obj.cells cs e (0, 0)) ∧ m ≤ cs.size
theorem Std.of_own {W : World} {base n size : Nat} {e : TypeId} {v : Value} {xs : List Value} (h : W.ownsRow base e size v n xs) (hn : 0 < n) : ∃ g c, v = .slice (some ⟨g, 0, none⟩) n c ∧ n ≤ c ∧ c ≤ maxLen ∧ Std W base e g (n * size) := by
  rcases h.2 with ⟨_, rfl⟩ | ⟨g, cap, cur, rfl, hb, hg, h1, h2, h3, _⟩
  · omega
  · exact ⟨g, cap, rfl, h1, h2, hb, cur, hg, by rw [h3]; exact Nat.mul_le_mul_right _ h1⟩
theorem Std.below {W W' : World} {base g m : Nat} {e : TypeId} (h : Std W base e g m) (hb : Below W.heap.size W W') : Std W' base e g m := by
  obtain ⟨h1, cs, h2, h3⟩ := h
  exact ⟨h1, cs, (hb.block g (Array.getElem?_eq_some_iff.1 h2).1).trans h2, h3⟩
theorem Std.set {W : World} {base g m : Nat} {e : TypeId} (h : Std W base e g m) (b off : Nat) (v : Value) : Std (W.setCell ⟨b, off, none⟩ v) base e g m := by
  obtain ⟨h1, cs, h2, h3⟩ := h
  by_cases hb : g = b
  · subst hb
    obtain ⟨hlt, hk⟩ := Array.getElem?_eq_some_iff.1 h2
    refine ⟨h1, cs.setIfInBounds off v, ?_, by simpa using h3⟩
    show (W.heap.modify g _)[g]? = _
    rw [Array.getElem?_eq_getElem (by rw [Array.size_modify]; exact hlt), Array.getElem_modify_self, hk]
    rfl
  · exact ⟨h1, cs, (Below.heap_setCell W ⟨b, off, none⟩ v g hb).trans h2, h3⟩
theorem Std.cell {W : World} {base g m : Nat} {e : TypeId} (h : Std W base e g m) {j : Nat} (hj : j < m) : (∃ u, W.cell? ⟨g, j, none⟩ = some u) ∧ W.frozen? ⟨g, j, none⟩ = false := by
  obtain ⟨h1, cs, h2, h3⟩ := h
  have hjc : j < cs.size := by omega
  refine ⟨⟨cs[j], ?_⟩, ?_⟩
  · simp [World.cell?, h2, hjc]
  · simp [World.frozen?, h2]
theorem Std.low {W : World} {base b g m : Nat} {e : TypeId} (h : Std W base e g m) (hb : b ≤ base) : Std W b e g m := ⟨Nat.le_trans hb h.1, h.2⟩
/-- The loops that write into the results. -/
def OwAt (w : World) (n m gx gy gb : Nat) (i : Value) (wr : World) : Prop :=
  ∃ k : Nat, k ≤ n ∧ i = .int .i64 (k : Int) ∧ Below w.heap.size w wr ∧ Std wr w.heap.size 33 gx (n * 2) ∧ Std wr w.heap.size 33 gy (n * 2) ∧ Std wr w.heap.size 5 gb (m * 1)
theorem enc_first {l : List P2} (h : okB l = true) : ∃ c : UInt8, (encL l)[0]? = some c ∧ 0 < c.toNat ∧ 0 < (encL l).length := by
  have h1 := (of_decide_eq_true h).1
  have h2 := ok_len h
  have e : encL l = l.length.toUInt8 :: l.flatMap elL := by
    unfold encL uintL
    rw [uintF_small (by omega)]
    rfl
  rw [e]
  exact ⟨_, rfl, by rw [toU8_toNat _ (by omega)]; omega, by simp⟩
theorem own_print {l : List P2} (h : okB l = true) : parseD (printB l) = (l, 0, 0) ∧ (printB l).size ≤ 1048576 := by
  have hp : printB l = ⟨(printL l).toArray⟩ := by unfold printB; rw [if_pos h]
  have hlen := printL_length l fun p hp => ((of_decide_eq_true h).2.2.2.1 p hp).1
  have := ok_len h
  rw [hp]
  refine ⟨parseL_printL l h, ?_⟩
  rw [size_list]
  show (printL l).length ≤ _
  omega
theorem pcells_ones (l : List P2) : ∀ u ∈ pcells l, u.oneCell' = true := by
  intro u hu
  simp only [pcells, List.mem_flatMap] at hu
  obtain ⟨c, _, h⟩ := hu
  simp at h
  rcases h with rfl | rfl <;> rfl
set_option maxHeartbeats 8000000 in
theorem posOwn_calls (A : Option Addr) (cap : Nat) (l : List P2) (w : World) (hl : Lies w w.heap.size 2 A l.length (pcells l)) (hc : l.length ≤ cap) (hm : cap ≤ maxLen) (hr : l.length * 24 ≤ 140737488351232) (hf : Fit l) (he : Env w) :
    Calls Tryd.prog 13 #[.slice A l.length cap] w fun e w' => e = .returned (.bool true) ∧ Below w.heap.size w w' := by
  obtain ⟨i0, hi, hz0, hz1, hz2⟩ := info_parts Tryd.info33
  have hn : l.length ≤ maxLen := by omega
  have HE := Lib.hid he
  have CW := Lib.hid works_calls
  have HL := Lib.hid hl
  have C1 := Lib.hid fun (W : World) (h : Lies W W.heap.size 2 A l.length (pcells l)) (he : Env W) => print_calls A cap l W h hn he
  have C2 := Lib.hid fun (W : World) (h : Lies W W.heap.size 2 A l.length (pcells l)) => encode_calls A cap l W h hn
  have C3 := Lib.hid fun (W : World) (h : Lies W W.heap.size 2 A l.length (pcells l)) => find_calls A cap l ⟨#[120]⟩ W h hn
  have CS := Lib.hid fun A' c' (W : World) (h1 : Lies W W.heap.size 2 A' l.length (pcells l)) (h2 : Lies W W.heap.size 2 A l.length (pcells l)) => same_calls A' A c' cap l W _ _ h1 h2 (by unfold maxLen at hn; omega)
  unfold EncPost at C2
  have bx : Below w.heap.size w (w.alloc (.cells #[] 33)) := (Below.refl _ _).alloc (Nat.le_refl _) _
  have ox : (w.alloc (.cells #[] 33)).ownsRow w.heap.size 33 2 (.slice (some ⟨w.heap.size, 0, none⟩) 0 0) 0 [] := World.ownsRow_made w #[] 0 (Nat.le_refl _) (by unfold maxLen; omega) (by simp)
  have lx := hl.below bx
  have ho := pcells_ones l
  cases hok : okB l with
  | false =>
    rw [checkI_no hok] at C1 C2
    rw [encB_no hok] at C2
    generalize printB l = S at *
    generalize findI l _ = fi at *
    generalize findB l _ = fb at *
    clear he hl hf hc hm hok
    obtain ⟨n, hnn⟩ : ∃ n, n = l.length := ⟨_, rfl⟩
    rw [← hnn] at C1 C2 C3 CS HL hn hr lx ⊢
    clear hnn
    generalize pcells l = xs at *
    go_enter Tryd.func13, Tryd.ntmps13
    go_wp2_with (at_builtin; refine wpList_append_lies _ rfl _ _ 24 rfl w.heap.size 33 i0 (.agg #[.string ⟨#[]⟩, .int .i64 0]) 2 24 Tryd.underlying24 hi hz0 hz1 hz2 rfl (by omega) _ 0 [] rfl ox w.heap.size A n cap xs rfl lx ho ?l1 ?l2 ?l3 ?_)
    case l1 => omega
    case l2 => omega
    case l3 => simp
    intro vo w0 ho0 hg0
    have hb0 : Below w.heap.size w w0 := bx.grown hg0 (by simp) fun k hk => (ox.lt k hk).1
    obtain ⟨Ai, ci, rfl, _, _, ki⟩ := own_lies ho0
    have KI := Lib.hid ki
    clear hg0 bx ox lx ho ho0 ki
    go_wp2_with fail
    refine (C1.out _ ((HL.out.below hb0).up hb0.size) (HE.out.below hb0)).mono ?_
    rintro e w1 ⟨rfl, hb1⟩
    replace KI := Lib.hid ((KI.out.below hb1).up hb1.size)
    replace hb1 := qtrans hb0 hb1
    clear hb0
    go_wp2_with fail
    refine (C2.out _ ((HL.out.below hb1).up hb1.size)).mono ?_
    rintro e w2 ⟨v2, rfl, _, hb2⟩
    replace KI := Lib.hid ((KI.out.below hb2).up hb2.size)
    replace hb2 := qtrans hb1 hb2
    clear hb1
    go_wp2_with fail
    refine (C3.out _ ((HL.out.below hb2).up hb2.size)).mono ?_
    rintro e w3 ⟨rfl, hb3⟩
    replace KI := Lib.hid ((KI.out.below hb3).up hb3.size)
    replace hb3 := qtrans hb2 hb3
    clear hb2
    go_wp2_with fail
    refine (CS.out _ _ _ KI.out ((HL.out.below hb3).up hb3.size)).mono ?_
    rintro e w4 ⟨rfl, hb4⟩
    replace KI := Lib.hid ((KI.out.below hb4).up hb4.size)
    replace hb4 := qtrans hb3 hb4
    clear hb3
    go_wp2_with fail
    refine (CS.out _ _ _ KI.out ((HL.out.below hb4).up hb4.size)).mono ?_
    rintro e w5 ⟨rfl, hb5⟩
    replace hb5 := qtrans hb4 hb5
    clear hb4 KI
    go_wp2_with fail
    refine (CW.out _ (HE.out.below hb5)).mono ?_
    rintro e w6 ⟨rfl, hb6⟩
    replace hb6 := qtrans hb5 hb6
    clear hb5
    go_wp2_with fail
    go_ret
    exact ⟨rfl, hb6⟩
  | true =>
    obtain ⟨hpp, hps⟩ := own_print hok
    obtain ⟨c, hc0, hc1, hzl⟩ := enc_first hok
    have h64 := ok_len hok
    have hn1 : 0 < l.length := (of_decide_eq_true hok).1
    have CP := Lib.hid fun (W : World) (h : Env W) => parse_calls (printB l) W (by omega) h
    have CD := Lib.hid fun A' n' c (W : World) (h : Lies W W.heap.size 1 A' n' (byteCells (encL l))) (hn' : n' = (encL l).length) (hc' : n' ≤ c) (hm' : c ≤ maxLen) => decode_calls A' n' c (encL l) W h hn' hc' hm'
    unfold ParsePost at CP
    unfold DecPost at CD
    rw [hpp] at CP
    rw [decR_some (decL_encL l hok), decE_some (decL_encL l hok)] at CD
    rw [checkI_yes hok] at C1 C2
    rw [encB_ok hok] at C2
    simp only at CP
    clear he hl hf hc hm hok hpp hps
    generalize printB l = S at *
    generalize findI l _ = fi at *
    generalize findB l _ = fb at *
    obtain ⟨z, hz⟩ : ∃ z, z = encL l := ⟨_, rfl⟩
    rw [← hz] at C2 CD hc0 hzl
    clear hz
    obtain ⟨n, hnn⟩ : ∃ n, n = l.length := ⟨_, rfl⟩
    rw [← hnn] at C1 C2 C3 CP CD CS HL hn hr lx hn1 h64 ⊢
    clear hnn
    generalize pcells l = xs at *
    have hcz : (byteCells z)[0]? = some (.int .u8 (c.toNat : Int)) := by simp [byteCells, hc0]
    obtain ⟨m, hmm⟩ : ∃ m, m = z.length := ⟨_, rfl⟩
    have HM := Lib.hid hmm
    rw [← hmm] at C2 hzl
    clear hc0 hmm
    generalize byteCells z = zs at *
    have hcl := c.toNat_lt
    obtain ⟨fb0, hfb0⟩ : ∃ fb0, fb0 = c.toNat := ⟨_, rfl⟩
    rw [← hfb0] at hcz hc1 hcl
    clear hfb0
    go_enter Tryd.func13, Tryd.ntmps13
    go_wp2_with (at_builtin; refine wpList_append_lies _ rfl _ _ 24 rfl w.heap.size 33 i0 (.agg #[.string ⟨#[]⟩, .int .i64 0]) 2 24 Tryd.underlying24 hi hz0 hz1 hz2 rfl (by omega) _ 0 [] rfl ox w.heap.size A n cap xs rfl lx ho ?l1 ?l2 ?l3 ?_)
    case l1 => omega
    case l2 => omega
    case l3 => simp
    intro vo w0 ho0 hg0
    have hb0 : Below w.heap.size w w0 := bx.grown hg0 (by simp) fun k hk => (ox.lt k hk).1
    obtain ⟨Ai, ci, rfl, _, _, ki⟩ := own_lies ho0
    have KI := Lib.hid ki
    clear hg0 bx ox lx ho ho0 ki
    go_wp2_with fail
    refine (C1.out _ ((HL.out.below hb0).up hb0.size) (HE.out.below hb0)).mono ?_
    rintro e w1 ⟨rfl, hb1⟩
    replace KI := Lib.hid ((KI.out.below hb1).up hb1.size)
    replace hb1 := qtrans hb0 hb1
    clear hb0
    go_wp2_with fail
    refine (C2.out _ ((HL.out.below hb1).up hb1.size)).mono ?_
    rintro e w2 ⟨v2, rfl, ho2, hb2⟩
    have k2 := ho2
    obtain ⟨gb, cb, rfl, hcb1, hcb2, sb⟩ := Std.of_own ho2 hzl
    have SB := Lib.hid (sb.low hb1.size)
    have K2 := Lib.hid (Lies.of_own k2)
    have Q := Lib.hid (And.intro hcb1 hcb2)
    replace KI := Lib.hid ((KI.out.below hb2).up hb2.size)
    replace hb2 := qtrans hb1 hb2
    clear hb1 ho2 k2 sb hcb1 hcb2
    go_wp2_with fail
    refine (C3.out _ ((HL.out.below hb2).up hb2.size)).mono ?_
    rintro e w3 ⟨rfl, hb3⟩
    replace KI := Lib.hid ((KI.out.below hb3).up hb3.size)
    replace K2 := Lib.hid ((K2.out.below hb3).up hb3.size)
    replace SB := Lib.hid (SB.out.below hb3)
    replace hb3 := qtrans hb2 hb3
    clear hb2
    go_wp2_with fail
    refine (CS.out _ _ _ KI.out ((HL.out.below hb3).up hb3.size)).mono ?_
    rintro e w4 ⟨rfl, hb4⟩
    replace K2 := Lib.hid ((K2.out.below hb4).up hb4.size)
    replace SB := Lib.hid (SB.out.below hb4)
    replace hb4 := qtrans hb3 hb4
    clear hb3 KI
    go_wp2_with fail
    refine (CP.out _ (HE.out.below hb4)).mono ?_
    rintro e w5 ⟨v5, rfl, ho5, hb5⟩
    obtain ⟨gx, cx, rfl, _, _, sx⟩ := Std.of_own ho5 hn1
    have SX := Lib.hid (sx.low hb4.size)
    replace K2 := Lib.hid ((K2.out.below hb5).up hb5.size)
    replace SB := Lib.hid (SB.out.below hb5)
    replace hb5 := qtrans hb4 hb5
    clear hb4 ho5 sx
    go_wp2_with fail
    refine (CD.out _ _ _ _ K2.out HM.out Q.out.1 Q.out.2).mono ?_
    rintro e w6 ⟨v6, rfl, ho6, hb6⟩
    obtain ⟨gy, cy, rfl, _, _, sy⟩ := Std.of_own ho6 hn1
    have SY := Lib.hid (sy.low hb5.size)
    replace SX := Lib.hid (SX.out.below hb6)
    replace SB := Lib.hid (SB.out.below hb6)
    replace hb6 := qtrans hb5 hb6
    have HB6 := Lib.hid hb6
    clear hb5 ho6 sy K2 Q HM hb6
    go_wp2_with fail
    go_loopw [62] (fun i wr => OwAt w n m gx gy gb i wr) (fun i _ => n - (intOf i).toNat)
    case atStart => exact ⟨0, Nat.zero_le _, rfl, HB6.out, SX.out, SY.out, SB.out⟩
    case round =>
      obtain ⟨k, hk, rfl, hbw, sx, sy, sb⟩ := hrel
      by_cases hlt : k < n
      · obtain ⟨⟨u, c0⟩, f0⟩ := sx.cell (j := k * 2) (by omega)
        have hge : w.heap.size ≤ gx := sx.1
        have SX := Lib.hid sx
        have SY := Lib.hid sy
        have SB := Lib.hid sb
        clear sx sy sb
        go_wp2_with fail
        go_roundw
        case rel => exact ⟨k + 1, by omega, by go_num, hbw.setCell (p := ⟨gx, k * 2, none⟩) hge _, SX.out.set _ _ _, SY.out.set _ _ _, SB.out.set _ _ _⟩
        case measure => simp [intOf]; omega
      · have SX := Lib.hid sx
        have SY := Lib.hid sy
        have SB := Lib.hid sb
        have hbw62 := hbw
        clear sx sy sb hbw
        go_wp2_with fail
        go_loopw [72] (fun i wr => OwAt w n m gx gy gb i wr) (fun i _ => n - (intOf i).toNat)
        case atStart => exact ⟨0, Nat.zero_le _, rfl, hbw62, SX.out, SY.out, SB.out⟩
        case round =>
          obtain ⟨k, hk, rfl, hbw, sx, sy, sb⟩ := hrel
          by_cases hlt : k < n
          · obtain ⟨⟨u, c0⟩, f0⟩ := sy.cell (j := k * 2 + 1) (by omega)
            have hge : w.heap.size ≤ gy := sy.1
            have SX := Lib.hid sx
            have SY := Lib.hid sy
            have SB := Lib.hid sb
            clear sx sy sb
            go_wp2_with fail
            go_roundw
            case rel => exact ⟨k + 1, by omega, by go_num, hbw.setCell (p := ⟨gy, k * 2 + 1, none⟩) hge _, SX.out.set _ _ _, SY.out.set _ _ _, SB.out.set _ _ _⟩
            case measure => simp [intOf]; omega
          · obtain ⟨⟨u, c0⟩, f0⟩ := sb.cell (j := 0) (by omega)
            have hbf := hbw.setCell (p := ⟨gb, 0, none⟩) sb.1 (.int .u8 0)
            clear sx sy sb hbw
            go_wp2_with fail
            generalize World.setCell _ _ _ = wf at *
            clear c0 f0
            refine (C2.out _ ((HL.out.below hbf).up hbf.size)).mono ?_
            rintro e w7 ⟨v7, rfl, ho7, hb7⟩
            obtain ⟨A7, c7, rfl, _, _, k7⟩ := own_lies ho7
            have K7 := Lib.hid k7
            replace hb7 := qtrans hbf hb7
            clear hbf ho7 k7
            go_wp2_with fail
            refine (CP.out _ (HE.out.below hb7)).mono ?_
            rintro e w8 ⟨v8, rfl, ho8, hb8⟩
            obtain ⟨A8, c8, rfl, _, _, k8⟩ := own_lies ho8
            have K8 := Lib.hid k8
            replace K7 := Lib.hid ((K7.out.below hb8).up hb8.size)
            replace hb8 := qtrans hb7 hb8
            clear hb7 ho8 k8
            go_wp2_with fail
            refine (CS.out _ _ _ K8.out ((HL.out.below hb8).up hb8.size)).mono ?_
            rintro e w9 ⟨rfl, hb9⟩
            obtain ⟨b7, o7, rfl, _, c0⟩ := (K7.out.below hb9).at1 (k := 0) hzl hcz
            have q7 : ((fb0 : Int) != 0) = true := by rw [bne_iff_ne]; omega
            replace hb9 := qtrans hb8 hb9
            clear hb8 K8 K7
            simp only [Nat.add_zero] at c0
            go_wp2_with fail
            refine (CW.out _ (HE.out.below hb9)).mono ?_
            rintro e w10 ⟨rfl, hb10⟩
            replace hb10 := qtrans hb9 hb10
            clear hb9
            go_wp2_with fail
            go_ret
            exact ⟨rfl, hb10⟩

theorem posOwn_lifted (os : Os) (started : os.Started) (H : Type) (enc : TypeId × Value → H) :
    ReturnsInHanded {} Tryd.checked os 13 .any (fun w args => (Rows.posOwnSpec.pre enc Tryd.prog Tryd.f13 Rows.posOwnRow.domain false w args ∧ laidMetH Tryd.prog laidOf w) ∧ sizedMet enc Tryd.prog Tryd.f13 (OpenSpec.ofChange Rows.posOwnSpec) false w args)
      (Rows.posOwnSpec.post enc Tryd.prog Tryd.f13 false true false false) := by
  refine returns_shaped (C := Tryd.checked) (X := fun w _ => laidMetH Tryd.prog laidOf w) (fun _ _ _ hh h => h.of_heap hh) own started (by kernel_rfl) Tryd.func13
    (ChangeSpec.witness_shaped (enc := enc) (C := Tryd.checked) (os := os) (X := fun w _ => laidMetH Tryd.prog laidOf w) false (World.laidAll Tryd.prog os laidOf) #[.slice none 0 0] 8 (World.laidAll_os _ _ _)
      (World.shaped_of_ZipB (by kernel_rfl) (by kernel_rfl)) (by kernel_rfl) (by kernel_rfl) (by kernel_rfl)
      (by rw [MakeChecks.laidMetH_plain _ _ _ laidOf_plain]; exact laidMet_laidAll _ (by kernel_rfl) (by kernel_rfl))) ?_
  intro W base args ds gs before hval0 hW hz hL hsh
  have hval : ∀ (j : Nat) t v, Tryd.f13.params[j]? = some t → args[j]? = some v → Value.okWide Tryd.prog W .any base t v := hval0
  have hW' := hW
  obtain ⟨p, q, hA0, hV, rfl, _, _⟩ := hW
  have hA : DataW.TrodAll enc Tryd.prog W 0 (fun _ => true) true Tryd.f13.params.toList args.toList ds p := hA0
  have hpar : Tryd.f13.params = #[24] := by kernel_rfl
  rw [hpar] at hA hval
  obtain ⟨v0, d0, hargs, rfl, h0⟩ := trodAll_one hA
  obtain rfl : args = #[v0] := by first | exact hargs | (cases args; simp_all)
  obtain ⟨A0, cap0, ss0, rfl, hc0, hm0, hl0, hb0, he0⟩ := open_pos (j := 0) (hval 0 24 v0 rfl rfl) h0 hz rfl rfl
  refine (posOwn_calls A0 cap0 ss0 W hl0 hc0 hm0 hb0 he0 (env_of hL hsh)).mono fun e W' ⟨he, hbl⟩ => ?_
  subst he
  exact ⟨_, rfl, law_post rfl rfl (by kernel_rfl) hW' rfl rfl rfl hbl⟩

theorem posOwn_row : Rows.PosOwnSaid :=
  OpenClaim.holds_of_wide 13 Tryd.f13 rfl rfl rfl rfl rfl rfl rfl ⟨rfl, rfl, rfl, rfl, rfl⟩ rfl rfl rfl rfl rfl (by kernel_rfl) Tryd.func13 (by kernel_rfl)
    (of_decide_eq_true (by kernel_rfl)) (by unfold Func.isWrapper; first | (rw [if_pos (by decide +kernel)]; kernel_rfl) | (rw [if_neg (by decide +kernel)]; exact ⟨rfl, rfl⟩))
    (fun os started H enc _ => posOwn_lifted os started H enc)
theorem posOwn_holds : Rows.PosOwnCardSaid :=
  Claim7.holds_tied_plain_at .later [] [.data, .widerDeep, .pinned] true Rows.posOwnCard.stood.harness true posOwn_row (fun _ h => by cases h) (by kernel_rfl) (fun _ h => by cases h) posOwn_row_tie rfl ⟨rfl, rfl⟩ (by kernel_rfl) rfl
    (fun f fn hf hfn => by
      obtain rfl : f = 13 := Option.some.inj ((show Tryd.prog.funcNamed Rows.posOwnRow.func = some 13 by kernel_rfl).symm.trans hf) |>.symm
      obtain rfl : fn = Tryd.f13 := (Option.some.inj (Tryd.func13.symm.trans hfn)).symm
      exact ⟨by kernel_rfl, fun j t ht => by
        have hpar : Tryd.f13.params = #[24] := by kernel_rfl
        rw [hpar] at ht
        have hm : t ∈ [24] := by simpa using Array.mem_of_getElem? ht
        have hall : ([24].all fun u => !Tryd.prog.wantsStandIn u) = true := by kernel_rfl
        exact (show Tryd.prog.wantsStandIn t = false by simpa using List.all_eq_true.1 hall t hm)⟩)
    (by kernel_rfl)
#print axioms posOwn_holds
end Go.Proofs.YtoihfmjnonanjaaDoor
