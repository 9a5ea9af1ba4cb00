/- Proved: henkanlaw15.PosBack returns true for every list: a valid list that is printed or encoded is read back. No condition of ours. -/
import Derived.Test.YtoihfmjnonanjaaDoorBulkU
import Derived.Test.YtoihfmjnonanjaaDoorPosR
namespace Go.Proofs.YtoihfmjnonanjaaDoor
open Go.ChangeShapes Go.WideShapes Go.ChangeAt Go.RowKit Go.Lib Go.Shelf Hk
open Go.ChangeMaps (open_string shut_string)
set_option linter.unusedSimpArgs false
set_option linter.unusedVariables false
set_option maxRecDepth 100000

theorem parse_printB {l : List P2} (h : okB l = true) : parseD (printB l) = (l, 0, 0) ∧ (printB l).size ≤ 1048576 := by
  have hp : printB l = ⟨(printL l).toArray⟩ := by unfold printB; rw [if_pos h]
  have hlen := printL_length l fun p hp => ((of_decide_eq_true h).2.2.2.1 p hp).1
  have := ok_len h
  rw [hp]
  refine ⟨parseL_printL l h, ?_⟩
  rw [size_list]
  show (printL l).length ≤ _
  omega
set_option maxHeartbeats 4000000 in
theorem posBack_calls (A : Option Addr) (cap : Nat) (l : List P2) (w : World) (hl : Lies w w.heap.size 2 A l.length (pcells l)) (hc : l.length ≤ cap) (hm : cap ≤ maxLen) (hr : l.length * 24 ≤ 140737488351232) (hf : Fit l) (he : Env w) :
    Calls Tryd.prog 12 #[.slice A l.length cap] w fun e w' => e = .returned (.bool true) ∧ Below w.heap.size w w' := by
  have hn : l.length ≤ maxLen := by omega
  have HE := Lib.hid he
  have CW := Lib.hid works_calls
  have HL := Lib.hid hl
  have C1 := Lib.hid (print_calls A cap l w hl hn he)
  have C2 := Lib.hid fun (W : World) (h : Lies W W.heap.size 2 A l.length (pcells l)) => encode_calls A cap l W h hn
  have C3 := Lib.hid fun (W : World) (h : Lies W W.heap.size 2 A l.length (pcells l)) => check_calls A cap l W h hn
  unfold EncPost at C2
  cases hok : okB l with
  | false =>
    rw [checkI_no hok] at C1 C2 C3
    rw [encB_no hok] at C2
    generalize printB l = S at *
    clear he hl hf hc hm hr hok
    obtain ⟨n, hnn⟩ : ∃ n, n = l.length := ⟨_, rfl⟩
    rw [← hnn] at C1 C2 C3 HL hn ⊢
    clear hnn
    go_enter Tryd.func12, Tryd.ntmps12
    go_wp2_with fail
    refine C1.out.mono ?_
    rintro e w1 ⟨rfl, hb1⟩
    go_wp2_with fail
    refine (C2.out _ ((HL.out.below hb1).up hb1.size)).mono ?_
    rintro e w2 ⟨v2, rfl, _, hb2⟩
    replace hb2 := qtrans hb1 hb2
    clear hb1
    go_wp2_with fail
    refine (C3.out _ ((HL.out.below hb2).up hb2.size)).mono ?_
    rintro e w3 ⟨rfl, hb3⟩
    replace hb3 := qtrans hb2 hb3
    clear hb2
    go_wp2_with fail
    refine (CW.out _ (HE.out.below hb3)).mono ?_
    rintro e w4 ⟨rfl, hb4⟩
    replace hb4 := qtrans hb3 hb4
    clear hb3
    go_wp2_with fail
    go_ret
    exact ⟨rfl, hb4⟩
  | true =>
    obtain ⟨hpp, hps⟩ := parse_printB hok
    have CP := Lib.hid fun (W : World) (h : Env W) => parse_calls (printB l) W (by omega) h
    have CD := Lib.hid fun A' n' c (W : World) (h : Lies W W.heap.size 1 A' n' (byteCells (encL l))) (hn' : n' = (encL l).length) (hc' : n' ≤ c) (hm' : c ≤ maxLen) => decode_calls A' n' c (encL l) W h hn' hc' hm'
    have CS := Lib.hid fun A' c' (W : World) (h1 : Lies W W.heap.size 2 A' l.length (pcells l)) (h2 : Lies W W.heap.size 2 A l.length (pcells l)) => same_calls A' A c' cap l W _ _ h1 h2 (by unfold maxLen at hn; omega)
    unfold ParsePost at CP
    unfold DecPost at CD
    rw [hpp] at CP
    rw [decR_some (decL_encL l hok), decE_some (decL_encL l hok)] at CD
    rw [checkI_yes hok] at C1 C2 C3
    rw [encB_ok hok] at C2
    simp only at CP
    clear he hl hf hc hm hr hok hpp hps
    generalize printB l = S at *
    obtain ⟨z, hz⟩ : ∃ z, z = encL l := ⟨_, rfl⟩
    rw [← hz] at C2 CD
    clear hz
    obtain ⟨n, hnn⟩ : ∃ n, n = l.length := ⟨_, rfl⟩
    rw [← hnn] at C1 C2 C3 CP CD CS HL hn ⊢
    clear hnn
    go_enter Tryd.func12, Tryd.ntmps12
    go_wp2_with fail
    refine C1.out.mono ?_
    rintro e w1 ⟨rfl, hb1⟩
    go_wp2_with fail
    refine (C2.out _ ((HL.out.below hb1).up hb1.size)).mono ?_
    rintro e w2 ⟨v2, rfl, ho2, hb2⟩
    obtain ⟨A2, c2, rfl, q1, q2, k2⟩ := own_lies ho2
    replace hb2 := qtrans hb1 hb2
    have K2 := Lib.hid k2
    have Q := Lib.hid (And.intro q1 q2)
    clear hb1 ho2 k2 q1 q2
    obtain ⟨m, hmm⟩ : ∃ m, m = z.length := ⟨_, rfl⟩
    have HM := Lib.hid hmm
    rw [← hmm] at K2 Q ⊢
    clear hmm
    go_wp2_with fail
    refine (C3.out _ ((HL.out.below hb2).up hb2.size)).mono ?_
    rintro e w3 ⟨rfl, hb3⟩
    replace K2 := Lib.hid ((K2.out.below hb3).up hb3.size)
    replace hb3 := qtrans hb2 hb3
    clear hb2
    go_wp2_with fail
    refine (CP.out _ (HE.out.below hb3)).mono ?_
    rintro e w4 ⟨v4, rfl, ho4, hb4⟩
    obtain ⟨A4, c4, rfl, _, _, k4⟩ := own_lies ho4
    have K4 := Lib.hid k4
    replace K2 := Lib.hid ((K2.out.below hb4).up hb4.size)
    replace hb4 := qtrans hb3 hb4
    clear hb3 k4 ho4
    go_wp2_with fail
    refine (CD.out _ _ _ _ K2.out HM.out Q.out.1 Q.out.2).mono ?_
    rintro e w5 ⟨v5, rfl, ho5, hb5⟩
    obtain ⟨A5, c5, rfl, _, _, k5⟩ := own_lies ho5
    have K5 := Lib.hid k5
    replace K4 := Lib.hid ((K4.out.below hb5).up hb5.size)
    replace hb5 := qtrans hb4 hb5
    clear hb4 k5 ho5 K2
    go_wp2_with fail
    refine (CS.out _ _ _ K4.out ((HL.out.below hb5).up hb5.size)).mono ?_
    rintro e w6 ⟨rfl, hb6⟩
    replace K5 := Lib.hid ((K5.out.below hb6).up hb6.size)
    replace hb6 := qtrans hb5 hb6
    clear hb5 K4
    go_wp2_with fail
    refine (CS.out _ _ _ K5.out ((HL.out.below hb6).up hb6.size)).mono ?_
    rintro e w7 ⟨rfl, hb7⟩
    replace hb7 := qtrans hb6 hb7
    clear hb6 K5
    go_wp2_with fail
    refine (CW.out _ (HE.out.below hb7)).mono ?_
    rintro e w8 ⟨rfl, hb8⟩
    replace hb8 := qtrans hb7 hb8
    go_wp2_with fail
    go_ret
    exact ⟨rfl, hb8⟩

theorem posBack_lifted (os : Os) (started : os.Started) (H : Type) (enc : TypeId × Value → H) :
    ReturnsInHanded {} Tryd.checked os 12 .any (fun w args => (Rows.posBackSpec.pre enc Tryd.prog Tryd.f12 Rows.posBackRow.domain false w args ∧ laidMetH Tryd.prog laidOf w) ∧ sizedMet enc Tryd.prog Tryd.f12 (OpenSpec.ofChange Rows.posBackSpec) false w args)
      (Rows.posBackSpec.post enc Tryd.prog Tryd.f12 false true false false) := by
  refine returns_shaped (C := Tryd.checked) (X := fun w _ => laidMetH Tryd.prog laidOf w) (fun _ _ _ hh h => h.of_heap hh) own started (by kernel_rfl) Tryd.func12
    (ChangeSpec.witness_shaped (enc := enc) (C := Tryd.checked) (os := os) (X := fun w _ => laidMetH Tryd.prog laidOf w) false (World.laidAll Tryd.prog os laidOf) #[.slice none 0 0] 8 (World.laidAll_os _ _ _)
      (World.shaped_of_ZipB (by kernel_rfl) (by kernel_rfl)) (by kernel_rfl) (by kernel_rfl) (by kernel_rfl)
      (by rw [MakeChecks.laidMetH_plain _ _ _ laidOf_plain]; exact laidMet_laidAll _ (by kernel_rfl) (by kernel_rfl))) ?_
  intro W base args ds gs before hval0 hW hz hL hsh
  have hval : ∀ (j : Nat) t v, Tryd.f12.params[j]? = some t → args[j]? = some v → Value.okWide Tryd.prog W .any base t v := hval0
  have hW' := hW
  obtain ⟨p, q, hA0, hV, rfl, _, _⟩ := hW
  have hA : DataW.TrodAll enc Tryd.prog W 0 (fun _ => true) true Tryd.f12.params.toList args.toList ds p := hA0
  have hpar : Tryd.f12.params = #[24] := by kernel_rfl
  rw [hpar] at hA hval
  obtain ⟨v0, d0, hargs, rfl, h0⟩ := trodAll_one hA
  obtain rfl : args = #[v0] := by first | exact hargs | (cases args; simp_all)
  obtain ⟨A0, cap0, ss0, rfl, hc0, hm0, hl0, hb0, he0⟩ := open_pos (j := 0) (hval 0 24 v0 rfl rfl) h0 hz rfl rfl
  refine (posBack_calls A0 cap0 ss0 W hl0 hc0 hm0 hb0 he0 (env_of hL hsh)).mono fun e W' ⟨he, hbl⟩ => ?_
  subst he
  exact ⟨_, rfl, law_post rfl rfl (by kernel_rfl) hW' rfl rfl rfl hbl⟩

theorem posBack_row : Rows.PosBackSaid :=
  OpenClaim.holds_of_wide 12 Tryd.f12 rfl rfl rfl rfl rfl rfl rfl ⟨rfl, rfl, rfl, rfl, rfl⟩ rfl rfl rfl rfl rfl (by kernel_rfl) Tryd.func12 (by kernel_rfl)
    (of_decide_eq_true (by kernel_rfl)) (by unfold Func.isWrapper; first | (rw [if_pos (by decide +kernel)]; kernel_rfl) | (rw [if_neg (by decide +kernel)]; exact ⟨rfl, rfl⟩))
    (fun os started H enc _ => posBack_lifted os started H enc)
theorem posBack_holds : Rows.PosBackCardSaid :=
  Claim7.holds_tied_plain_at .later [] [.data, .widerDeep, .pinned] true Rows.posBackCard.stood.harness true posBack_row (fun _ h => by cases h) (by kernel_rfl) (fun _ h => by cases h) posBack_row_tie rfl ⟨rfl, rfl⟩ (by kernel_rfl) rfl
    (fun f fn hf hfn => by
      obtain rfl : f = 12 := Option.some.inj ((show Tryd.prog.funcNamed Rows.posBackRow.func = some 12 by kernel_rfl).symm.trans hf) |>.symm
      obtain rfl : fn = Tryd.f12 := (Option.some.inj (Tryd.func12.symm.trans hfn)).symm
      exact ⟨by kernel_rfl, fun j t ht => by
        have hpar : Tryd.f12.params = #[24] := by kernel_rfl
        rw [hpar] at ht
        have hm : t ∈ [24] := by simpa using Array.mem_of_getElem? ht
        have hall : ([24].all fun u => !Tryd.prog.wantsStandIn u) = true := by kernel_rfl
        exact (show Tryd.prog.wantsStandIn t = false by simpa using List.all_eq_true.1 hall t hm)⟩)
    (by kernel_rfl)
#print axioms posBack_holds
end Go.Proofs.YtoihfmjnonanjaaDoor
