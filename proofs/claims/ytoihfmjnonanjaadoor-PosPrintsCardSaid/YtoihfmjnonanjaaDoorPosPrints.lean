/- Proved: henkanlaw15.PosPrints returns true for every list: Check and Print return what the reference returns. No condition of ours. -/
import Derived.Test.YtoihfmjnonanjaaDoorBulkP
import Derived.Test.YtoihfmjnonanjaaDoorPosS
namespace Go.Proofs.YtoihfmjnonanjaaDoor
open Go.ChangeShapes Go.WideShapes Go.ChangeAt Go.RowKit Go.Lib Go.Shelf Hk
open Go.ChangeMaps (open_string shut_string)
set_option linter.unusedSimpArgs false
set_option linter.unusedVariables false
set_option maxRecDepth 100000

set_option maxHeartbeats 1000000 in
theorem posPrints_calls (A : Option Addr) (cap : Nat) (l : List P2) (w : World) (hl : Lies w w.heap.size 2 A l.length (pcells l)) (hc : l.length ≤ cap) (hm : cap ≤ maxLen) (hr : l.length * 24 ≤ 140737488351232) (hf : Fit l) (he : Env w) :
    Calls Tryd.prog 9 #[.slice A l.length cap] w fun e w' => e = .returned (.bool true) ∧ Below w.heap.size w w' := by
  have hn : l.length ≤ maxLen := by omega
  have HE := Lib.hid he
  have CW := Lib.hid works_calls
  have HL := Lib.hid hl
  have C1 := Lib.hid (print_calls A cap l w hl hn he)
  have C2 := Lib.hid fun (W : World) (h : Lies W W.heap.size 2 A l.length (pcells l)) => check_calls A cap l W h hn
  have C3 := Lib.hid fun W (h : Lies W W.heap.size 2 A l.length (pcells l)) => given_calls A cap l _ W h (Nat.le_refl _) (by omega)
  have C4 := Lib.hid fun A c W B (h : Lies W B 2 A l.length (pcells l)) => refValid_calls A c l B W h hn hf
  cases hok : okB l with
  | false =>
    rw [hok] at C4
    rw [checkI_no hok] at C1 C2
    have hpb : printB l = ⟨#[]⟩ := by unfold printB; rw [hok]; rfl
    rw [hpb] at C1
    clear he hl hf hc hm hr hok hpb
    obtain ⟨n, hnn⟩ : ∃ n, n = l.length := ⟨_, rfl⟩
    unfold NewPos at C3
    rw [← hnn] at C1 C2 C3 C4 HL hn ⊢
    clear hnn
    go_enter Tryd.func9, Tryd.ntmps9
    go_wp2_with fail
    refine C1.out.mono ?_
    rintro e w1 ⟨rfl, hb1⟩
    go_wp2_with fail
    refine (C2.out _ ((HL.out.below hb1).up hb1.size)).mono ?_
    rintro e w2 ⟨rfl, hb2⟩
    replace hb2 := qtrans hb1 hb2
    clear hb1
    go_wp2_with fail
    refine (C3.out _ ((HL.out.below hb2).up hb2.size)).mono ?_
    rintro e w3 ⟨v, rfl, ho, hb3⟩
    obtain ⟨A2, c2, rfl, _, _, k2⟩ := own_lies ho
    replace hb3 := qtrans hb2 hb3
    clear hb2 ho
    go_wp2_with fail
    refine (C4.out _ _ _ _ k2).mono ?_
    rintro e w4 ⟨rfl, rfl⟩
    clear k2
    go_wp2_with fail
    refine (CW.out _ (HE.out.below hb3)).mono ?_
    rintro e w4 ⟨rfl, hb4⟩
    replace hb4 := qtrans hb3 hb4
    clear hb3
    go_wp2_with fail
    go_ret
    exact ⟨rfl, hb4⟩
  | true =>
    have C5 := Lib.hid fun A c W (h : Lies W W.heap.size 2 A l.length (pcells l)) => refPrint_calls A c l W h hok
    rw [hok] at C4
    rw [checkI_yes hok] at C1 C2
    clear he hl hf hc hm hr hok
    generalize printB l = S at *
    have s0 : (S.toList == S.toList) = true := by simp
    obtain ⟨n, hnn⟩ : ∃ n, n = l.length := ⟨_, rfl⟩
    unfold NewPos at C3
    rw [← hnn] at C1 C2 C3 C4 C5 HL hn ⊢
    clear hnn
    go_enter Tryd.func9, Tryd.ntmps9
    go_wp2_with fail
    refine C1.out.mono ?_
    rintro e w1 ⟨rfl, hb1⟩
    go_wp2_with fail
    refine (C2.out _ ((HL.out.below hb1).up hb1.size)).mono ?_
    rintro e w2 ⟨rfl, hb2⟩
    replace hb2 := qtrans hb1 hb2
    clear hb1
    go_wp2_with fail
    refine (C3.out _ ((HL.out.below hb2).up hb2.size)).mono ?_
    rintro e w3 ⟨v, rfl, ho, hb3⟩
    obtain ⟨A2, c2, rfl, _, _, k2⟩ := own_lies ho
    replace hb3 := qtrans hb2 hb3
    clear hb2 ho
    go_wp2_with fail
    refine (C4.out _ _ _ _ k2).mono ?_
    rintro e w4 ⟨rfl, rfl⟩
    clear k2
    go_wp2_with fail
    refine (C3.out _ ((HL.out.below hb3).up hb3.size)).mono ?_
    rintro e w4 ⟨v, rfl, ho, hb4⟩
    obtain ⟨A3, c3, rfl, _, _, k3⟩ := own_lies ho
    replace hb4 := qtrans hb3 hb4
    clear hb3 ho
    go_wp2_with fail
    refine (C5.out _ _ _ k3).mono ?_
    rintro e w5 ⟨rfl, hb5⟩
    replace hb5 := qtrans hb4 hb5
    clear hb4 k3
    go_wp2_with fail
    refine (CW.out _ (HE.out.below hb5)).mono ?_
    rintro e w6 ⟨rfl, hb6⟩
    replace hb6 := qtrans hb5 hb6
    clear hb5
    go_wp2_with fail
    go_ret
    exact ⟨rfl, hb6⟩

theorem posPrints_lifted (os : Os) (started : os.Started) (H : Type) (enc : TypeId × Value → H) :
    ReturnsInHanded {} Tryd.checked os 9 .any (fun w args => (Rows.posPrintsSpec.pre enc Tryd.prog Tryd.f9 Rows.posPrintsRow.domain false w args ∧ laidMetH Tryd.prog laidOf w) ∧ sizedMet enc Tryd.prog Tryd.f9 (OpenSpec.ofChange Rows.posPrintsSpec) false w args)
      (Rows.posPrintsSpec.post enc Tryd.prog Tryd.f9 false true false false) := by
  refine returns_shaped (C := Tryd.checked) (X := fun w _ => laidMetH Tryd.prog laidOf w) (fun _ _ _ hh h => h.of_heap hh) own started (by kernel_rfl) Tryd.func9
    (ChangeSpec.witness_shaped (enc := enc) (C := Tryd.checked) (os := os) (X := fun w _ => laidMetH Tryd.prog laidOf w) false (World.laidAll Tryd.prog os laidOf) #[.slice none 0 0] 8 (World.laidAll_os _ _ _)
      (World.shaped_of_ZipB (by kernel_rfl) (by kernel_rfl)) (by kernel_rfl) (by kernel_rfl) (by kernel_rfl)
      (by rw [MakeChecks.laidMetH_plain _ _ _ laidOf_plain]; exact laidMet_laidAll _ (by kernel_rfl) (by kernel_rfl))) ?_
  intro W base args ds gs before hval0 hW hz hL hsh
  have hval : ∀ (j : Nat) t v, Tryd.f9.params[j]? = some t → args[j]? = some v → Value.okWide Tryd.prog W .any base t v := hval0
  have hW' := hW
  obtain ⟨p, q, hA0, hV, rfl, _, _⟩ := hW
  have hA : DataW.TrodAll enc Tryd.prog W 0 (fun _ => true) true Tryd.f9.params.toList args.toList ds p := hA0
  have hpar : Tryd.f9.params = #[24] := by kernel_rfl
  rw [hpar] at hA hval
  obtain ⟨v0, d0, hargs, rfl, h0⟩ := trodAll_one hA
  obtain rfl : args = #[v0] := by first | exact hargs | (cases args; simp_all)
  obtain ⟨A0, cap0, ss0, rfl, hc0, hm0, hl0, hb0, he0⟩ := open_pos (j := 0) (hval 0 24 v0 rfl rfl) h0 hz rfl rfl
  refine (posPrints_calls A0 cap0 ss0 W hl0 hc0 hm0 hb0 he0 (env_of hL hsh)).mono fun e W' ⟨he, hbl⟩ => ?_
  subst he
  exact ⟨_, rfl, law_post rfl rfl (by kernel_rfl) hW' rfl rfl rfl hbl⟩

theorem posPrints_row : Rows.PosPrintsSaid :=
  OpenClaim.holds_of_wide 9 Tryd.f9 rfl rfl rfl rfl rfl rfl rfl ⟨rfl, rfl, rfl, rfl, rfl⟩ rfl rfl rfl rfl rfl (by kernel_rfl) Tryd.func9 (by kernel_rfl)
    (of_decide_eq_true (by kernel_rfl)) (by unfold Func.isWrapper; first | (rw [if_pos (by decide +kernel)]; kernel_rfl) | (rw [if_neg (by decide +kernel)]; exact ⟨rfl, rfl⟩))
    (fun os started H enc _ => posPrints_lifted os started H enc)
theorem posPrints_holds : Rows.PosPrintsCardSaid :=
  Claim7.holds_tied_plain_at .later [] [.data, .widerDeep, .pinned] true Rows.posPrintsCard.stood.harness true posPrints_row (fun _ h => by cases h) (by kernel_rfl) (fun _ h => by cases h) posPrints_row_tie rfl ⟨rfl, rfl⟩ (by kernel_rfl) rfl
    (fun f fn hf hfn => by
      obtain rfl : f = 9 := Option.some.inj ((show Tryd.prog.funcNamed Rows.posPrintsRow.func = some 9 by kernel_rfl).symm.trans hf) |>.symm
      obtain rfl : fn = Tryd.f9 := (Option.some.inj (Tryd.func9.symm.trans hfn)).symm
      exact ⟨by kernel_rfl, fun j t ht => by
        have hpar : Tryd.f9.params = #[24] := by kernel_rfl
        rw [hpar] at ht
        have hm : t ∈ [24] := by simpa using Array.mem_of_getElem? ht
        have hall : ([24].all fun u => !Tryd.prog.wantsStandIn u) = true := by kernel_rfl
        exact (show Tryd.prog.wantsStandIn t = false by simpa using List.all_eq_true.1 hall t hm)⟩)
    (by kernel_rfl)
#print axioms posPrints_holds
end Go.Proofs.YtoihfmjnonanjaaDoor
