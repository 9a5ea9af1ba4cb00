/- Proved: henkanlaw07.ModeKnown returns true: the examples. No condition of ours. -/
import Derived.Test.YthhiillmodacmaaDoorFrameM
import Derived.Test.YthhiillmodacmaaDoorMode3
namespace Go.Proofs.YthhiillmodacmaaDoor
open Go.ChangeShapes Go.WideShapes Go.ChangeAt Go.RowKit Go.Lib Go.Shelf Hk
open Go.ChangeMaps (open_string shut_string)
set_option linter.unusedSimpArgs false
set_option linter.unusedVariables false
set_option maxRecDepth 100000

theorem known0_0 : toggleD 3 107 = 3 := rfl
theorem known1_0 : toggleD 5 104 = 5 := rfl
theorem known2_0 : toggleD 9 114 = 9 := rfl
theorem known3_0 : toggleD 4 114 = 5 := rfl
theorem known4_0 : toggleD 2 120 = 2 := rfl
theorem known5_0 : afterD 1 (⟨#[107, 104, 114, 114]⟩ : ByteArray).data.toList = 1 := by decide +kernel
theorem known6_0 : charS 5 31 = ⟨#[]⟩ := by decide +kernel
theorem known6_1 : charB 5 31 = false := by decide +kernel
theorem known7_0 : charS 1 97 = ⟨#[]⟩ := by decide +kernel
theorem known7_1 : charB 1 97 = false := by decide +kernel
theorem known8_0 : charS 4 32 = ⟨#[227, 128, 128]⟩ := by decide +kernel
theorem known8_1 : charB 4 32 = true := by decide +kernel
theorem known9_0 : charS 5 127 = ⟨#[]⟩ := by decide +kernel
theorem known9_1 : charB 5 127 = false := by decide +kernel
theorem known10_0 : formS 11 ⟨#[227, 129, 176]⟩ ⟨#[98, 97]⟩ = ⟨#[]⟩ := by decide +kernel
theorem known10_1 : formB 11 = false := by decide +kernel
theorem known11_0 : formS 8 ⟨#[227, 129, 176, 227, 130, 147]⟩ ⟨#[98, 97, 110, 110]⟩ = ⟨#[239, 190, 138, 239, 190, 158, 239, 190, 157]⟩ := by decide +kernel
theorem known11_1 : formB 8 = true := by decide +kernel
theorem known12_0 : formS 7 ⟨#[227, 131, 139, 227, 129, 187, 227, 131, 179]⟩ ⟨#[110, 105, 104, 111, 110]⟩ = ⟨#[227, 131, 139, 227, 131, 155, 227, 131, 179]⟩ := by decide +kernel
theorem known12_1 : formB 7 = true := by decide +kernel
theorem known13_0 : formS 8 ⟨#[227, 131, 139, 227, 129, 187, 227, 131, 179]⟩ ⟨#[110, 105, 104, 111, 110]⟩ = ⟨#[239, 190, 134, 239, 190, 142, 239, 190, 157]⟩ := by decide +kernel
theorem known13_1 : formB 8 = true := by decide +kernel
theorem known14_0 : formS 9 ⟨#[227, 131, 139, 227, 129, 187, 227, 131, 179]⟩ ⟨#[110, 105, 104, 111, 110]⟩ = ⟨#[239, 189, 142, 239, 189, 137, 239, 189, 136, 239, 189, 143, 239, 189, 142]⟩ := by decide +kernel
theorem known14_1 : formB 9 = true := by decide +kernel
theorem known15_0 : formS 10 ⟨#[227, 131, 139, 227, 129, 187, 227, 131, 179]⟩ ⟨#[110, 105, 104, 111, 110]⟩ = ⟨#[110, 105, 104, 111, 110]⟩ := by decide +kernel
theorem known15_1 : formB 10 = true := by decide +kernel
theorem known16_0 : showD 0 ⟨#[227, 129, 139, 227, 129, 170]⟩ = ⟨#[227, 129, 139, 227, 129, 170]⟩ := by decide +kernel
theorem known17_0 : showD 5 ⟨#[227, 129, 139, 227, 129, 170]⟩ = ⟨#[227, 129, 139, 227, 129, 170]⟩ := by decide +kernel
theorem known18_0 : showD 2 ⟨#[227, 129, 139, 227, 129, 170]⟩ = ⟨#[227, 130, 171, 227, 131, 138]⟩ := by decide +kernel
theorem known19_0 : showD 3 ⟨#[227, 129, 139, 227, 130, 155]⟩ = ⟨#[239, 189, 182, 227, 130, 155]⟩ := by decide +kernel
set_option maxHeartbeats 4000000 in
theorem modeKnown_calls (w : World) (he : EnvM w) : Calls Tryd.prog 10 #[] w fun e w' => e = .returned (.bool true) ∧ Below w.heap.size w w' := by
  have HE := Lib.hid he
  have CW := Lib.hid works_calls
  have C0 := Lib.hid fun W (hW : EnvM W) => toggle_calls 3 107 W hW.2
  rw [known0_0] at C0
  have C1 := Lib.hid fun W (hW : EnvM W) => toggle_calls 5 104 W hW.2
  rw [known1_0] at C1
  have C2 := Lib.hid fun W (hW : EnvM W) => toggle_calls 9 114 W hW.2
  rw [known2_0] at C2
  have C3 := Lib.hid fun W (hW : EnvM W) => toggle_calls 4 114 W hW.2
  rw [known3_0] at C3
  have C4 := Lib.hid fun W (hW : EnvM W) => toggle_calls 2 120 W hW.2
  rw [known4_0] at C4
  have C5 := Lib.hid fun W (hW : EnvM W) => after_calls 1 ⟨#[107, 104, 114, 114]⟩ W (by decide) hW
  rw [known5_0] at C5
  have C6 := Lib.hid fun W (hW : EnvM W) => char_calls 5 31 W (by decide) hW.1
  rw [known6_0] at C6
  rw [known6_1] at C6
  have C7 := Lib.hid fun W (hW : EnvM W) => char_calls 1 97 W (by decide) hW.1
  rw [known7_0] at C7
  rw [known7_1] at C7
  have C8 := Lib.hid fun W (hW : EnvM W) => char_calls 4 32 W (by decide) hW.1
  rw [known8_0] at C8
  rw [known8_1] at C8
  have C9 := Lib.hid fun W (hW : EnvM W) => char_calls 5 127 W (by decide) hW.1
  rw [known9_0] at C9
  rw [known9_1] at C9
  have C10 := Lib.hid fun W (hW : EnvM W) => form_calls 11 ⟨#[227, 129, 176]⟩ ⟨#[98, 97]⟩ W (by decide) (by decide) hW.1
  rw [known10_0] at C10
  rw [known10_1] at C10
  have C11 := Lib.hid fun W (hW : EnvM W) => form_calls 8 ⟨#[227, 129, 176, 227, 130, 147]⟩ ⟨#[98, 97, 110, 110]⟩ W (by decide) (by decide) hW.1
  rw [known11_0] at C11
  rw [known11_1] at C11
  have C12 := Lib.hid fun W (hW : EnvM W) => form_calls 7 ⟨#[227, 131, 139, 227, 129, 187, 227, 131, 179]⟩ ⟨#[110, 105, 104, 111, 110]⟩ W (by decide) (by decide) hW.1
  rw [known12_0] at C12
  rw [known12_1] at C12
  have C13 := Lib.hid fun W (hW : EnvM W) => form_calls 8 ⟨#[227, 131, 139, 227, 129, 187, 227, 131, 179]⟩ ⟨#[110, 105, 104, 111, 110]⟩ W (by decide) (by decide) hW.1
  rw [known13_0] at C13
  rw [known13_1] at C13
  have C14 := Lib.hid fun W (hW : EnvM W) => form_calls 9 ⟨#[227, 131, 139, 227, 129, 187, 227, 131, 179]⟩ ⟨#[110, 105, 104, 111, 110]⟩ W (by decide) (by decide) hW.1
  rw [known14_0] at C14
  rw [known14_1] at C14
  have C15 := Lib.hid fun W (hW : EnvM W) => form_calls 10 ⟨#[227, 131, 139, 227, 129, 187, 227, 131, 179]⟩ ⟨#[110, 105, 104, 111, 110]⟩ W (by decide) (by decide) hW.1
  rw [known15_0] at C15
  rw [known15_1] at C15
  have C16 := Lib.hid fun W (hW : EnvM W) => show_calls 0 ⟨#[227, 129, 139, 227, 129, 170]⟩ W (by decide) hW.1
  rw [known16_0] at C16
  have C17 := Lib.hid fun W (hW : EnvM W) => show_calls 5 ⟨#[227, 129, 139, 227, 129, 170]⟩ W (by decide) hW.1
  rw [known17_0] at C17
  have C18 := Lib.hid fun W (hW : EnvM W) => show_calls 2 ⟨#[227, 129, 139, 227, 129, 170]⟩ W (by decide) hW.1
  rw [known18_0] at C18
  have C19 := Lib.hid fun W (hW : EnvM W) => show_calls 3 ⟨#[227, 129, 139, 227, 130, 155]⟩ W (by decide) hW.1
  rw [known19_0] at C19
  clear he
  go_enter Tryd.func10, Tryd.ntmps10
  go_wp2_with fail
  refine (C0.out _ HE.out).mono ?_
  rintro e w1 ⟨rfl, hb1⟩
  go_wp2_with fail
  refine (C1.out _ (HE.out.below hb1)).mono ?_
  rintro e w2 ⟨rfl, hb2⟩
  replace hb2 := qtrans hb1 hb2
  clear hb1
  go_wp2_with fail
  refine (C2.out _ (HE.out.below hb2)).mono ?_
  rintro e w3 ⟨rfl, hb3⟩
  replace hb3 := qtrans hb2 hb3
  clear hb2
  go_wp2_with fail
  refine (C3.out _ (HE.out.below hb3)).mono ?_
  rintro e w4 ⟨rfl, hb4⟩
  replace hb4 := qtrans hb3 hb4
  clear hb3
  go_wp2_with fail
  refine (C4.out _ (HE.out.below hb4)).mono ?_
  rintro e w5 ⟨rfl, hb5⟩
  replace hb5 := qtrans hb4 hb5
  clear hb4
  go_wp2_with fail
  refine (C5.out _ (HE.out.below hb5)).mono ?_
  rintro e w6 ⟨rfl, hb6⟩
  replace hb6 := qtrans hb5 hb6
  clear hb5
  go_wp2_with fail
  refine (C6.out _ (HE.out.below hb6)).mono ?_
  rintro e w7 ⟨rfl, hb7⟩
  replace hb7 := qtrans hb6 hb7
  clear hb6
  go_wp2_with fail
  refine (C7.out _ (HE.out.below hb7)).mono ?_
  rintro e w8 ⟨rfl, hb8⟩
  replace hb8 := qtrans hb7 hb8
  clear hb7
  go_wp2_with fail
  refine (C8.out _ (HE.out.below hb8)).mono ?_
  rintro e w9 ⟨rfl, hb9⟩
  replace hb9 := qtrans hb8 hb9
  clear hb8
  go_wp2_with fail
  refine (C9.out _ (HE.out.below hb9)).mono ?_
  rintro e w10 ⟨rfl, hb10⟩
  replace hb10 := qtrans hb9 hb10
  clear hb9
  go_wp2_with fail
  refine (C10.out _ (HE.out.below hb10)).mono ?_
  rintro e w11 ⟨rfl, hb11⟩
  replace hb11 := qtrans hb10 hb11
  clear hb10
  go_wp2_with fail
  refine (C11.out _ (HE.out.below hb11)).mono ?_
  rintro e w12 ⟨rfl, hb12⟩
  replace hb12 := qtrans hb11 hb12
  clear hb11
  go_wp2_with fail
  refine (C12.out _ (HE.out.below hb12)).mono ?_
  rintro e w13 ⟨rfl, hb13⟩
  replace hb13 := qtrans hb12 hb13
  clear hb12
  go_wp2_with fail
  refine (C13.out _ (HE.out.below hb13)).mono ?_
  rintro e w14 ⟨rfl, hb14⟩
  replace hb14 := qtrans hb13 hb14
  clear hb13
  go_wp2_with fail
  refine (C14.out _ (HE.out.below hb14)).mono ?_
  rintro e w15 ⟨rfl, hb15⟩
  replace hb15 := qtrans hb14 hb15
  clear hb14
  go_wp2_with fail
  refine (C15.out _ (HE.out.below hb15)).mono ?_
  rintro e w16 ⟨rfl, hb16⟩
  replace hb16 := qtrans hb15 hb16
  clear hb15
  go_wp2_with fail
  refine (C16.out _ (HE.out.below hb16)).mono ?_
  rintro e w17 ⟨rfl, hb17⟩
  replace hb17 := qtrans hb16 hb17
  clear hb16
  go_wp2_with fail
  refine (C17.out _ (HE.out.below hb17)).mono ?_
  rintro e w18 ⟨rfl, hb18⟩
  replace hb18 := qtrans hb17 hb18
  clear hb17
  go_wp2_with fail
  refine (C18.out _ (HE.out.below hb18)).mono ?_
  rintro e w19 ⟨rfl, hb19⟩
  replace hb19 := qtrans hb18 hb19
  clear hb18
  go_wp2_with fail
  refine (C19.out _ (HE.out.below hb19)).mono ?_
  rintro e w20 ⟨rfl, hb20⟩
  replace hb20 := qtrans hb19 hb20
  clear hb19
  go_wp2_with fail
  refine (CW.out _ (HE.out.below hb20)).mono ?_
  rintro e w21 ⟨rfl, hb21⟩
  replace hb21 := qtrans hb20 hb21
  clear hb20
  go_wp2_with fail
  go_ret
  exact ⟨rfl, hb21⟩

theorem modeKnown_lifted (os : Os) (started : os.Started) (H : Type) (enc : TypeId × Value → H) :
    ReturnsInHanded {} Tryd.checked os 10 .any (fun w args => (Rows.modeKnownSpec.pre enc Tryd.prog Tryd.f10 Rows.modeKnownRow.domain false w args ∧ laidMetH Tryd.prog laidOf w) ∧ sizedMet enc Tryd.prog Tryd.f10 (OpenSpec.ofChange Rows.modeKnownSpec) false w args)
      (Rows.modeKnownSpec.post enc Tryd.prog Tryd.f10 false true false false) := by
  refine returns_shaped (C := Tryd.checked) (X := fun w _ => laidMetH Tryd.prog laidOf w) (fun _ _ _ hh h => h.of_heap hh) own started (by kernel_rfl) Tryd.func10
    (ChangeSpec.witness_shaped (enc := enc) (C := Tryd.checked) (os := os) (X := fun w _ => laidMetH Tryd.prog laidOf w) false (World.laidAll Tryd.prog os laidOf) #[] 8 (World.laidAll_os _ _ _)
      (World.shaped_of_ZipB (by kernel_rfl) (by kernel_rfl)) (by kernel_rfl) (by kernel_rfl) (by kernel_rfl)
      (by rw [MakeChecks.laidMetH_plain _ _ _ laidOf_plain]; exact laidMet_laidAll _ (by kernel_rfl) (by kernel_rfl))) ?_
  intro W base args ds gs before hval0 hW hz hL hsh
  have hval : ∀ (j : Nat) t v, Tryd.f10.params[j]? = some t → args[j]? = some v → Value.okWide Tryd.prog W .any base t v := hval0
  have hW' := hW
  obtain ⟨p, q, hA0, hV, rfl, _, _⟩ := hW
  have hA : DataW.TrodAll enc Tryd.prog W 0 (fun _ => true) true Tryd.f10.params.toList args.toList ds p := hA0
  have hpar : Tryd.f10.params = #[] := by kernel_rfl
  rw [hpar] at hA hval
  obtain ⟨hargs, rfl, rfl⟩ := trodAll_none hA
  obtain rfl : args = #[] := by cases args; simp_all

  refine (modeKnown_calls  W  (envM_of hL hsh)).mono fun e W' ⟨he, hbl⟩ => ?_
  subst he
  exact ⟨_, rfl, law_post rfl rfl (by kernel_rfl) hW' rfl rfl rfl hbl⟩

theorem modeKnown_row : Rows.ModeKnownSaid :=
  OpenClaim.holds_of_wide 10 Tryd.f10 rfl rfl rfl rfl rfl rfl rfl ⟨rfl, rfl, rfl, rfl, rfl⟩ rfl rfl rfl rfl rfl (by kernel_rfl) Tryd.func10 (by kernel_rfl)
    (of_decide_eq_true (by kernel_rfl)) (by unfold Func.isWrapper; first | (rw [if_pos (by decide +kernel)]; kernel_rfl) | (rw [if_neg (by decide +kernel)]; exact ⟨rfl, rfl⟩))
    (fun os started H enc _ => modeKnown_lifted os started H enc)
theorem modeKnown_holds : Rows.ModeKnownCardSaid :=
  Claim7.holds_tied_plain_at .later [] [.data, .data, .pinned] true Rows.modeKnownCard.stood.harness false modeKnown_row (fun _ h => by cases h) (by kernel_rfl) (fun _ h => by cases h) modeKnown_row_tie rfl ⟨rfl, rfl⟩ (by kernel_rfl) rfl
    (fun f fn hf hfn => by
      obtain rfl : f = 10 := Option.some.inj ((show Tryd.prog.funcNamed Rows.modeKnownRow.func = some 10 by kernel_rfl).symm.trans hf) |>.symm
      obtain rfl : fn = Tryd.f10 := (Option.some.inj (Tryd.func10.symm.trans hfn)).symm
      exact ⟨by kernel_rfl, fun j t ht => by
        have hpar : Tryd.f10.params = #[] := by kernel_rfl
        rw [hpar] at ht
        simp at ht⟩)
    (by kernel_rfl)
#print axioms modeKnown_holds
end Go.Proofs.YthhiillmodacmaaDoor
