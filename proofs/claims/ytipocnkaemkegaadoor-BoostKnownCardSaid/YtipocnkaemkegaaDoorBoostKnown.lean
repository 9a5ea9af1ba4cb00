/- Proved: henkanlaw32.BoostKnown returns true: the examples of the chapter. No condition of ours. -/
import Derived.Test.YtipocnkaemkegaaDoorFrame
import Derived.Test.YtipocnkaemkegaaDoorBoostK
namespace Go.Proofs.YtipocnkaemkegaaDoor
open Go.ChangeShapes Go.WideShapes Go.ChangeAt Go.RowKit Go.Lib Go.Shelf Hk
open Go.ChangeMaps (open_string shut_string)
set_option linter.unusedSimpArgs false
set_option linter.unusedVariables false
set_option maxRecDepth 100000

theorem kn (v x : Int) (h : bonusD v = x) (w : World) (hv : v ≤ 9223372036854775807) : Calls Tryd.prog 10 #[.int .i64 v] w fun e w' => e = .returned (.int .i64 x) ∧ w = w' := by
  rw [← h]
  exact bonus_calls v w hv

set_option maxHeartbeats 1000000 in
theorem boostKnown_calls (w : World) (he : Env w) :
    Calls Tryd.prog 9 #[] w fun e w' => e = .returned (.bool true) ∧ Below w.heap.size w w' := by
  have HE := Lib.hid he
  have CW := Lib.hid works_calls
  clear he
  have K1 := Lib.hid fun W => kn (-1) 0 (by decide +kernel) W (by decide)
  have K2 := Lib.hid fun W => kn 0 0 (by decide +kernel) W (by decide)
  have K3 := Lib.hid fun W => kn 1 500 (by decide +kernel) W (by decide)
  have K4 := Lib.hid fun W => kn 65535 500 (by decide +kernel) W (by decide)
  have K5 := Lib.hid fun W => kn 65536 750 (by decide +kernel) W (by decide)
  have K6 := Lib.hid fun W => kn 131072 1000 (by decide +kernel) W (by decide)
  have K7 := Lib.hid fun W => kn 33488896 2750 (by decide +kernel) W (by decide)
  have K8 := Lib.hid fun W => kn 67043328 3000 (by decide +kernel) W (by decide)
  have K9 := Lib.hid fun W => kn 67108864 3000 (by decide +kernel) W (by decide)
  go_enter Tryd.func9, Tryd.ntmps9
  go_wp2_with fail
  refine (K1.out _).mono ?_
  rintro e w1 ⟨rfl, rfl⟩
  go_wp2_with fail
  refine (K2.out _).mono ?_
  rintro e w1 ⟨rfl, rfl⟩
  go_wp2_with fail
  refine (K3.out _).mono ?_
  rintro e w1 ⟨rfl, rfl⟩
  go_wp2_with fail
  refine (K4.out _).mono ?_
  rintro e w1 ⟨rfl, rfl⟩
  go_wp2_with fail
  refine (K5.out _).mono ?_
  rintro e w1 ⟨rfl, rfl⟩
  go_wp2_with fail
  refine (K6.out _).mono ?_
  rintro e w1 ⟨rfl, rfl⟩
  go_wp2_with fail
  refine (K7.out _).mono ?_
  rintro e w1 ⟨rfl, rfl⟩
  go_wp2_with fail
  refine (K8.out _).mono ?_
  rintro e w1 ⟨rfl, rfl⟩
  go_wp2_with fail
  refine (K9.out _).mono ?_
  rintro e w1 ⟨rfl, rfl⟩
  go_wp2_with fail
  refine (Lib.hid (CW.out _ HE.out)).out.mono ?_
  rintro e w1 ⟨rfl, hb1⟩
  go_wp2_with fail
  go_ret
  exact ⟨rfl, hb1⟩

theorem boostKnown_lifted (os : Os) (started : os.Started) (H : Type) (enc : TypeId × Value → H) :
    ReturnsInHanded {} Tryd.checked os 9 .any (fun w args => (Rows.boostKnownSpec.pre enc Tryd.prog Tryd.f9 Rows.boostKnownRow.domain false w args ∧ laidMetH Tryd.prog laidOf w) ∧ sizedMet enc Tryd.prog Tryd.f9 (OpenSpec.ofChange Rows.boostKnownSpec) false w args)
      (Rows.boostKnownSpec.post enc Tryd.prog Tryd.f9 false true false false) := by
  refine returns_shaped (C := Tryd.checked) (X := fun w _ => laidMetH Tryd.prog laidOf w) (fun _ _ _ hh h => h.of_heap hh) own started (by kernel_rfl) Tryd.func9
    (ChangeSpec.witness_shaped (enc := enc) (C := Tryd.checked) (os := os) (X := fun w _ => laidMetH Tryd.prog laidOf w) false (World.laidAll Tryd.prog os laidOf) #[] 8 (World.laidAll_os _ _ _)
      (World.shaped_of_ZipB (by kernel_rfl) (by kernel_rfl)) (by kernel_rfl) (by kernel_rfl) (by kernel_rfl)
      (by rw [MakeChecks.laidMetH_plain _ _ _ laidOf_plain]; exact laidMet_laidAll _ (by kernel_rfl) (by kernel_rfl))) ?_
  intro W base args ds gs before hval0 hW hz hL hsh
  have hval : ∀ (j : Nat) t v, Tryd.f9.params[j]? = some t → args[j]? = some v → Value.okWide Tryd.prog W .any base t v := hval0
  have hW' := hW
  obtain ⟨p, q, hA0, hV, rfl, _, _⟩ := hW
  have hA : DataW.TrodAll enc Tryd.prog W 0 (fun _ => true) true Tryd.f9.params.toList args.toList ds p := hA0
  have hpar : Tryd.f9.params = #[] := by kernel_rfl
  rw [hpar] at hA hval
  obtain ⟨hargs, rfl, rfl⟩ := trodAll_none hA
  obtain rfl : args = #[] := by cases args; simp_all

  refine (boostKnown_calls  W  (env_of hL hsh)).mono fun e W' ⟨he, hbl⟩ => ?_
  subst he
  exact ⟨_, rfl, law_post rfl rfl (by kernel_rfl) hW' rfl rfl rfl hbl⟩

theorem boostKnown_row : Rows.BoostKnownSaid :=
  OpenClaim.holds_of_wide 9 Tryd.f9 rfl rfl rfl rfl rfl rfl rfl ⟨rfl, rfl, rfl, rfl, rfl⟩ rfl rfl rfl rfl rfl (by kernel_rfl) Tryd.func9 (by kernel_rfl)
    (of_decide_eq_true (by kernel_rfl)) (by unfold Func.isWrapper; first | (rw [if_pos (by decide +kernel)]; kernel_rfl) | (rw [if_neg (by decide +kernel)]; exact ⟨rfl, rfl⟩))
    (fun os started H enc _ => boostKnown_lifted os started H enc)
theorem boostKnown_holds : Rows.BoostKnownCardSaid :=
  Claim7.holds_tied_plain_at .later [] [.data, .pinned] true Rows.boostKnownCard.stood.harness false boostKnown_row (fun _ h => by cases h) (by kernel_rfl) (fun _ h => by cases h) boostKnown_row_tie rfl ⟨rfl, rfl⟩ (by kernel_rfl) rfl
    (fun f fn hf hfn => by
      obtain rfl : f = 9 := Option.some.inj ((show Tryd.prog.funcNamed Rows.boostKnownRow.func = some 9 by kernel_rfl).symm.trans hf) |>.symm
      obtain rfl : fn = Tryd.f9 := (Option.some.inj (Tryd.func9.symm.trans hfn)).symm
      exact ⟨by kernel_rfl, fun j t ht => by
        have hpar : Tryd.f9.params = #[] := by kernel_rfl
        rw [hpar] at ht
        simp at ht⟩)
    (by kernel_rfl)
#print axioms boostKnown_holds
end Go.Proofs.YtipocnkaemkegaaDoor
