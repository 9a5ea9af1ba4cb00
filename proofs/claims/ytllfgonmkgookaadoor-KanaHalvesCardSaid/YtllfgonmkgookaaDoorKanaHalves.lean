/- Proved: henkanlaw02.KanaHalves returns true for every string: half-width katakana are converted as the reference does. No condition of ours. -/
import Derived.Test.YtllfgonmkgookaaDoorFrame
import Derived.Test.YtllfgonmkgookaaDoorKanaL
import Derived.Test.YtllfgonmkgookaaDoorKanaX
namespace Go.Proofs.YtllfgonmkgookaaDoor
open Go.ChangeShapes Go.WideShapes Go.ChangeAt Go.RowKit Go.Lib Go.Shelf Hk
open Go.ChangeMaps (open_string shut_string)
set_option linter.unusedSimpArgs false
set_option linter.unusedVariables false
set_option maxRecDepth 100000

set_option maxHeartbeats 1000000 in
theorem kanaHalves_calls (s : ByteArray) (w : World) (hs : s.size ≤ 9223372036854775807) (he : Env w) :
    Calls Tryd.prog 5 #[.string s] w fun e w' => e = .returned (.bool true) ∧ Below w.heap.size w w' := by
  have HE := Lib.hid he
  by_cases hb : 2000 < s.size
  · clear he
    go_enter Tryd.func5, Tryd.ntmps5
    go_wp2_with fail
    go_ret
    exact ⟨rfl, Below.refl _ _⟩
  · have CW := Lib.hid works_calls
    have C1 := Lib.hid fun W (hW : Env W) => half_calls s W (by omega) hW
    have C2 := Lib.hid fun W => refHalf_calls s W (by omega)
    have C3 := Lib.hid fun W (hW : Env W) => full_calls s W (by omega) hW
    have C4 := Lib.hid fun W => refFull_calls s W (by omega)
    generalize halfS s = x at *
    generalize fullS s = y at *
    have q1 : (x.toList == x.toList) = true := by simp
    have q2 : (y.toList == y.toList) = true := by simp
    clear he
    go_enter Tryd.func5, Tryd.ntmps5
    go_wp2_with fail
    refine (C1.out _ HE.out).mono ?_
    rintro e w1 ⟨rfl, hb1⟩
    go_wp2_with fail
    refine (C2.out _).mono ?_
    rintro e w2 ⟨rfl, hb2⟩
    replace hb2 := qtrans hb1 hb2
    clear hb1
    go_wp2_with fail
    refine (C3.out _ (HE.out.below hb2)).mono ?_
    rintro e w3 ⟨rfl, hb3⟩
    replace hb3 := qtrans hb2 hb3
    clear hb2
    go_wp2_with fail
    refine (C4.out _).mono ?_
    rintro e w4 ⟨rfl, hb4⟩
    replace hb4 := qtrans hb3 hb4
    clear hb3
    go_wp2_with fail
    refine (CW.out _ (HE.out.below hb4)).mono ?_
    rintro e w5 ⟨rfl, hb5⟩
    replace hb5 := qtrans hb4 hb5
    clear hb4
    go_wp2_with fail
    go_ret
    exact ⟨rfl, hb5⟩

theorem kanaHalves_lifted (os : Os) (started : os.Started) (H : Type) (enc : TypeId × Value → H) :
    ReturnsInHanded {} Tryd.checked os 5 .any (fun w args => (Rows.kanaHalvesSpec.pre enc Tryd.prog Tryd.f5 Rows.kanaHalvesRow.domain false w args ∧ laidMetH Tryd.prog laidOf w) ∧ sizedMet enc Tryd.prog Tryd.f5 (OpenSpec.ofChange Rows.kanaHalvesSpec) false w args)
      (Rows.kanaHalvesSpec.post enc Tryd.prog Tryd.f5 false true false false) := by
  refine returns_shaped (C := Tryd.checked) (X := fun w _ => laidMetH Tryd.prog laidOf w) (fun _ _ _ hh h => h.of_heap hh) own started (by kernel_rfl) Tryd.func5
    (ChangeSpec.witness_shaped (enc := enc) (C := Tryd.checked) (os := os) (X := fun w _ => laidMetH Tryd.prog laidOf w) false (World.laidAll Tryd.prog os laidOf) #[.string ⟨#[]⟩] 8 (World.laidAll_os _ _ _)
      (World.shaped_of_ZipB (by kernel_rfl) (by kernel_rfl)) (by kernel_rfl) (by kernel_rfl) (by kernel_rfl)
      (by rw [MakeChecks.laidMetH_plain _ _ _ laidOf_plain]; exact laidMet_laidAll _ (by kernel_rfl) (by kernel_rfl))) ?_
  intro W base args ds gs before hval0 hW hz hL hsh
  have hval : ∀ (j : Nat) t v, Tryd.f5.params[j]? = some t → args[j]? = some v → Value.okWide Tryd.prog W .any base t v := hval0
  have hW' := hW
  obtain ⟨p, q, hA0, hV, rfl, _, _⟩ := hW
  have hA : DataW.TrodAll enc Tryd.prog W 0 (fun _ => true) true Tryd.f5.params.toList args.toList ds p := hA0
  have hpar : Tryd.f5.params = #[9] := by kernel_rfl
  rw [hpar] at hA hval
  obtain ⟨v0, d0, hargs, rfl, h0⟩ := trodAll_one hA
  obtain rfl : args = #[v0] := by first | exact hargs | (cases args; simp_all)
  obtain ⟨x0, rfl, rfl, rfl, w0⟩ := open_string Tryd.underlying9 (hval 0 9 v0 rfl rfl) h0
  refine (kanaHalves_calls x0 W (by simpa [maxLen] using w0) (env_of hL hsh)).mono fun e W' ⟨he, hbl⟩ => ?_
  subst he
  exact ⟨_, rfl, law_post rfl rfl (by kernel_rfl) hW' rfl rfl rfl hbl⟩

theorem kanaHalves_row : Rows.KanaHalvesSaid :=
  OpenClaim.holds_of_wide 5 Tryd.f5 rfl rfl rfl rfl rfl rfl rfl ⟨rfl, rfl, rfl, rfl, rfl⟩ rfl rfl rfl rfl rfl (by kernel_rfl) Tryd.func5 (by kernel_rfl)
    (of_decide_eq_true (by kernel_rfl)) (by unfold Func.isWrapper; first | (rw [if_pos (by decide +kernel)]; kernel_rfl) | (rw [if_neg (by decide +kernel)]; exact ⟨rfl, rfl⟩))
    (fun os started H enc _ => kanaHalves_lifted os started H enc)
theorem kanaHalves_holds : Rows.KanaHalvesCardSaid :=
  Claim7.holds_tied_plain_at .later [] [.data, .pinned] true Rows.kanaHalvesCard.stood.harness false kanaHalves_row (fun _ h => by cases h) (by kernel_rfl) (fun _ h => by cases h) kanaHalves_row_tie rfl ⟨rfl, rfl⟩ (by kernel_rfl) rfl
    (fun f fn hf hfn => by
      obtain rfl : f = 5 := Option.some.inj ((show Tryd.prog.funcNamed Rows.kanaHalvesRow.func = some 5 by kernel_rfl).symm.trans hf) |>.symm
      obtain rfl : fn = Tryd.f5 := (Option.some.inj (Tryd.func5.symm.trans hfn)).symm
      exact ⟨by kernel_rfl, fun j t ht => by
        have hpar : Tryd.f5.params = #[9] := by kernel_rfl
        rw [hpar] at ht
        have hm : t ∈ [9] := by simpa using Array.mem_of_getElem? ht
        have hall : ([9].all fun u => !Tryd.prog.wantsStandIn u) = true := by kernel_rfl
        exact (show Tryd.prog.wantsStandIn t = false by simpa using List.all_eq_true.1 hall t hm)⟩)
    (by kernel_rfl)
#print axioms kanaHalves_holds
end Go.Proofs.YtllfgonmkgookaaDoor
