/- Proved: henkanlaw32.BoostOrder returns true for every two ints: a greater count does not have a smaller bonus; a bonus is 0 or from 500 to 3000. No condition of ours. -/
import Derived.Test.YtipocnkaemkegaaDoorFrame
import Derived.Test.YtipocnkaemkegaaDoorBoostK
namespace Go.Proofs.YtipocnkaemkegaaDoor
open Go.ChangeShapes Go.WideShapes Go.ChangeAt Go.RowKit Go.Lib Go.Shelf Hk
open Go.ChangeMaps (open_string shut_string)
set_option linter.unusedSimpArgs false
set_option linter.unusedVariables false
set_option maxRecDepth 100000

set_option maxHeartbeats 2000000 in
theorem boostOrder_calls (v u : Int) (w : World) (wv : (Lit.int .i64 v).wf = true) (wu : (Lit.int .i64 u).wf = true) (he : Env w) :
    Calls Tryd.prog 6 #[.int .i64 v, .int .i64 u] w fun e w' => e = .returned (.bool true) ∧ Below w.heap.size w w' := by
  have hr := bounds_i64 wv
  have hs := bounds_i64 wu
  have HE := Lib.hid he
  have CW := Lib.hid works_calls
  have C1 := Lib.hid fun W => bonus_calls v W hr.2
  have C2 := Lib.hid fun W => bonus_calls u W hs.2
  have r1 := bonusD_range v
  have m1 := @bonusD_mono v u
  have m2 := @bonusD_mono u v
  have z1 := bonusD_neg v
  have z2 := bonusD_least v
  clear he wv wu hr hs
  generalize bonusD v = x at *
  generalize bonusD u = y at *
  obtain ⟨r3, r4⟩ := r1
  have key : ((v ≤ u ∧ x ≤ y) ∨ (u < v ∧ y ≤ x)) ∧ ((u ≤ v ∧ y ≤ x) ∨ (v < u ∧ x ≤ y)) ∧ ((v ≤ 0 ∧ x ≤ 0) ∨ (0 < v ∧ 500 ≤ x)) := by
    refine ⟨?_, ?_, ?_⟩
    · by_cases h : v ≤ u
      · exact .inl ⟨h, m1 h⟩
      · exact .inr ⟨by omega, m2 (by omega)⟩
    · by_cases h : u ≤ v
      · exact .inl ⟨h, m2 h⟩
      · exact .inr ⟨by omega, m1 (by omega)⟩
    · by_cases h : v ≤ 0
      · exact .inl ⟨h, by rw [z1 h]; decide⟩
      · exact .inr ⟨by omega, z2 (by omega)⟩
  clear m1 m2 z1 z2
  obtain ⟨k1, k2, k3⟩ := key
  have q0 : (x == 0) = decide (v ≤ 0) := by
    rcases k3 with ⟨a, b⟩ | ⟨a, b⟩
    · rw [show decide (v ≤ 0) = true by simpa using a]; simp; omega
    · rw [show decide (v ≤ 0) = false by simpa using a]; simp; omega
  rcases k1 with ⟨a1, b1⟩ | ⟨a1, b1⟩
  all_goals rcases k2 with ⟨a2, b2⟩ | ⟨a2, b2⟩
  all_goals first | (exfalso; omega) | skip
  all_goals rcases k3 with ⟨a3, b3⟩ | ⟨a3, b3⟩
  all_goals
    first | have d0 : decide (v ≤ 0) = true := decide_eq_true a3 | have d0 : decide (v ≤ 0) = false := decide_eq_false (Int.not_le.2 a3)
    rw [d0] at q0
    go_enter Tryd.func6, Tryd.ntmps6
    go_wp2_with fail
    refine (C1.out _).mono ?_
    rintro e w1 ⟨rfl, rfl⟩
    go_wp2_with fail
    refine (C2.out _).mono ?_
    rintro e w1 ⟨rfl, rfl⟩
    go_wp2_with fail
    refine (Lib.hid (CW.out _ HE.out)).out.mono ?_
    rintro e w1 ⟨rfl, hb1⟩
    go_wp2_with fail
    go_ret
    exact ⟨rfl, hb1⟩

theorem boostOrder_lifted (os : Os) (started : os.Started) (H : Type) (enc : TypeId × Value → H) :
    ReturnsInHanded {} Tryd.checked os 6 .any (fun w args => (Rows.boostOrderSpec.pre enc Tryd.prog Tryd.f6 Rows.boostOrderRow.domain false w args ∧ laidMetH Tryd.prog laidOf w) ∧ sizedMet enc Tryd.prog Tryd.f6 (OpenSpec.ofChange Rows.boostOrderSpec) false w args)
      (Rows.boostOrderSpec.post enc Tryd.prog Tryd.f6 false true false false) := by
  refine returns_shaped (C := Tryd.checked) (X := fun w _ => laidMetH Tryd.prog laidOf w) (fun _ _ _ hh h => h.of_heap hh) own started (by kernel_rfl) Tryd.func6
    (ChangeSpec.witness_shaped (enc := enc) (C := Tryd.checked) (os := os) (X := fun w _ => laidMetH Tryd.prog laidOf w) false (World.laidAll Tryd.prog os laidOf) #[.int .i64 0, .int .i64 0] 8 (World.laidAll_os _ _ _)
      (World.shaped_of_ZipB (by kernel_rfl) (by kernel_rfl)) (by kernel_rfl) (by kernel_rfl) (by kernel_rfl)
      (by rw [MakeChecks.laidMetH_plain _ _ _ laidOf_plain]; exact laidMet_laidAll _ (by kernel_rfl) (by kernel_rfl))) ?_
  intro W base args ds gs before hval0 hW hz hL hsh
  have hval : ∀ (j : Nat) t v, Tryd.f6.params[j]? = some t → args[j]? = some v → Value.okWide Tryd.prog W .any base t v := hval0
  have hW' := hW
  obtain ⟨p, q, hA0, hV, rfl, _, _⟩ := hW
  have hA : DataW.TrodAll enc Tryd.prog W 0 (fun _ => true) true Tryd.f6.params.toList args.toList ds p := hA0
  have hpar : Tryd.f6.params = #[3, 3] := by kernel_rfl
  rw [hpar] at hA hval
  obtain ⟨v0, v1, d0, d1, p0, p1, hargs, rfl, rfl, h0, h1⟩ := trodAll_two hA
  obtain rfl : args = #[v0, v1] := by first | exact hargs | (cases args; simp_all)
  obtain ⟨x0, rfl, rfl, rfl, w0⟩ := open_int Tryd.underlying3 (hval 0 3 v0 rfl rfl) h0
  obtain ⟨x1, rfl, rfl, rfl, w1⟩ := open_int Tryd.underlying3 (hval 1 3 v1 rfl rfl) h1
  refine (boostOrder_calls x0 x1 W w0 w1 (env_of hL hsh)).mono fun e W' ⟨he, hbl⟩ => ?_
  subst he
  exact ⟨_, rfl, law_post rfl rfl (by kernel_rfl) hW' rfl rfl rfl hbl⟩

theorem boostOrder_row : Rows.BoostOrderSaid :=
  OpenClaim.holds_of_wide 6 Tryd.f6 rfl rfl rfl rfl rfl rfl rfl ⟨rfl, rfl, rfl, rfl, rfl⟩ rfl rfl rfl rfl rfl (by kernel_rfl) Tryd.func6 (by kernel_rfl)
    (of_decide_eq_true (by kernel_rfl)) (by unfold Func.isWrapper; first | (rw [if_pos (by decide +kernel)]; kernel_rfl) | (rw [if_neg (by decide +kernel)]; exact ⟨rfl, rfl⟩))
    (fun os started H enc _ => boostOrder_lifted os started H enc)
theorem boostOrder_holds : Rows.BoostOrderCardSaid :=
  Claim7.holds_tied_plain_at .later [] [.data, .pinned] true Rows.boostOrderCard.stood.harness false boostOrder_row (fun _ h => by cases h) (by kernel_rfl) (fun _ h => by cases h) boostOrder_row_tie rfl ⟨rfl, rfl⟩ (by kernel_rfl) rfl
    (fun f fn hf hfn => by
      obtain rfl : f = 6 := Option.some.inj ((show Tryd.prog.funcNamed Rows.boostOrderRow.func = some 6 by kernel_rfl).symm.trans hf) |>.symm
      obtain rfl : fn = Tryd.f6 := (Option.some.inj (Tryd.func6.symm.trans hfn)).symm
      exact ⟨by kernel_rfl, fun j t ht => by
        have hpar : Tryd.f6.params = #[3, 3] := by kernel_rfl
        rw [hpar] at ht
        have hm : t ∈ [3, 3] := by simpa using Array.mem_of_getElem? ht
        have hall : ([3, 3].all fun u => !Tryd.prog.wantsStandIn u) = true := by kernel_rfl
        exact (show Tryd.prog.wantsStandIn t = false by simpa using List.all_eq_true.1 hall t hm)⟩)
    (by kernel_rfl)
#print axioms boostOrder_holds
end Go.Proofs.YtipocnkaemkegaaDoor
