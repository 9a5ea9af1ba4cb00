/- Proved: henkanlaw30.KeysKnown returns true: the examples of the chapter. It has no arguments. -/
import Derived.Test.YtbdiimldociobaaDoorFrame
namespace Go.Proofs.YtbdiimldociobaaDoor
open Go.ChangeShapes Go.WideShapes Go.ChangeAt Go.RowKit Go.Lib Go.Shelf Hk
open Go.ChangeMaps (open_string shut_string)
set_option linter.unusedSimpArgs false
set_option linter.unusedVariables false
set_option maxRecDepth 100000

def strLen : Value → Nat | .string s => s.size | _ => 0
def exes (k : Nat) : List UInt8 := List.replicate k 120
theorem exes_snoc (k : Nat) : exes k ++ [120] = exes (k + 1) := by
  unfold exes
  rw [← List.replicate_succ']
theorem kn1 : kmk 1 (exes 199) (exes 199) = some (49 :: (exes 199 ++ 0 :: exes 199)) := by decide +kernel
theorem kn2 : kmk 1 (exes 199) (exes 200) = none := by decide +kernel
theorem kn3 : kmk 3 [97] [98] = none := by decide +kernel
theorem kn4 : kmk 1 [] [98] = none := by decide +kernel
theorem kn5 : kparse [50, 97, 0, 98, 0] = none := by decide +kernel
theorem kn6 : kparse [49, 97, 98] = none := by decide +kernel
theorem kn7 : (kparse (49 :: (exes 199 ++ 0 :: exes 199))).isSome = true := by decide +kernel
theorem kn8 : kunder [50, 97, 0, 98] [97] = false := by decide +kernel

set_option maxHeartbeats 4000000 in
theorem keysKnown_calls (w : World) (he : Env w) :
    Calls Tryd.prog 10 #[] w fun e w' => e = .returned (.bool true) ∧ Below w.heap.size w w' := by
  have HE := Lib.hid he
  clear he
  have z1 : ∀ c : UInt8, (⟨#[c]⟩ : ByteArray).size = 1 := fun _ => rfl
  go_enter Tryd.func10, Tryd.ntmps10
  go_wp2_with fail
  go_loop [1] (fun v => ∃ s : ByteArray, v = .string s ∧ s.size ≤ 199 ∧ s.data.toList = exes s.size) (fun v => 199 - strLen v)
  case atStart => exact ⟨⟨#[]⟩, rfl, by decide, rfl⟩
  case round =>
    obtain ⟨s, rfl, hs, hx⟩ := hrel
    have HX := Lib.hid hx
    clear hx
    by_cases hlt : s.size < 199
    · go_wp2_with fail
      go_round
      case rel => exact ⟨_, rfl, by rw [ByteArray.size_append, z1]; omega, by rw [ByteArray.size_append, z1, ← exes_snoc, ← HX.out, Go.Joins.data_append]⟩
      case measure => simp [strLen, z1]; omega
    · have hsz : s.size = 199 := by omega
      have hl : s.data.toList = exes 199 := by rw [HX.out, hsz]
      have hsx : (s ++ ⟨#[120]⟩).data.toList = exes 200 := by rw [Go.Joins.data_append, hl]; exact exes_snoc 199
      have hsxs : (s ++ ⟨#[120]⟩).size = 200 := by rw [ByteArray.size_append, z1, hsz]
      have c1 := make_calls 1 s s w (by omega) (by omega) HE.out
      rw [MakePost_some (by rw [hl]; exact kn1)] at c1
      have c2 := fun W (hW : Env W) => make_calls 1 s (s ++ ⟨#[120]⟩) W (by omega) (by omega) hW
      simp only [MakePost_none (k := 1) (a := s) (b := s ++ ⟨#[120]⟩) (by rw [hl, hsx]; exact kn2)] at c2
      have c3 := fun W (hW : Env W) => make_calls 3 ⟨#[97]⟩ ⟨#[98]⟩ W (by decide) (by decide) hW
      simp only [MakePost_none (k := 3) (a := ⟨#[97]⟩) (b := ⟨#[98]⟩) kn3] at c3
      have c4 := fun W (hW : Env W) => make_calls 1 ⟨#[]⟩ ⟨#[98]⟩ W (by decide) (by decide) hW
      simp only [MakePost_none (k := 1) (a := ⟨#[]⟩) (b := ⟨#[98]⟩) kn4] at c4
      have c5 := fun W (hW : Env W) => parse_calls ⟨#[50, 97, 0, 98, 0]⟩ W (by decide) hW
      simp only [ParsePost_none (s := ⟨#[50, 97, 0, 98, 0]⟩) kn5] at c5
      have c6 := fun W (hW : Env W) => parse_calls ⟨#[49, 97, 98]⟩ W (by decide) hW
      simp only [ParsePost_none (s := ⟨#[49, 97, 98]⟩) kn6] at c6
      obtain ⟨K, hK⟩ : ∃ K : ByteArray, K = ⟨(49 :: (exes 199 ++ 0 :: exes 199)).toArray⟩ := ⟨_, rfl⟩
      rw [← hK] at c1
      have hKl : K.data.toList = 49 :: (exes 199 ++ 0 :: exes 199) := by rw [hK]
      have hKs : K.size = 400 := by rw [show K.size = K.data.toList.length by simp, hKl]; decide +kernel
      have c7 := fun W (hW : Env W) => valid_calls K W (by omega) hW
      simp only [hKl, kn7] at c7
      have c8 := fun W (hW : Env W) => under_calls ⟨#[50, 97, 0, 98]⟩ ⟨#[97]⟩ W (by decide) hW
      simp only [kn8] at c8
      have C1 := Lib.hid c1
      have C2 := Lib.hid c2
      have C3 := Lib.hid c3
      have C4 := Lib.hid c4
      have C5 := Lib.hid c5
      have C6 := Lib.hid c6
      have C7 := Lib.hid c7
      have C8 := Lib.hid c8
      have CW := Lib.hid works_calls
      have hs1 : ¬ (s.size : Int) < 199 := by omega
      have hk4 : ((K.size : Int) == 400) = true := by rw [hKs]; rfl
      clear c1 c2 c3 c4 c5 c6 c7 c8 hK hKl hKs hsx hsxs hl hsz
      go_wp2_with fail
      refine C1.out.mono ?_
      rintro e w1 ⟨rfl, hb1⟩
      go_wp2_with fail
      refine (C2.out _ (HE.out.below hb1)).mono ?_
      rintro e w2 ⟨rfl, hb2⟩
      replace hb2 := qtrans hb1 hb2
      clear hb1
      go_wp2_with fail
      refine (C3.out _ (HE.out.below hb2)).mono ?_
      rintro e w3 ⟨rfl, hb3⟩
      replace hb3 := qtrans hb2 hb3
      clear hb2
      go_wp2_with fail
      refine (C4.out _ (HE.out.below hb3)).mono ?_
      rintro e w4 ⟨rfl, hb4⟩
      replace hb4 := qtrans hb3 hb4
      clear hb3
      go_wp2_with fail
      refine (C5.out _ (HE.out.below hb4)).mono ?_
      rintro e w5 ⟨rfl, hb5⟩
      replace hb5 := qtrans hb4 hb5
      clear hb4
      go_wp2_with fail
      refine (C6.out _ (HE.out.below hb5)).mono ?_
      rintro e w6 ⟨rfl, hb6⟩
      replace hb6 := qtrans hb5 hb6
      clear hb5
      go_wp2_with fail
      refine (C7.out _ (HE.out.below hb6)).mono ?_
      rintro e w7 ⟨rfl, hb7⟩
      replace hb7 := qtrans hb6 hb7
      clear hb6
      go_wp2_with fail
      refine (C8.out _ (HE.out.below hb7)).mono ?_
      rintro e w8 ⟨rfl, hb8⟩
      replace hb8 := qtrans hb7 hb8
      clear hb7
      go_wp2_with fail
      refine (CW.out _ (HE.out.below hb8)).mono ?_
      rintro e w9 ⟨rfl, hb9⟩
      replace hb9 := qtrans hb8 hb9
      clear hb8
      go_wp2_with fail
      go_ret
      exact ⟨rfl, hb9⟩

theorem keysKnown_lifted (os : Os) (started : os.Started) (H : Type) (enc : TypeId × Value → H) :
    ReturnsInHanded {} Tryd.checked os 10 .any (fun w args => (Rows.keysKnownSpec.pre enc Tryd.prog Tryd.f10 Rows.keysKnownRow.domain false w args ∧ laidMetH Tryd.prog laidOf w) ∧ sizedMet enc Tryd.prog Tryd.f10 (OpenSpec.ofChange Rows.keysKnownSpec) false w args)
      (Rows.keysKnownSpec.post enc Tryd.prog Tryd.f10 false true false false) := by
  refine returns_shaped (C := Tryd.checked) (X := fun w _ => laidMetH Tryd.prog laidOf w) (fun _ _ _ hh h => h.of_heap hh) own started (by kernel_rfl) Tryd.func10
    (ChangeSpec.witness_shaped (enc := enc) (C := Tryd.checked) (os := os) (X := fun w _ => laidMetH Tryd.prog laidOf w) false (World.laidAll Tryd.prog os laidOf) #[] 8 (World.laidAll_os _ _ _)
      (World.shaped_of_ZipB (by kernel_rfl) (by kernel_rfl)) (by kernel_rfl) (by kernel_rfl) (by kernel_rfl)
      (by rw [MakeChecks.laidMetH_plain _ _ _ laidOf_plain]; exact laidMet_laidAll _ (by kernel_rfl) (by kernel_rfl))) ?_
  intro W base args ds gs before hval0 hW _ hL hsh
  have hval : ∀ (j : Nat) t v, Tryd.f10.params[j]? = some t → args[j]? = some v → Value.okWide Tryd.prog W .any base t v := hval0
  have hW' := hW
  obtain ⟨p, q, hA0, hV, rfl, _, _⟩ := hW
  have hA : DataW.TrodAll enc Tryd.prog W 0 (fun _ => true) true Tryd.f10.params.toList args.toList ds p := hA0
  have hpar : Tryd.f10.params = #[] := by kernel_rfl
  rw [hpar] at hA hval
  obtain ⟨hargs, rfl, rfl⟩ := trodAll_none hA
  obtain rfl : args = #[] := by cases args; simp_all

  refine (keysKnown_calls  W  (env_of hL hsh)).mono fun e W' ⟨he, hbl⟩ => ?_
  subst he
  exact ⟨_, rfl, law_post rfl rfl (by kernel_rfl) hW' rfl rfl rfl hbl⟩

theorem keysKnown_row : Rows.KeysKnownSaid :=
  OpenClaim.holds_of_wide 10 Tryd.f10 rfl rfl rfl rfl rfl rfl rfl ⟨rfl, rfl, rfl, rfl, rfl⟩ rfl rfl rfl rfl rfl (by kernel_rfl) Tryd.func10 (by kernel_rfl)
    (of_decide_eq_true (by kernel_rfl)) (by unfold Func.isWrapper; first | (rw [if_pos (by decide +kernel)]; kernel_rfl) | (rw [if_neg (by decide +kernel)]; exact ⟨rfl, rfl⟩))
    (fun os started H enc _ => keysKnown_lifted os started H enc)
theorem keysKnown_holds : Rows.KeysKnownCardSaid :=
  Claim7.holds_tied_plain_at .later [] [.data, .pinned] true Rows.keysKnownCard.stood.harness false keysKnown_row (fun _ h => by cases h) (by kernel_rfl) (fun _ h => by cases h) keysKnown_row_tie rfl ⟨rfl, rfl⟩ (by kernel_rfl) rfl
    (fun f fn hf hfn => by
      obtain rfl : f = 10 := Option.some.inj ((show Tryd.prog.funcNamed Rows.keysKnownRow.func = some 10 by kernel_rfl).symm.trans hf) |>.symm
      obtain rfl : fn = Tryd.f10 := (Option.some.inj (Tryd.func10.symm.trans hfn)).symm
      exact ⟨by kernel_rfl, fun j t ht => by
        have hpar : Tryd.f10.params = #[] := by kernel_rfl
        rw [hpar] at ht
        simp at ht⟩)
    (by kernel_rfl)
#print axioms keysKnown_holds
end Go.Proofs.YtbdiimldociobaaDoor
