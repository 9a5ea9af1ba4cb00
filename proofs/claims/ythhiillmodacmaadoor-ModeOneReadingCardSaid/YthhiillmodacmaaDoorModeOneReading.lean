/- Proved: henkanlaw07.ModeOneReading returns true for all bytes and every number: in whatever mode with kana a reading is shown, its forms 6 and 7 are the reading and its katakana. No condition of ours. -/
import Derived.Test.YthhiillmodacmaaDoorFrameM
import Derived.Test.YthhiillmodacmaaDoorMode4
namespace Go.Proofs.YthhiillmodacmaaDoor
open Go.ChangeShapes Go.WideShapes Go.ChangeAt Go.RowKit Go.Lib Go.Shelf Hk
open Go.ChangeMaps (open_string shut_string)
set_option linter.unusedSimpArgs false
set_option linter.unusedVariables false
set_option maxRecDepth 100000

set_option maxHeartbeats 2000000 in
theorem modeOneReading_calls (A : Option Addr) (cap : Nat) (l : List Nat) (z : Int) (w : World) (hl : Lies w w.heap.size 1 A l.length (u8s l)) (hc : l.length ≤ cap) (hm : cap ≤ maxLen) (hb : ∀ c ∈ l, c < 256) (hz : (Lit.int .u8 z).wf = true) (he : EnvM w) :
    Calls Tryd.prog 3 #[.slice A l.length cap, .int .u8 z] w fun e w' => e = .returned (.bool true) ∧ Below w.heap.size w w' := by
  obtain ⟨n, hn, rfl⟩ := u8_nat hz
  unfold maxLen at hm
  have HE := Lib.hid he
  have CW := Lib.hid works_calls
  have C0 := Lib.hid (rd_calls A cap l w w.heap.size hl hb (by omega))
  obtain ⟨q, hq⟩ : ∃ q, q = n % 3 := ⟨_, rfl⟩
  have hqi : (n : Int) % 3 = (q : Int) := by omega
  have hq3 : q < 3 := by omega
  have HF1 := fun t => (rd_forms l q hq3 t).1
  have HF2 := fun t => (rd_forms l q hq3 t).2
  have hs := rdS_size l
  have hs2 : (showD (1 + (q : Int)) (rdS l)).size ≤ 2048 := by
    have h1 := kata_size (rdS l)
    have h2 := half_size (rdS l)
    unfold showD
    (repeat' split) <;> omega
  have CS := Lib.hid fun W (hW : EnvM W) => show_calls (1 + (q : Int)) (rdS l) W (by omega) hW.1
  have C1 := Lib.hid fun W (hW : EnvM W) => form_calls 6 (showD (1 + (q : Int)) (rdS l)) ⟨#[]⟩ W (by omega) (by decide) hW.1
  have C2 := Lib.hid fun W (hW : EnvM W) => form_calls 7 (showD (1 + (q : Int)) (rdS l)) ⟨#[]⟩ W (by omega) (by decide) hW.1
  rw [HF1, show formB 6 = true from rfl] at C1
  rw [HF2, show formB 7 = true from rfl] at C2
  have CR := Lib.hid fun W (hW : EnvM W) => reading_calls (rdS l) W (by omega) hW.1
  rw [rdS_reading] at CR
  have CK := Lib.hid fun W (hW : EnvM W) => kata_calls (rdS l) W (by omega) hW.1
  clear HF1 HF2 hs2 hq
  generalize showD (1 + (q : Int)) (rdS l) = shown at *
  generalize kataS (rdS l) = kt at *
  generalize rdS l = s at *
  have q1 : (s.toList == s.toList) = true := by simp
  have q2 : (kt.toList == kt.toList) = true := by simp
  clear he hz hl hb hm hc hs
  generalize l.length = len at *
  go_enter Tryd.func3, Tryd.ntmps3
  go_wp2_with fail
  refine C0.out.mono ?_
  rintro e w0 ⟨rfl, rfl⟩
  go_wp2_with fail
  refine (CS.out _ HE.out).mono ?_
  rintro e w1 ⟨rfl, hb1⟩
  go_wp2_with fail
  refine (C1.out _ (HE.out.below hb1)).mono ?_
  rintro e w2 ⟨rfl, hb2⟩
  replace hb2 := qtrans hb1 hb2
  clear hb1
  go_wp2_with fail
  refine (C2.out _ (HE.out.below hb2)).mono ?_
  rintro e w3 ⟨rfl, hb3⟩
  replace hb3 := qtrans hb2 hb3
  clear hb2
  go_wp2_with fail
  refine (CR.out _ (HE.out.below hb3)).mono ?_
  rintro e w4 ⟨rfl, hb4⟩
  replace hb4 := qtrans hb3 hb4
  clear hb3
  go_wp2_with fail
  refine (CK.out _ (HE.out.below hb4)).mono ?_
  rintro e w5 ⟨rfl, hb5⟩
  replace hb5 := qtrans hb4 hb5
  clear hb4
  go_wp2_with fail
  refine (CW.out _ (HE.out.below hb5)).mono ?_
  rintro e w6 ⟨rfl, hb6⟩
  replace hb6 := qtrans hb5 hb6
  clear hb5
  go_wp2_with fail
  go_ret
  exact ⟨rfl, hb6⟩

theorem modeOneReading_lifted (os : Os) (started : os.Started) (H : Type) (enc : TypeId × Value → H) :
    ReturnsInHanded {} Tryd.checked os 3 .any (fun w args => (Rows.modeOneReadingSpec.pre enc Tryd.prog Tryd.f3 Rows.modeOneReadingRow.domain false w args ∧ laidMetH Tryd.prog laidOf w) ∧ sizedMet enc Tryd.prog Tryd.f3 (OpenSpec.ofChange Rows.modeOneReadingSpec) false w args)
      (Rows.modeOneReadingSpec.post enc Tryd.prog Tryd.f3 false true false false) := by
  refine returns_shaped (C := Tryd.checked) (X := fun w _ => laidMetH Tryd.prog laidOf w) (fun _ _ _ hh h => h.of_heap hh) own started (by kernel_rfl) Tryd.func3
    (ChangeSpec.witness_shaped (enc := enc) (C := Tryd.checked) (os := os) (X := fun w _ => laidMetH Tryd.prog laidOf w) false (World.laidAll Tryd.prog os laidOf) #[.slice none 0 0, .int .u8 0] 8 (World.laidAll_os _ _ _)
      (World.shaped_of_ZipB (by kernel_rfl) (by kernel_rfl)) (by kernel_rfl) (by kernel_rfl) (by kernel_rfl)
      (by rw [MakeChecks.laidMetH_plain _ _ _ laidOf_plain]; exact laidMet_laidAll _ (by kernel_rfl) (by kernel_rfl))) ?_
  intro W base args ds gs before hval0 hW hz hL hsh
  have hval : ∀ (j : Nat) t v, Tryd.f3.params[j]? = some t → args[j]? = some v → Value.okWide Tryd.prog W .any base t v := hval0
  have hW' := hW
  obtain ⟨p, q, hA0, hV, rfl, _, _⟩ := hW
  have hA : DataW.TrodAll enc Tryd.prog W 0 (fun _ => true) true Tryd.f3.params.toList args.toList ds p := hA0
  have hpar : Tryd.f3.params = #[22, 5] := by kernel_rfl
  rw [hpar] at hA hval
  obtain ⟨v0, v1, d0, d1, p0, p1, hargs, rfl, rfl, h0, h1⟩ := trodAll_two hA
  obtain rfl : args = #[v0, v1] := by first | exact hargs | (cases args; simp_all)
  obtain ⟨A0, cap0, ss0, rfl, hc0, hm0, hl0, hb0, he0⟩ := open_u8s Tryd.underlying22 Tryd.underlying5 (by kernel_rfl) (hval 0 22 v0 rfl rfl) h0
  obtain ⟨x1, rfl, rfl, rfl, w1⟩ := open_int Tryd.underlying5 (hval 1 5 v1 rfl rfl) h1
  refine (modeOneReading_calls A0 cap0 ss0 x1 W hl0 hc0 hm0 he0 w1 (envM_of hL hsh)).mono fun e W' ⟨he, hbl⟩ => ?_
  subst he
  exact ⟨_, rfl, law_post rfl rfl (by kernel_rfl) hW' rfl rfl rfl hbl⟩

theorem modeOneReading_row : Rows.ModeOneReadingSaid :=
  OpenClaim.holds_of_wide 3 Tryd.f3 rfl rfl rfl rfl rfl rfl rfl ⟨rfl, rfl, rfl, rfl, rfl⟩ rfl rfl rfl rfl rfl (by kernel_rfl) Tryd.func3 (by kernel_rfl)
    (of_decide_eq_true (by kernel_rfl)) (by unfold Func.isWrapper; first | (rw [if_pos (by decide +kernel)]; kernel_rfl) | (rw [if_neg (by decide +kernel)]; exact ⟨rfl, rfl⟩))
    (fun os started H enc _ => modeOneReading_lifted os started H enc)
theorem modeOneReading_holds : Rows.ModeOneReadingCardSaid :=
  Claim7.holds_tied_plain_at .later [] [.data, .data, .pinned] true Rows.modeOneReadingCard.stood.harness false modeOneReading_row (fun _ h => by cases h) (by kernel_rfl) (fun _ h => by cases h) modeOneReading_row_tie rfl ⟨rfl, rfl⟩ (by kernel_rfl) rfl
    (fun f fn hf hfn => by
      obtain rfl : f = 3 := Option.some.inj ((show Tryd.prog.funcNamed Rows.modeOneReadingRow.func = some 3 by kernel_rfl).symm.trans hf) |>.symm
      obtain rfl : fn = Tryd.f3 := (Option.some.inj (Tryd.func3.symm.trans hfn)).symm
      exact ⟨by kernel_rfl, fun j t ht => by
        have hpar : Tryd.f3.params = #[22, 5] := by kernel_rfl
        rw [hpar] at ht
        have hm : t ∈ [22, 5] := by simpa using Array.mem_of_getElem? ht
        have hall : ([22, 5].all fun u => !Tryd.prog.wantsStandIn u) = true := by kernel_rfl
        exact (show Tryd.prog.wantsStandIn t = false by simpa using List.all_eq_true.1 hall t hm)⟩)
    (by kernel_rfl)
#print axioms modeOneReading_holds
end Go.Proofs.YthhiillmodacmaaDoor
