/- Proved: henkanlaw31.HistoryAbout returns true for every list of strings and every string: About returns what the reference does. No condition of ours. -/
import Derived.Test.YtleflnbcgkfojaaDoorBulk
import Derived.Test.YtleflnbcgkfojaaDoorHist6
namespace Go.Proofs.YtleflnbcgkfojaaDoor
open Go.ChangeShapes Go.WideShapes Go.ChangeAt Go.RowKit Go.Lib Go.Shelf Hk
open Go.ChangeMaps (open_string shut_string)
set_option linter.unusedSimpArgs false
set_option linter.unusedVariables false
set_option maxRecDepth 100000

set_option maxHeartbeats 1000000 in
theorem historyAbout_calls (A : Option Addr) (cap : Nat) (l : List ByteArray) (s : ByteArray) (w : World) (hl : Lies w w.heap.size 1 A l.length (l.map Value.string)) (hc : l.length ≤ cap) (hm : cap ≤ maxLen) (hs : ∀ k ∈ l, k.size ≤ maxLen) (hss : s.size ≤ 9223372036854775807) (he : Env w) :
    Calls Tryd.prog 4 #[.slice A l.length cap, .string s] w fun e w' => e = .returned (.bool true) ∧ Below w.heap.size w w' := by
  unfold maxLen at hm hs
  have HE := Lib.hid he
  have CW := Lib.hid works_calls
  have C0 := Lib.hid (few_calls A cap l w _ hl (by omega) (fun k hk => by have := hs k hk; omega))
  cases hf : fewB l with
  | false =>
    rw [hf] at C0
    clear he hl hs hf
    generalize l.length = n at *
    go_enter Tryd.func4, Tryd.ntmps4
    go_wp2_with fail
    refine C0.out.mono ?_
    rintro e w1 ⟨rfl, rfl⟩
    go_wp2_with fail
    refine (Lib.hid (CW.out _ HE.out)).out.mono ?_
    rintro e w1 ⟨rfl, hb1⟩
    go_wp2_with fail
    go_ret
    exact ⟨rfl, hb1⟩
  | true =>
    rw [hf] at C0
    obtain ⟨h1, h2⟩ := fewB_yes hf
    have C1 := Lib.hid (about_calls A cap l s w hl (by omega) (fun k hk => by have := h1 k hk; omega) he)
    have C2 := Lib.hid fun W (h : Lies W W.heap.size 1 A l.length (l.map Value.string)) (hW : Env W) => refAbout_calls A cap l s W h (by omega) (fun k hk => by have := h1 k hk; omega) hW
    have CS := Lib.hid same_calls
    have HL := Lib.hid hl
    have hlen := aboutD_len s l
    clear he hl hs hf h1
    generalize l.length = n at *
    go_enter Tryd.func4, Tryd.ntmps4
    go_wp2_with fail
    refine C0.out.mono ?_
    rintro e w1 ⟨rfl, rfl⟩
    go_wp2_with fail
    refine C1.out.mono ?_
    rintro e w1 ⟨v1, rfl, ho1, hb1⟩
    have hl1 := (HL.out.below hb1).up hb1.size
    obtain ⟨A1, c1, rfl, _, _, k1'⟩ := own_lies ho1
    have HE1 := Lib.hid (HE.out.below hb1)
    clear ho1 HE C1 HL C0
    go_wp2_with fail
    refine (C2.out _ hl1 HE1.out).mono ?_
    rintro e w2 ⟨v2, rfl, ho2, hb2⟩
    obtain ⟨A2, c2, rfl, _, _, k2'⟩ := own_lies ho2
    have k1'' := k1'.below hb2
    have HE2 := Lib.hid (HE1.out.below hb2)
    replace hb2 := qtrans hb1 hb2
    clear ho2 HE1 C2 hl1 hb1 k1'
    go_wp2_with fail
    refine (CS.out _ _ _ _ _ _ _ _ _ rfl k1'' k2' (by omega)).mono ?_
    rintro e w3 ⟨rfl, hb3⟩
    have HE3 := Lib.hid (HE2.out.below hb3)
    replace hb3 := qtrans hb2 hb3
    clear hb2 k1'' k2' HE2
    go_wp2_with fail
    refine (CW.out _ HE3.out).mono ?_
    rintro e w4 ⟨rfl, hb4⟩
    replace hb4 := qtrans hb3 hb4
    go_wp2_with fail
    go_ret
    exact ⟨rfl, hb4⟩

theorem historyAbout_lifted (os : Os) (started : os.Started) (H : Type) (enc : TypeId × Value → H) :
    ReturnsInHanded {} Tryd.checked os 4 .any (fun w args => (Rows.historyAboutSpec.pre enc Tryd.prog Tryd.f4 Rows.historyAboutRow.domain false w args ∧ laidMetH Tryd.prog laidOf w) ∧ sizedMet enc Tryd.prog Tryd.f4 (OpenSpec.ofChange Rows.historyAboutSpec) false w args)
      (Rows.historyAboutSpec.post enc Tryd.prog Tryd.f4 false true false false) := by
  refine returns_shaped (C := Tryd.checked) (X := fun w _ => laidMetH Tryd.prog laidOf w) (fun _ _ _ hh h => h.of_heap hh) own started (by kernel_rfl) Tryd.func4
    (ChangeSpec.witness_shaped (enc := enc) (C := Tryd.checked) (os := os) (X := fun w _ => laidMetH Tryd.prog laidOf w) false (World.laidAll Tryd.prog os laidOf) #[.slice none 0 0, .string ⟨#[]⟩] 8 (World.laidAll_os _ _ _)
      (World.shaped_of_ZipB (by kernel_rfl) (by kernel_rfl)) (by kernel_rfl) (by kernel_rfl) (by kernel_rfl)
      (by rw [MakeChecks.laidMetH_plain _ _ _ laidOf_plain]; exact laidMet_laidAll _ (by kernel_rfl) (by kernel_rfl))) ?_
  intro W base args ds gs before hval0 hW hz hL hsh
  have hval : ∀ (j : Nat) t v, Tryd.f4.params[j]? = some t → args[j]? = some v → Value.okWide Tryd.prog W .any base t v := hval0
  have hW' := hW
  obtain ⟨p, q, hA0, hV, rfl, _, _⟩ := hW
  have hA : DataW.TrodAll enc Tryd.prog W 0 (fun _ => true) true Tryd.f4.params.toList args.toList ds p := hA0
  have hpar : Tryd.f4.params = #[26, 9] := by kernel_rfl
  rw [hpar] at hA hval
  obtain ⟨v0, v1, d0, d1, p0, p1, hargs, rfl, rfl, h0, h1⟩ := trodAll_two hA
  obtain rfl : args = #[v0, v1] := by first | exact hargs | (cases args; simp_all)
  obtain ⟨A0, cap0, ss0, rfl, hc0, hm0, hl0, hb0, he0⟩ := open_strs Tryd.underlying26 Tryd.underlying9 (by kernel_rfl) (hval 0 26 v0 rfl rfl) h0
  obtain ⟨x1, rfl, rfl, rfl, w1⟩ := open_string Tryd.underlying9 (hval 1 9 v1 rfl rfl) h1
  refine (historyAbout_calls A0 cap0 ss0 x1 W hl0 hc0 hm0 (fun s hs => (he0 s hs).2) (by simpa [maxLen] using w1) (env_of hL hsh)).mono fun e W' ⟨he, hbl⟩ => ?_
  subst he
  exact ⟨_, rfl, law_post rfl rfl (by kernel_rfl) hW' rfl rfl rfl hbl⟩

theorem historyAbout_row : Rows.HistoryAboutSaid :=
  OpenClaim.holds_of_wide 4 Tryd.f4 rfl rfl rfl rfl rfl rfl rfl ⟨rfl, rfl, rfl, rfl, rfl⟩ rfl rfl rfl rfl rfl (by kernel_rfl) Tryd.func4 (by kernel_rfl)
    (of_decide_eq_true (by kernel_rfl)) (by unfold Func.isWrapper; first | (rw [if_pos (by decide +kernel)]; kernel_rfl) | (rw [if_neg (by decide +kernel)]; exact ⟨rfl, rfl⟩))
    (fun os started H enc _ => historyAbout_lifted os started H enc)
theorem historyAbout_holds : Rows.HistoryAboutCardSaid :=
  Claim7.holds_tied_plain_at .later [] [.data, .pinned] true Rows.historyAboutCard.stood.harness false historyAbout_row (fun _ h => by cases h) (by kernel_rfl) (fun _ h => by cases h) historyAbout_row_tie rfl ⟨rfl, rfl⟩ (by kernel_rfl) rfl
    (fun f fn hf hfn => by
      obtain rfl : f = 4 := Option.some.inj ((show Tryd.prog.funcNamed Rows.historyAboutRow.func = some 4 by kernel_rfl).symm.trans hf) |>.symm
      obtain rfl : fn = Tryd.f4 := (Option.some.inj (Tryd.func4.symm.trans hfn)).symm
      exact ⟨by kernel_rfl, fun j t ht => by
        have hpar : Tryd.f4.params = #[26, 9] := by kernel_rfl
        rw [hpar] at ht
        have hm : t ∈ [26, 9] := by simpa using Array.mem_of_getElem? ht
        have hall : ([26, 9].all fun u => !Tryd.prog.wantsStandIn u) = true := by kernel_rfl
        exact (show Tryd.prog.wantsStandIn t = false by simpa using List.all_eq_true.1 hall t hm)⟩)
    (by kernel_rfl)
#print axioms historyAbout_holds
end Go.Proofs.YtleflnbcgkfojaaDoor
