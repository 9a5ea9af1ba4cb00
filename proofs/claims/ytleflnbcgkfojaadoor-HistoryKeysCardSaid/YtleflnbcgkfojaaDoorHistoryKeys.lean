/- Proved: henkanlaw31.HistoryKeys returns true for every string and every list of words: Keys returns what the reference does. No condition of ours. -/
import Derived.Test.YtleflnbcgkfojaaDoorBulk
import Derived.Test.YtleflnbcgkfojaaDoorHist8
namespace Go.Proofs.YtleflnbcgkfojaaDoor
open Go.ChangeShapes Go.WideShapes Go.ChangeAt Go.RowKit Go.Lib Go.Shelf Hk
open Go.ChangeMaps (open_string shut_string)
set_option linter.unusedSimpArgs false
set_option linter.unusedVariables false
set_option maxRecDepth 100000

set_option maxHeartbeats 1000000 in
theorem historyKeys_calls (prev : ByteArray) (A : Option Addr) (cap : Nat) (ws : List Wd) (w : World) (hp : prev.size ≤ 9223372036854775807) (hl : Lies w w.heap.size 2 A ws.length (wdCells ws)) (hc : ws.length ≤ cap) (hm : cap ≤ maxLen) (hs : WLight 9223372036854775807 ws) (he : Env w) :
    Calls Tryd.prog 3 #[.string prev, .slice A ws.length cap] w fun e w' => e = .returned (.bool true) ∧ Below w.heap.size w w' := by
  unfold maxLen at hm
  have HE := Lib.hid he
  have CW := Lib.hid works_calls
  have C0 := Lib.hid (light_calls prev A cap ws w hl (by omega) hp hs)
  cases hf : lightB prev ws with
  | false =>
    rw [hf] at C0
    clear he hl hs hf
    generalize ws.length = n at *
    go_enter Tryd.func3, Tryd.ntmps3
    go_wp2_with fail
    refine C0.out.mono ?_
    rintro e w1 ⟨rfl, hb1⟩
    go_wp2_with fail
    refine (CW.out _ (HE.out.below hb1)).mono ?_
    rintro e w2 ⟨rfl, hb2⟩
    replace hb2 := qtrans hb1 hb2
    clear hb1
    go_wp2_with fail
    go_ret
    exact ⟨rfl, hb2⟩
  | true =>
    rw [hf] at C0
    obtain ⟨h1, h2, h3⟩ := lightB_yes hf
    have hwl : WLight 1048576 ws := fun c hc => by have := h1 c hc; omega
    have C1 := Lib.hid fun W (h : Lies W W.heap.size 2 A ws.length (wdCells ws)) (hW : Env W) => keys_calls prev A cap ws W (by omega) h (by omega) hwl hW
    have C2 := Lib.hid fun W (h : Lies W W.heap.size 2 A ws.length (wdCells ws)) => refKeys_calls prev A cap ws W (by omega) h (by omega) hwl
    have CS := Lib.hid same_calls
    have HL := Lib.hid hl
    have hlen : (keysD prev ws).length ≤ 64 := by rw [keysD_all]; exact addAll_len _
    clear he hl hs hf h1 hwl
    generalize ws.length = n at *
    go_enter Tryd.func3, Tryd.ntmps3
    go_wp2_with fail
    refine C0.out.mono ?_
    rintro e w0 ⟨rfl, hb0⟩
    have hl0 := (HL.out.below hb0).up hb0.size
    have HL0 := Lib.hid hl0
    clear C0 HL
    go_wp2_with fail
    refine (C1.out _ hl0 (HE.out.below hb0)).mono ?_
    rintro e w1 ⟨v1, rfl, ho1, hb1⟩
    have hl1 := (HL0.out.below hb1).up hb1.size
    obtain ⟨A1, c1, rfl, _, _, k1'⟩ := own_lies ho1
    replace hb1 := qtrans hb0 hb1
    clear ho1 C1 HL0 hl0 hb0
    go_wp2_with fail
    refine (C2.out _ hl1).mono ?_
    rintro e w2 ⟨v2, rfl, ho2, hb2⟩
    obtain ⟨A2, c2, rfl, _, _, k2'⟩ := own_lies ho2
    have k1'' := k1'.below hb2
    replace hb2 := qtrans hb1 hb2
    clear ho2 C2 hl1 hb1 k1'
    go_wp2_with fail
    refine (CS.out _ _ _ _ _ _ _ _ _ rfl k1'' k2' (by omega)).mono ?_
    rintro e w3 ⟨rfl, hb3⟩
    replace hb3 := qtrans hb2 hb3
    clear hb2 k1'' k2'
    go_wp2_with fail
    refine (CW.out _ (HE.out.below hb3)).mono ?_
    rintro e w4 ⟨rfl, hb4⟩
    replace hb4 := qtrans hb3 hb4
    go_wp2_with fail
    go_ret
    exact ⟨rfl, hb4⟩

theorem historyKeys_lifted (os : Os) (started : os.Started) (H : Type) (enc : TypeId × Value → H) :
    ReturnsInHanded {} Tryd.checked os 3 .any (fun w args => (Rows.historyKeysSpec.pre enc Tryd.prog Tryd.f3 Rows.historyKeysRow.domain false w args ∧ laidMetH Tryd.prog laidOf w) ∧ sizedMet enc Tryd.prog Tryd.f3 (OpenSpec.ofChange Rows.historyKeysSpec) false w args)
      (Rows.historyKeysSpec.post enc Tryd.prog Tryd.f3 false true false false) := by
  refine returns_shaped (C := Tryd.checked) (X := fun w _ => laidMetH Tryd.prog laidOf w) (fun _ _ _ hh h => h.of_heap hh) own started (by kernel_rfl) Tryd.func3
    (ChangeSpec.witness_shaped (enc := enc) (C := Tryd.checked) (os := os) (X := fun w _ => laidMetH Tryd.prog laidOf w) false (World.laidAll Tryd.prog os laidOf) #[.string ⟨#[]⟩, .slice none 0 0] 8 (World.laidAll_os _ _ _)
      (World.shaped_of_ZipB (by kernel_rfl) (by kernel_rfl)) (by kernel_rfl) (by kernel_rfl) (by kernel_rfl)
      (by rw [MakeChecks.laidMetH_plain _ _ _ laidOf_plain]; exact laidMet_laidAll _ (by kernel_rfl) (by kernel_rfl))) ?_
  intro W base args ds gs before hval0 hW hz hL hsh
  have hval : ∀ (j : Nat) t v, Tryd.f3.params[j]? = some t → args[j]? = some v → Value.okWide Tryd.prog W .any base t v := hval0
  have hW' := hW
  obtain ⟨p, q, hA0, hV, rfl, _, _⟩ := hW
  have hA : DataW.TrodAll enc Tryd.prog W 0 (fun _ => true) true Tryd.f3.params.toList args.toList ds p := hA0
  have hpar : Tryd.f3.params = #[9, 22] := by kernel_rfl
  rw [hpar] at hA hval
  obtain ⟨v0, v1, d0, d1, p0, p1, hargs, rfl, rfl, h0, h1⟩ := trodAll_two hA
  obtain rfl : args = #[v0, v1] := by first | exact hargs | (cases args; simp_all)
  obtain ⟨x0, rfl, rfl, rfl, w0⟩ := open_string Tryd.underlying9 (hval 0 9 v0 rfl rfl) h0
  obtain ⟨A1, cap1, ss1, rfl, hc1, hm1, hl1, hb1, he1⟩ := open_words Tryd.underlying22 Tryd.underlying35 (by kernel_rfl) rfl rfl (by kernel_rfl) (by kernel_rfl) Tryd.underlying9 Tryd.underlying9 (hval 1 22 v1 rfl rfl) h1
  refine (historyKeys_calls x0 A1 cap1 ss1 W (by simpa [maxLen] using w0) hl1 hc1 hm1 (fun s hs => (he1 s hs).2) (env_of hL hsh)).mono fun e W' ⟨he, hbl⟩ => ?_
  subst he
  exact ⟨_, rfl, law_post rfl rfl (by kernel_rfl) hW' rfl rfl rfl hbl⟩

theorem historyKeys_row : Rows.HistoryKeysSaid :=
  OpenClaim.holds_of_wide 3 Tryd.f3 rfl rfl rfl rfl rfl rfl rfl ⟨rfl, rfl, rfl, rfl, rfl⟩ rfl rfl rfl rfl rfl (by kernel_rfl) Tryd.func3 (by kernel_rfl)
    (of_decide_eq_true (by kernel_rfl)) (by unfold Func.isWrapper; first | (rw [if_pos (by decide +kernel)]; kernel_rfl) | (rw [if_neg (by decide +kernel)]; exact ⟨rfl, rfl⟩))
    (fun os started H enc _ => historyKeys_lifted os started H enc)
theorem historyKeys_holds : Rows.HistoryKeysCardSaid :=
  Claim7.holds_tied_plain_at .later [] [.data, .pinned] true Rows.historyKeysCard.stood.harness false historyKeys_row (fun _ h => by cases h) (by kernel_rfl) (fun _ h => by cases h) historyKeys_row_tie rfl ⟨rfl, rfl⟩ (by kernel_rfl) rfl
    (fun f fn hf hfn => by
      obtain rfl : f = 3 := Option.some.inj ((show Tryd.prog.funcNamed Rows.historyKeysRow.func = some 3 by kernel_rfl).symm.trans hf) |>.symm
      obtain rfl : fn = Tryd.f3 := (Option.some.inj (Tryd.func3.symm.trans hfn)).symm
      exact ⟨by kernel_rfl, fun j t ht => by
        have hpar : Tryd.f3.params = #[9, 22] := by kernel_rfl
        rw [hpar] at ht
        have hm : t ∈ [9, 22] := by simpa using Array.mem_of_getElem? ht
        have hall : ([9, 22].all fun u => !Tryd.prog.wantsStandIn u) = true := by kernel_rfl
        exact (show Tryd.prog.wantsStandIn t = false by simpa using List.all_eq_true.1 hall t hm)⟩)
    (by kernel_rfl)
#print axioms historyKeys_holds
end Go.Proofs.YtleflnbcgkfojaaDoor
