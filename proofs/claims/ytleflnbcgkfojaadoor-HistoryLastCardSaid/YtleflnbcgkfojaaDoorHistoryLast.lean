/- Proved: henkanlaw31.HistoryLast returns true for every string and every list of words: the last surface is that of the reference. No condition of ours. -/
import Derived.Test.YtleflnbcgkfojaaDoorBulk
import Derived.Test.YtleflnbcgkfojaaDoorHist6
namespace Go.Proofs.YtleflnbcgkfojaaDoor
open Go.ChangeShapes Go.WideShapes Go.ChangeAt Go.RowKit Go.Lib Go.Shelf Hk
open Go.ChangeMaps (open_string shut_string)
set_option linter.unusedSimpArgs false
set_option linter.unusedVariables false
set_option maxRecDepth 100000

set_option maxHeartbeats 1000000 in
theorem historyLast_calls (prev : ByteArray) (A : Option Addr) (cap : Nat) (ws : List Wd) (w : World) (hp : prev.size ≤ 9223372036854775807) (hl : Lies w w.heap.size 2 A ws.length (wdCells ws)) (hc : ws.length ≤ cap) (hm : cap ≤ maxLen) (hs : WLight 9223372036854775807 ws) (he : Env w) :
    Calls Tryd.prog 8 #[.string prev, .slice A ws.length cap] w fun e w' => e = .returned (.bool true) ∧ Below w.heap.size w w' := by
  unfold maxLen at hm
  have HE := Lib.hid he
  have CW := Lib.hid works_calls
  have C1 := Lib.hid (last_calls prev A cap ws w _ hl (by omega))
  have C2 := Lib.hid (refLast_calls prev A cap ws w _ hl (by omega))
  clear he hl hs
  generalize lastD prev ws = x at *
  generalize ws.length = n at *
  have hx : (x.toList == x.toList) = true := by simp
  go_enter Tryd.func8, Tryd.ntmps8
  go_wp2_with fail
  refine C1.out.mono ?_
  rintro e w1 ⟨rfl, rfl⟩
  go_wp2_with fail
  refine C2.out.mono ?_
  rintro e w1 ⟨rfl, rfl⟩
  go_wp2_with fail
  refine (Lib.hid (CW.out _ HE.out)).out.mono ?_
  rintro e w1 ⟨rfl, hb1⟩
  go_wp2_with fail
  go_ret
  exact ⟨rfl, hb1⟩

theorem historyLast_lifted (os : Os) (started : os.Started) (H : Type) (enc : TypeId × Value → H) :
    ReturnsInHanded {} Tryd.checked os 8 .any (fun w args => (Rows.historyLastSpec.pre enc Tryd.prog Tryd.f8 Rows.historyLastRow.domain false w args ∧ laidMetH Tryd.prog laidOf w) ∧ sizedMet enc Tryd.prog Tryd.f8 (OpenSpec.ofChange Rows.historyLastSpec) false w args)
      (Rows.historyLastSpec.post enc Tryd.prog Tryd.f8 false true false false) := by
  refine returns_shaped (C := Tryd.checked) (X := fun w _ => laidMetH Tryd.prog laidOf w) (fun _ _ _ hh h => h.of_heap hh) own started (by kernel_rfl) Tryd.func8
    (ChangeSpec.witness_shaped (enc := enc) (C := Tryd.checked) (os := os) (X := fun w _ => laidMetH Tryd.prog laidOf w) false (World.laidAll Tryd.prog os laidOf) #[.string ⟨#[]⟩, .slice none 0 0] 8 (World.laidAll_os _ _ _)
      (World.shaped_of_ZipB (by kernel_rfl) (by kernel_rfl)) (by kernel_rfl) (by kernel_rfl) (by kernel_rfl)
      (by rw [MakeChecks.laidMetH_plain _ _ _ laidOf_plain]; exact laidMet_laidAll _ (by kernel_rfl) (by kernel_rfl))) ?_
  intro W base args ds gs before hval0 hW hz hL hsh
  have hval : ∀ (j : Nat) t v, Tryd.f8.params[j]? = some t → args[j]? = some v → Value.okWide Tryd.prog W .any base t v := hval0
  have hW' := hW
  obtain ⟨p, q, hA0, hV, rfl, _, _⟩ := hW
  have hA : DataW.TrodAll enc Tryd.prog W 0 (fun _ => true) true Tryd.f8.params.toList args.toList ds p := hA0
  have hpar : Tryd.f8.params = #[9, 22] := by kernel_rfl
  rw [hpar] at hA hval
  obtain ⟨v0, v1, d0, d1, p0, p1, hargs, rfl, rfl, h0, h1⟩ := trodAll_two hA
  obtain rfl : args = #[v0, v1] := by first | exact hargs | (cases args; simp_all)
  obtain ⟨x0, rfl, rfl, rfl, w0⟩ := open_string Tryd.underlying9 (hval 0 9 v0 rfl rfl) h0
  obtain ⟨A1, cap1, ss1, rfl, hc1, hm1, hl1, hb1, he1⟩ := open_words Tryd.underlying22 Tryd.underlying35 (by kernel_rfl) rfl rfl (by kernel_rfl) (by kernel_rfl) Tryd.underlying9 Tryd.underlying9 (hval 1 22 v1 rfl rfl) h1
  refine (historyLast_calls x0 A1 cap1 ss1 W (by simpa [maxLen] using w0) hl1 hc1 hm1 (fun s hs => (he1 s hs).2) (env_of hL hsh)).mono fun e W' ⟨he, hbl⟩ => ?_
  subst he
  exact ⟨_, rfl, law_post rfl rfl (by kernel_rfl) hW' rfl rfl rfl hbl⟩

theorem historyLast_row : Rows.HistoryLastSaid :=
  OpenClaim.holds_of_wide 8 Tryd.f8 rfl rfl rfl rfl rfl rfl rfl ⟨rfl, rfl, rfl, rfl, rfl⟩ rfl rfl rfl rfl rfl (by kernel_rfl) Tryd.func8 (by kernel_rfl)
    (of_decide_eq_true (by kernel_rfl)) (by unfold Func.isWrapper; first | (rw [if_pos (by decide +kernel)]; kernel_rfl) | (rw [if_neg (by decide +kernel)]; exact ⟨rfl, rfl⟩))
    (fun os started H enc _ => historyLast_lifted os started H enc)
theorem historyLast_holds : Rows.HistoryLastCardSaid :=
  Claim7.holds_tied_plain_at .later [] [.data, .pinned] true Rows.historyLastCard.stood.harness false historyLast_row (fun _ h => by cases h) (by kernel_rfl) (fun _ h => by cases h) historyLast_row_tie rfl ⟨rfl, rfl⟩ (by kernel_rfl) rfl
    (fun f fn hf hfn => by
      obtain rfl : f = 8 := Option.some.inj ((show Tryd.prog.funcNamed Rows.historyLastRow.func = some 8 by kernel_rfl).symm.trans hf) |>.symm
      obtain rfl : fn = Tryd.f8 := (Option.some.inj (Tryd.func8.symm.trans hfn)).symm
      exact ⟨by kernel_rfl, fun j t ht => by
        have hpar : Tryd.f8.params = #[9, 22] := by kernel_rfl
        rw [hpar] at ht
        have hm : t ∈ [9, 22] := by simpa using Array.mem_of_getElem? ht
        have hall : ([9, 22].all fun u => !Tryd.prog.wantsStandIn u) = true := by kernel_rfl
        exact (show Tryd.prog.wantsStandIn t = false by simpa using List.all_eq_true.1 hall t hm)⟩)
    (by kernel_rfl)
#print axioms historyLast_holds
end Go.Proofs.YtleflnbcgkfojaaDoor
