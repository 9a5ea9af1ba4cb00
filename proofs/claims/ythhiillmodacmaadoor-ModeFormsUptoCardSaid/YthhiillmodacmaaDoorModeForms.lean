/- Proved: henkanlaw07.ModeForms returns true for every number and all strings, under the second form's own bound on sizes: Form returns what the reference does. -/
import Derived.Test.YthhiillmodacmaaDoorBulkM
import Derived.Test.YthhiillmodacmaaDoorMode2
namespace Go.Proofs.YthhiillmodacmaaDoor
open Go.ChangeShapes Go.WideShapes Go.ChangeAt Go.RowKit Go.Lib Go.Shelf Hk
open Go.ChangeMaps (open_string shut_string)
set_option linter.unusedSimpArgs false
set_option linter.unusedVariables false
set_option maxRecDepth 100000

set_option maxHeartbeats 1000000 in
theorem modeForms_calls (n : Int) (t r : ByteArray) (w : World) (hm : (Lit.int .i64 n).wf = true) (ht : t.size ≤ 1048576) (hr : r.size ≤ 1048576) (he : EnvM w) :
    Calls Tryd.prog 7 #[.int .i64 n, .string t, .string r] w fun e w' => e = .returned (.bool true) ∧ Below w.heap.size w w' := by
  have HE := Lib.hid he
  have CW := Lib.hid works_calls
  have C1 := Lib.hid (form_calls n t r w ht hr he.1)
  have C2 := Lib.hid fun W => refForm_calls n t r W ht hr
  generalize formS n t r = x at *
  generalize formB n = y at *
  have q : (x.toList == x.toList) = true := by simp
  have q2 : (y == y) = true := by simp
  clear he hm
  go_enter Tryd.func7, Tryd.ntmps7
  go_wp2_with fail
  refine C1.out.mono ?_
  rintro e w1 ⟨rfl, hb1⟩
  go_wp2_with fail
  refine (C2.out _).mono ?_
  rintro e w2 ⟨rfl, hb2⟩
  replace hb2 := qtrans hb1 hb2
  clear hb1
  go_wp2_with fail
  refine (CW.out _ (HE.out.below hb2)).mono ?_
  rintro e w3 ⟨rfl, hb3⟩
  replace hb3 := qtrans hb2 hb3
  clear hb2
  go_wp2_with fail
  go_ret
  exact ⟨rfl, hb3⟩

theorem modeForms_lifted (os : Os) (started : os.Started) (H : Type) (enc : TypeId × Value → H) (F : Stop.Interp) :
    ReturnsInHanded {} Tryd.checked os 7 .any ((Rows.OpenSpec.upto Rows.modeFormsSpec).preRow enc Tryd.prog Tryd.f7 Rows.modeFormsUptoRow.domain false Rows.modeFormsUptoRow.laid) (((Rows.OpenSpec.upto Rows.modeFormsSpec).at F).post enc Tryd.prog Tryd.f7 false true false false) := by
  have hx : ∃ ps, DataW.whole enc Tryd.prog ((World.laidAll Tryd.prog os laidOf).forCall (fun _ _ => 0) ⟨#[], #[.int .i64 0, .string ⟨#[]⟩, .string ⟨#[]⟩], []⟩).memory Tryd.f7.params.toList Rows.modeFormsSpec.vars false #[.int .i64 0, .string ⟨#[]⟩, .string ⟨#[]⟩].toList 8 = some ([.lit (.int .i64 0), .lit (.string []), .lit (.string [])], [], ps) := ⟨[], by kernel_rfl⟩
  obtain ⟨ps, hx⟩ := hx
  refine returnsInHanded_of_row (C := Tryd.checked) (s := Rows.OpenSpec.upto Rows.modeFormsSpec) own started (by kernel_rfl) Tryd.func7
    (witness_row_shaped (enc := enc) (C := Tryd.checked) (os := os) false (World.laidAll Tryd.prog os laidOf) #[.int .i64 0, .string ⟨#[]⟩, .string ⟨#[]⟩] (World.laidAll_os _ _ _)
      (World.shaped_of_ZipB (by kernel_rfl) (by kernel_rfl)) (by kernel_rfl)
      (OpenSpec.preRow_of_cond 8 hx (by kernel_rfl) (fun k hk => by cases hk; kernel_rfl) (by kernel_rfl)
        (show laidMetH Tryd.prog laidOf _ by rw [MakeChecks.laidMetH_plain _ _ _ laidOf_plain]; exact laidMet_laidAll _ (by kernel_rfl) (by kernel_rfl)))) ?_
  intro W base args ds gs before hval0 hW _ hcond hz hL hsh _
  have hval : ∀ (j : Nat) t v, Tryd.f7.params[j]? = some t → args[j]? = some v → Value.okWide Tryd.prog W .any base t v := hval0
  have hW' := hW
  obtain ⟨p, q, hA0, hV, rfl, _, _⟩ := hW
  obtain ⟨rfl, rfl⟩ := trodVars_none hV
  have hA : DataW.TrodAll enc Tryd.prog W 0 (fun _ => true) true Tryd.f7.params.toList args.toList ds p := hA0
  have hpar : Tryd.f7.params = #[3, 9, 9] := by kernel_rfl
  rw [hpar] at hA hval
  obtain ⟨v0, v1, v2, d0, d1, d2, p0, p1, p2, hargs, rfl, rfl, h0, h1, h2⟩ := trodAll_three hA
  obtain rfl : args = #[v0, v1, v2] := by first | exact hargs | (cases args; simp_all)
  have hbulk := bulk_bound (hcond _ rfl)
  have K0 : Rows.uptoBulk d0 ≤ 1048576 := Nat.le_trans (bulk_part (by simp)) hbulk
  have K1 : Rows.uptoBulk d1 ≤ 1048576 := Nat.le_trans (bulk_part (by simp)) hbulk
  have K2 : Rows.uptoBulk d2 ≤ 1048576 := Nat.le_trans (bulk_part (by simp)) hbulk
  obtain ⟨x0, rfl, rfl, rfl, w0⟩ := open_int Tryd.underlying3 (hval 0 3 v0 rfl rfl) h0
  obtain ⟨x1, rfl, rfl, rfl, w1⟩ := open_string Tryd.underlying9 (hval 1 9 v1 rfl rfl) h1
  obtain ⟨x2, rfl, rfl, rfl, w2⟩ := open_string Tryd.underlying9 (hval 2 9 v2 rfl rfl) h2
  refine (modeForms_calls x0 x1 x2 W w0 (str_bound K1) (str_bound K2) (envM_of hL hsh)).mono fun e W' ⟨he, hbl⟩ => ?_
  subst he
  exact ⟨_, rfl, law_post (s := Rows.modeFormsSpec) rfl rfl (by kernel_rfl) hW' rfl rfl rfl hbl⟩

theorem modeForms_row : Rows.ModeFormsUptoSaid :=
  OpenClaim.holds_of_cond 7 Tryd.f7 rfl rfl rfl rfl rfl rfl rfl ⟨rfl, rfl, rfl, rfl, rfl⟩ rfl rfl rfl rfl rfl (by kernel_rfl) Tryd.func7 (by kernel_rfl)
    (of_decide_eq_true (by kernel_rfl)) (by unfold Func.isWrapper; first | (rw [if_pos (by decide +kernel)]; kernel_rfl) | (rw [if_neg (by decide +kernel)]; exact ⟨rfl, rfl⟩))
    (fun os started H enc _ F => by rw [OpenClaim.pre_eq_preRow]; exact modeForms_lifted os started H enc F)
theorem modeForms_holds : Rows.ModeFormsUptoCardSaid :=
  Claim7.holds_tied_plain_at .later [] [.data, .data, .pinned] true Rows.modeFormsUptoCard.stood.harness false modeForms_row (fun _ h => by cases h) (by kernel_rfl) (fun _ h => by cases h) modeFormsUpto_row_tie rfl ⟨rfl, rfl⟩ (by kernel_rfl) rfl
    (fun f fn hf hfn => by
      obtain rfl : f = 7 := Option.some.inj ((show Tryd.prog.funcNamed Rows.modeFormsUptoRow.func = some 7 by kernel_rfl).symm.trans hf) |>.symm
      obtain rfl : fn = Tryd.f7 := (Option.some.inj (Tryd.func7.symm.trans hfn)).symm
      exact ⟨by kernel_rfl, fun j t ht => by
        have hpar : Tryd.f7.params = #[3, 9, 9] := by kernel_rfl
        rw [hpar] at ht
        have hm : t ∈ [3, 9, 9] := by simpa using Array.mem_of_getElem? ht
        have hall : ([3, 9, 9].all fun u => !Tryd.prog.wantsStandIn u) = true := by kernel_rfl
        exact (show Tryd.prog.wantsStandIn t = false by simpa using List.all_eq_true.1 hall t hm)⟩)
    (by kernel_rfl)
#print axioms modeForms_holds
end Go.Proofs.YthhiillmodacmaaDoor
