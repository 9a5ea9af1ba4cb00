/- Proved: henkanlaw32.BoostPairs returns true for every list of counts of bulk at most 1048576 (the second form): the pairs of counts are those of the reference. No condition of ours. -/
import Derived.Test.YtipocnkaemkegaaDoorBulk
import Derived.Test.YtipocnkaemkegaaDoorBoostR
namespace Go.Proofs.YtipocnkaemkegaaDoor
open Go.ChangeShapes Go.WideShapes Go.ChangeAt Go.RowKit Go.Lib Go.Shelf Hk
open Go.ChangeMaps (open_string shut_string)
set_option linter.unusedSimpArgs false
set_option linter.unusedVariables false
set_option maxRecDepth 100000

set_option maxHeartbeats 1000000 in
theorem boostPairs_calls (A : Option Addr) (cap : Nat) (cs : List Cnt) (w : World) (hl : Lies w w.heap.size 2 A cs.length (cntCells cs)) (hc : cs.length ≤ cap) (hm : cap ≤ maxLen) (hn : cs.length ≤ 1048576) (hcs : Light cs) (he : Env w) :
    Calls Tryd.prog 5 #[.slice A cs.length cap] w fun e w' => e = .returned (.bool true) ∧ Below w.heap.size w w' := by
  have HE := Lib.hid he
  have C1 := Lib.hid (pairs_calls A cap cs w hl hn hcs he)
  have C2 := Lib.hid fun W (h : Lies W W.heap.size 2 A cs.length (cntCells cs)) (hW : Env W) => refP_calls A cap cs W h hn hcs hW
  have CS := Lib.hid sameP_calls
  have CW := Lib.hid works_calls
  have HL := Lib.hid hl
  have hlen := many_length 2 cs
  clear he hl hcs hc hm
  generalize cs.length = n at *
  go_enter Tryd.func5, Tryd.ntmps5
  go_wp2_with fail
  refine C1.out.mono ?_
  rintro e w1 ⟨v1, rfl, ho1, hb1⟩
  have hl1 := (HL.out.below hb1).up hb1.size
  obtain ⟨A1, c1, rfl, _, _, k1⟩ := own_lies ho1
  have HE1 := Lib.hid (HE.out.below hb1)
  clear ho1 HE C1 HL
  go_wp2_with fail
  refine (C2.out _ hl1 HE1.out).mono ?_
  rintro e w2 ⟨v2, rfl, ho2, hb2⟩
  obtain ⟨A2, c2, rfl, _, _, k2⟩ := own_lies ho2
  have k1 := k1.below hb2
  have HE2 := Lib.hid (HE1.out.below hb2)
  replace hb2 := qtrans hb1 hb2
  clear ho2 HE1 C2 hl1 hb1
  go_wp2_with fail
  refine (CS.out _ _ _ _ _ _ _ _ k1 k2 (by omega)).mono ?_
  rintro e w3 ⟨rfl, hb3⟩
  have HE3 := Lib.hid (HE2.out.below hb3)
  replace hb3 := qtrans hb2 hb3
  clear hb2 k1 k2 HE2
  go_wp2_with fail
  refine (CW.out _ HE3.out).mono ?_
  rintro e w4 ⟨rfl, hb4⟩
  replace hb4 := qtrans hb3 hb4
  go_wp2_with fail
  go_ret
  exact ⟨rfl, hb4⟩

theorem boostPairs_lifted (os : Os) (started : os.Started) (H : Type) (enc : TypeId × Value → H) (F : Stop.Interp) :
    ReturnsInHanded {} Tryd.checked os 5 .any ((Rows.OpenSpec.upto Rows.boostPairsSpec).preRow enc Tryd.prog Tryd.f5 Rows.boostPairsUptoRow.domain false Rows.boostPairsUptoRow.laid) (((Rows.OpenSpec.upto Rows.boostPairsSpec).at F).post enc Tryd.prog Tryd.f5 false true false false) := by
  have hx : ∃ ps, DataW.whole enc Tryd.prog ((World.laidAll Tryd.prog os laidOf).forCall (fun _ _ => 0) ⟨#[], #[.slice none 0 0], []⟩).memory Tryd.f5.params.toList Rows.boostPairsSpec.vars false #[.slice none 0 0].toList 8 = some ([.nil], [], ps) := ⟨[], by kernel_rfl⟩
  obtain ⟨ps, hx⟩ := hx
  refine returnsInHanded_of_row (C := Tryd.checked) (s := Rows.OpenSpec.upto Rows.boostPairsSpec) own started (by kernel_rfl) Tryd.func5
    (witness_row_shaped (enc := enc) (C := Tryd.checked) (os := os) false (World.laidAll Tryd.prog os laidOf) #[.slice none 0 0] (World.laidAll_os _ _ _)
      (World.shaped_of_ZipB (by kernel_rfl) (by kernel_rfl)) (by kernel_rfl)
      (OpenSpec.preRow_of_cond 8 hx (by kernel_rfl) (fun k hk => by cases hk; kernel_rfl) (by kernel_rfl)
        (show laidMetH Tryd.prog laidOf _ by rw [MakeChecks.laidMetH_plain _ _ _ laidOf_plain]; exact laidMet_laidAll _ (by kernel_rfl) (by kernel_rfl)))) ?_
  intro W base args ds gs before hval0 hW _ hcond hz hL hsh _
  have hval : ∀ (j : Nat) t v, Tryd.f5.params[j]? = some t → args[j]? = some v → Value.okWide Tryd.prog W .any base t v := hval0
  have hW' := hW
  obtain ⟨p, q, hA0, hV, rfl, _, _⟩ := hW
  obtain ⟨rfl, rfl⟩ := trodVars_none hV
  have hA : DataW.TrodAll enc Tryd.prog W 0 (fun _ => true) true Tryd.f5.params.toList args.toList ds p := hA0
  have hpar : Tryd.f5.params = #[25] := by kernel_rfl
  rw [hpar] at hA hval
  obtain ⟨v0, d0, hargs, rfl, h0⟩ := trodAll_one hA
  obtain rfl : args = #[v0] := by first | exact hargs | (cases args; simp_all)
  have hbulk := bulk_bound (hcond _ rfl)
  have K0 : Rows.uptoBulk d0 ≤ 1048576 := Nat.le_trans (bulk_part (by simp)) hbulk
  obtain ⟨A0, cap0, ss0, rfl, hc0, hm0, hl0, hb0, he0⟩ := open_pairs Tryd.underlying25 Tryd.underlying39 (by kernel_rfl) rfl rfl (by kernel_rfl) (by kernel_rfl) Tryd.underlying9 Tryd.underlying3 (hval 0 25 v0 rfl rfl) h0
  refine (boostPairs_calls A0 cap0 ss0 W hl0 hc0 hm0 (Nat.le_trans hb0 K0) (fun s hs => ⟨Nat.le_trans (he0 s hs).1 K0, (he0 s hs).2.2⟩) (env_of hL hsh)).mono fun e W' ⟨he, hbl⟩ => ?_
  subst he
  exact ⟨_, rfl, law_post (s := Rows.boostPairsSpec) rfl rfl (by kernel_rfl) hW' rfl rfl rfl hbl⟩

theorem boostPairs_row : Rows.BoostPairsUptoSaid :=
  OpenClaim.holds_of_cond 5 Tryd.f5 rfl rfl rfl rfl rfl rfl rfl ⟨rfl, rfl, rfl, rfl, rfl⟩ rfl rfl rfl rfl rfl (by kernel_rfl) Tryd.func5 (by kernel_rfl)
    (of_decide_eq_true (by kernel_rfl)) (by unfold Func.isWrapper; first | (rw [if_pos (by decide +kernel)]; kernel_rfl) | (rw [if_neg (by decide +kernel)]; exact ⟨rfl, rfl⟩))
    (fun os started H enc _ F => by rw [OpenClaim.pre_eq_preRow]; exact boostPairs_lifted os started H enc F)
theorem boostPairs_holds : Rows.BoostPairsUptoCardSaid :=
  Claim7.holds_tied_plain_at .later [] [.data, .pinned] true Rows.boostPairsUptoCard.stood.harness false boostPairs_row (fun _ h => by cases h) (by kernel_rfl) (fun _ h => by cases h) boostPairsUpto_row_tie rfl ⟨rfl, rfl⟩ (by kernel_rfl) rfl
    (fun f fn hf hfn => by
      obtain rfl : f = 5 := Option.some.inj ((show Tryd.prog.funcNamed Rows.boostPairsUptoRow.func = some 5 by kernel_rfl).symm.trans hf) |>.symm
      obtain rfl : fn = Tryd.f5 := (Option.some.inj (Tryd.func5.symm.trans hfn)).symm
      exact ⟨by kernel_rfl, fun j t ht => by
        have hpar : Tryd.f5.params = #[25] := by kernel_rfl
        rw [hpar] at ht
        have hm : t ∈ [25] := by simpa using Array.mem_of_getElem? ht
        have hall : ([25].all fun u => !Tryd.prog.wantsStandIn u) = true := by kernel_rfl
        exact (show Tryd.prog.wantsStandIn t = false by simpa using List.all_eq_true.1 hall t hm)⟩)
    (by kernel_rfl)
#print axioms boostPairs_holds
end Go.Proofs.YtipocnkaemkegaaDoor
