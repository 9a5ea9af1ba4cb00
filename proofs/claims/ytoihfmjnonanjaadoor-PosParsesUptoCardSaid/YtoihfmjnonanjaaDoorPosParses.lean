/- Proved: henkanlaw15.PosParses returns true for all lines, under the second form's own bound on sizes: Parse returns what the chapter specifies. -/
import Derived.Test.YtoihfmjnonanjaaDoorBulkP
import Derived.Test.YtoihfmjnonanjaaDoorPosBD
namespace Go.Proofs.YtoihfmjnonanjaaDoor
open Go.ChangeShapes Go.WideShapes Go.ChangeAt Go.RowKit Go.Lib Go.Shelf Hk
open Go.ChangeMaps (open_string shut_string)
set_option linter.unusedSimpArgs false
set_option linter.unusedVariables false
set_option maxRecDepth 100000

set_option maxHeartbeats 4000000 in
theorem posParses_calls (A : Option Addr) (cap : Nat) (ss : List ByteArray) (w : World) (hl : Lies w w.heap.size 1 A ss.length (ss.map Value.string)) (hc : ss.length ≤ cap) (hm : cap ≤ maxLen) (hn : ss.length ≤ 1048576) (hs : ∀ s ∈ ss, s.size ≤ 1048576) (he : Env w) :
    Calls Tryd.prog 4 #[.slice A ss.length cap] w fun e w' => e = .returned (.bool true) ∧ Below w.heap.size w w' := by
  have HE := Lib.hid he
  have CW := Lib.hid works_calls
  have HL := Lib.hid hl
  have CX := Lib.hid fun (W : World) (h : Lies W W.heap.size 1 A ss.length (ss.map Value.string)) => text_law A cap ss _ W h (Nat.le_refl _) hn hs
  have hsz : (joinB ss).size ≤ 9223372036854775807 := by
    have h1 := joinB_size ss 1048576 hs
    have h2 : ss.length * (1048576 + 1) ≤ 1048576 * (1048576 + 1) := Nat.mul_le_mul_right _ hn
    rw [size_list, joinB_list]
    omega
  generalize joinB ss = T at *
  have hlen := parseD_len T
  have CP := Lib.hid fun (W : World) (h : Env W) => parse_calls T W hsz h
  have CR := Lib.hid fun (W : World) => refParse_calls T W hsz
  unfold ParsePost at CP
  unfold RParsePost at CR
  obtain ⟨⟨l, x, y⟩, hr⟩ : ∃ r, r = parseD T := ⟨_, rfl⟩
  rw [← hr] at CP CR hlen
  simp only at CP CR hlen
  have CT := Lib.hid fun A c (W : World) (h : Lies W W.heap.size 2 A l.length (pcells l)) => taken_calls A c l _ W h (Nat.le_refl _) (by omega)
  have CS := Lib.hid fun A c A2 c2 (W : World) (h1 : Lies W W.heap.size 2 A l.length (pcells l)) (h2 : Lies W W.heap.size 2 A2 l.length (pcells l)) => same_calls A A2 c c2 l W _ _ h1 h2 (by omega)
  unfold NewPos at CT
  have s0 : (x == x) = true := by simp
  have s1 : (y == y) = true := by simp
  clear he hl hc hm hs hr hsz
  obtain ⟨m, hmm⟩ : ∃ m, m = l.length := ⟨_, rfl⟩
  rw [← hmm] at CP CR CT CS hlen
  obtain ⟨n, hnn⟩ : ∃ n, n = ss.length := ⟨_, rfl⟩
  rw [← hnn] at CX HL hn ⊢
  clear hmm hnn
  go_enter Tryd.func4, Tryd.ntmps4
  go_wp2_with fail
  refine (CX.out _ HL.out).mono ?_
  rintro e w1 ⟨rfl, hb1⟩
  go_wp2_with fail
  refine (CP.out _ (HE.out.below hb1)).mono ?_
  rintro e w2 ⟨v2, rfl, ho2, hb2⟩
  obtain ⟨A2, c2, rfl, _, _, k2⟩ := own_lies ho2
  have K2 := Lib.hid k2
  replace hb2 := qtrans hb1 hb2
  clear hb1 ho2 k2
  go_wp2_with fail
  refine (CX.out _ ((HL.out.below hb2).up hb2.size)).mono ?_
  rintro e w3 ⟨rfl, hb3⟩
  replace K2 := Lib.hid ((K2.out.below hb3).up hb3.size)
  replace hb3 := qtrans hb2 hb3
  clear hb2
  go_wp2_with fail
  refine (CR.out _).mono ?_
  rintro e w4 ⟨v4, rfl, ho4, hb4⟩
  obtain ⟨A4, c4, rfl, _, _, k4⟩ := own_lies ho4
  have K4 := Lib.hid k4
  replace K2 := Lib.hid ((K2.out.below hb4).up hb4.size)
  replace hb4 := qtrans hb3 hb4
  clear hb3 ho4 k4
  go_wp2_with fail
  refine (CT.out _ _ _ K4.out).mono ?_
  rintro e w5 ⟨v5, rfl, ho5, hb5⟩
  obtain ⟨A5, c5, rfl, _, _, k5⟩ := own_lies ho5
  have K5 := Lib.hid k5
  replace K2 := Lib.hid ((K2.out.below hb5).up hb5.size)
  replace hb5 := qtrans hb4 hb5
  clear hb4 ho5 k5 K4
  go_wp2_with fail
  refine (CS.out _ _ _ _ _ K2.out K5.out).mono ?_
  rintro e w6 ⟨rfl, hb6⟩
  replace hb6 := qtrans hb5 hb6
  clear hb5 K2 K5
  go_wp2_with fail
  refine (CW.out _ (HE.out.below hb6)).mono ?_
  rintro e w7 ⟨rfl, hb7⟩
  replace hb7 := qtrans hb6 hb7
  go_wp2_with fail
  go_ret
  exact ⟨rfl, hb7⟩

theorem posParses_lifted (os : Os) (started : os.Started) (H : Type) (enc : TypeId × Value → H) (F : Stop.Interp) :
    ReturnsInHanded {} Tryd.checked os 4 .any ((Rows.OpenSpec.upto Rows.posParsesSpec).preRow enc Tryd.prog Tryd.f4 Rows.posParsesUptoRow.domain false Rows.posParsesUptoRow.laid) (((Rows.OpenSpec.upto Rows.posParsesSpec).at F).post enc Tryd.prog Tryd.f4 false true false false) := by
  have hx : ∃ ps, DataW.whole enc Tryd.prog ((World.laidAll Tryd.prog os laidOf).forCall (fun _ _ => 0) ⟨#[], #[.slice none 0 0], []⟩).memory Tryd.f4.params.toList Rows.posParsesSpec.vars false #[.slice none 0 0].toList 8 = some ([.nil], [], ps) := ⟨[], by kernel_rfl⟩
  obtain ⟨ps, hx⟩ := hx
  refine returnsInHanded_of_row (C := Tryd.checked) (s := Rows.OpenSpec.upto Rows.posParsesSpec) own started (by kernel_rfl) Tryd.func4
    (witness_row_shaped (enc := enc) (C := Tryd.checked) (os := os) false (World.laidAll Tryd.prog os laidOf) #[.slice none 0 0] (World.laidAll_os _ _ _)
      (World.shaped_of_ZipB (by kernel_rfl) (by kernel_rfl)) (by kernel_rfl)
      (OpenSpec.preRow_of_cond 8 hx (by kernel_rfl) (fun k hk => by cases hk; kernel_rfl) (by kernel_rfl)
        (show laidMetH Tryd.prog laidOf _ by rw [MakeChecks.laidMetH_plain _ _ _ laidOf_plain]; exact laidMet_laidAll _ (by kernel_rfl) (by kernel_rfl)))) ?_
  intro W base args ds gs before hval0 hW _ hcond hz hL hsh _
  have hval : ∀ (j : Nat) t v, Tryd.f4.params[j]? = some t → args[j]? = some v → Value.okWide Tryd.prog W .any base t v := hval0
  have hW' := hW
  obtain ⟨p, q, hA0, hV, rfl, _, _⟩ := hW
  obtain ⟨rfl, rfl⟩ := trodVars_none hV
  have hA : DataW.TrodAll enc Tryd.prog W 0 (fun _ => true) true Tryd.f4.params.toList args.toList ds p := hA0
  have hpar : Tryd.f4.params = #[38] := by kernel_rfl
  rw [hpar] at hA hval
  obtain ⟨v0, d0, hargs, rfl, h0⟩ := trodAll_one hA
  obtain rfl : args = #[v0] := by first | exact hargs | (cases args; simp_all)
  have hbulk := bulk_bound (hcond _ rfl)
  have K0 : Rows.uptoBulk d0 ≤ 1048576 := Nat.le_trans (bulk_part (by simp)) hbulk
  obtain ⟨A0, cap0, ss0, rfl, hc0, hm0, hl0, hb0, he0⟩ := open_strs Tryd.underlying38 Tryd.underlying9 (by kernel_rfl) (hval 0 38 v0 rfl rfl) h0
  refine (posParses_calls A0 cap0 ss0 W hl0 hc0 hm0 (Nat.le_trans hb0 K0) (fun s hs => Nat.le_trans (he0 s hs).1 K0) (env_of hL hsh)).mono fun e W' ⟨he, hbl⟩ => ?_
  subst he
  exact ⟨_, rfl, law_post (s := Rows.posParsesSpec) rfl rfl (by kernel_rfl) hW' rfl rfl rfl hbl⟩

theorem posParses_row : Rows.PosParsesUptoSaid :=
  OpenClaim.holds_of_cond 4 Tryd.f4 rfl rfl rfl rfl rfl rfl rfl ⟨rfl, rfl, rfl, rfl, rfl⟩ rfl rfl rfl rfl rfl (by kernel_rfl) Tryd.func4 (by kernel_rfl)
    (of_decide_eq_true (by kernel_rfl)) (by unfold Func.isWrapper; first | (rw [if_pos (by decide +kernel)]; kernel_rfl) | (rw [if_neg (by decide +kernel)]; exact ⟨rfl, rfl⟩))
    (fun os started H enc _ F => by rw [OpenClaim.pre_eq_preRow]; exact posParses_lifted os started H enc F)
theorem posParses_holds : Rows.PosParsesUptoCardSaid :=
  Claim7.holds_tied_plain_at .later [] [.data, .widerDeep, .pinned] true Rows.posParsesUptoCard.stood.harness true posParses_row (fun _ h => by cases h) (by kernel_rfl) (fun _ h => by cases h) posParsesUpto_row_tie rfl ⟨rfl, rfl⟩ (by kernel_rfl) rfl
    (fun f fn hf hfn => by
      obtain rfl : f = 4 := Option.some.inj ((show Tryd.prog.funcNamed Rows.posParsesUptoRow.func = some 4 by kernel_rfl).symm.trans hf) |>.symm
      obtain rfl : fn = Tryd.f4 := (Option.some.inj (Tryd.func4.symm.trans hfn)).symm
      exact ⟨by kernel_rfl, fun j t ht => by
        have hpar : Tryd.f4.params = #[38] := by kernel_rfl
        rw [hpar] at ht
        have hm : t ∈ [38] := by simpa using Array.mem_of_getElem? ht
        have hall : ([38].all fun u => !Tryd.prog.wantsStandIn u) = true := by kernel_rfl
        exact (show Tryd.prog.wantsStandIn t = false by simpa using List.all_eq_true.1 hall t hm)⟩)
    (by kernel_rfl)
#print axioms posParses_holds
end Go.Proofs.YtoihfmjnonanjaaDoor
