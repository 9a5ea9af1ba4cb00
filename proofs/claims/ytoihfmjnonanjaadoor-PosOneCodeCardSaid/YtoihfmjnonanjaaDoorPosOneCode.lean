/- Proved: henkanlaw15.PosOneCode returns true for all bytes: bytes that are decoded are the code of the list. No condition of ours. -/
import Derived.Test.YtoihfmjnonanjaaDoorBulkU
namespace Go.Proofs.YtoihfmjnonanjaaDoor
open Go.ChangeShapes Go.WideShapes Go.ChangeAt Go.RowKit Go.Lib Go.Shelf Hk
open Go.ChangeMaps (open_string shut_string)
set_option linter.unusedSimpArgs false
set_option linter.unusedVariables false
set_option maxRecDepth 100000

set_option maxHeartbeats 4000000 in
theorem posOneCode_calls (A : Option Addr) (cap : Nat) (bs : List UInt8) (w : World) (hl : Lies w w.heap.size 1 A bs.length (byteCells bs)) (hc : bs.length ≤ cap) (hm : cap ≤ maxLen) (_ : bs.length = bs.length) (he : Env w) :
    Calls Tryd.prog 11 #[.slice A bs.length cap] w fun e w' => e = .returned (.bool true) ∧ Below w.heap.size w w' := by
  have HE := Lib.hid he
  have CW := Lib.hid works_calls
  have HL := Lib.hid hl
  have C1 := Lib.hid (decode_calls A bs.length cap bs w hl rfl hc hm)
  unfold DecPost at C1
  clear he hl
  obtain ⟨n, hnn⟩ : ∃ n, n = bs.length := ⟨_, rfl⟩
  have HN := Lib.hid hnn
  rw [← hnn] at C1 HL hc ⊢
  clear hnn
  rcases hd : decL bs with _ | r
  · rw [decR_none hd, decE_none hd] at C1
    clear hd
    go_enter Tryd.func11, Tryd.ntmps11
    go_wp2_with fail
    refine C1.out.mono ?_
    rintro e w1 ⟨v, rfl, ho, hb1⟩
    obtain ⟨A1, c1, rfl, _, _⟩ := own_slice ho
    simp only [List.length_nil]
    clear ho C1
    go_wp2_with fail
    refine (CW.out _ (HE.out.below hb1)).mono ?_
    rintro e w2 ⟨rfl, hb2⟩
    replace hb2 := qtrans hb1 hb2
    go_wp2_with fail
    go_ret
    exact ⟨rfl, hb2⟩
  · obtain ⟨he1, hok⟩ := decL_spec hd
    have h64 := ok_len hok
    have C2 := Lib.hid fun A' c W (h : Lies W W.heap.size 2 A' r.length (pcells r)) => encode_calls A' c r W h (by unfold maxLen; omega)
    have C3 := Lib.hid fun A' c W (h : Lies W W.heap.size 2 A' r.length (pcells r)) => check_calls A' c r W h (by unfold maxLen; omega)
    rw [decR_some hd, decE_some hd] at C1
    unfold EncPost at C2
    rw [checkI_yes hok, encB_ok hok, he1] at C2
    rw [checkI_yes hok] at C3
    have HCV := Lib.hid fun (W : World) (hb : Below w.heap.size w W) => conv_lies (cap := cap) (HL.out.below hb) HN.out
    have HCW := Lib.hid fun (W : World) A' c (h : Lies W W.heap.size 1 A' bs.length (byteCells bs)) => conv_lies (cap := c) h rfl
    rw [← HN.out] at C2 HCW
    clear hd hok he1
    have s0 : ((⟨bs.toArray⟩ : ByteArray).toList == (⟨bs.toArray⟩ : ByteArray).toList) = true := by simp
    generalize (⟨bs.toArray⟩ : ByteArray) = S at *
    obtain ⟨m, hmm⟩ : ∃ m, m = r.length := ⟨_, rfl⟩
    rw [← hmm] at C1 C2 C3 h64
    clear hmm
    go_enter Tryd.func11, Tryd.ntmps11
    go_wp2_with fail
    refine C1.out.mono ?_
    rintro e w1 ⟨v, rfl, ho, hb1⟩
    obtain ⟨A1, c1, rfl, _, _, k1⟩ := own_lies ho
    have K1 := Lib.hid k1
    clear ho C1 k1
    go_wp2_with fail
    refine (C2.out _ _ _ K1.out).mono ?_
    rintro e w2 ⟨v2, rfl, ho2, hb2⟩
    obtain ⟨A2, c2, rfl, _, _, k2⟩ := own_lies ho2
    have h1 := HCV.out w2 (qtrans hb1 hb2)
    have h2 := HCW.out w2 A2 c2 k2
    have K2 := Lib.hid ((K1.out.below hb2).up hb2.size)
    replace hb2 := qtrans hb1 hb2
    clear hb1 ho2 k2 C2
    go_wp2_with fail
    refine (C3.out _ _ _ K2.out).mono ?_
    rintro e w3 ⟨rfl, hb3⟩
    replace hb3 := qtrans hb2 hb3
    clear hb2 h1 h2 C3
    go_wp2_with fail
    refine (CW.out _ (HE.out.below hb3)).mono ?_
    rintro e w4 ⟨rfl, hb4⟩
    replace hb4 := qtrans hb3 hb4
    go_wp2_with fail
    go_ret
    exact ⟨rfl, hb4⟩

theorem posOneCode_lifted (os : Os) (started : os.Started) (H : Type) (enc : TypeId × Value → H) :
    ReturnsInHanded {} Tryd.checked os 11 .any (fun w args => (Rows.posOneCodeSpec.pre enc Tryd.prog Tryd.f11 Rows.posOneCodeRow.domain false w args ∧ laidMetH Tryd.prog laidOf w) ∧ sizedMet enc Tryd.prog Tryd.f11 (OpenSpec.ofChange Rows.posOneCodeSpec) false w args)
      (Rows.posOneCodeSpec.post enc Tryd.prog Tryd.f11 false true false false) := by
  refine returns_shaped (C := Tryd.checked) (X := fun w _ => laidMetH Tryd.prog laidOf w) (fun _ _ _ hh h => h.of_heap hh) own started (by kernel_rfl) Tryd.func11
    (ChangeSpec.witness_shaped (enc := enc) (C := Tryd.checked) (os := os) (X := fun w _ => laidMetH Tryd.prog laidOf w) false (World.laidAll Tryd.prog os laidOf) #[.slice none 0 0] 8 (World.laidAll_os _ _ _)
      (World.shaped_of_ZipB (by kernel_rfl) (by kernel_rfl)) (by kernel_rfl) (by kernel_rfl) (by kernel_rfl)
      (by rw [MakeChecks.laidMetH_plain _ _ _ laidOf_plain]; exact laidMet_laidAll _ (by kernel_rfl) (by kernel_rfl))) ?_
  intro W base args ds gs before hval0 hW hz hL hsh
  have hval : ∀ (j : Nat) t v, Tryd.f11.params[j]? = some t → args[j]? = some v → Value.okWide Tryd.prog W .any base t v := hval0
  have hW' := hW
  obtain ⟨p, q, hA0, hV, rfl, _, _⟩ := hW
  have hA : DataW.TrodAll enc Tryd.prog W 0 (fun _ => true) true Tryd.f11.params.toList args.toList ds p := hA0
  have hpar : Tryd.f11.params = #[29] := by kernel_rfl
  rw [hpar] at hA hval
  obtain ⟨v0, d0, hargs, rfl, h0⟩ := trodAll_one hA
  obtain rfl : args = #[v0] := by first | exact hargs | (cases args; simp_all)
  obtain ⟨A0, cap0, ss0, rfl, hc0, hm0, hl0, hb0, he0⟩ := open_u8s Tryd.underlying29 Tryd.underlying5 (by kernel_rfl) (hval 0 29 v0 rfl rfl) h0
  refine (posOneCode_calls A0 cap0 ss0 W hl0 hc0 hm0 he0 (env_of hL hsh)).mono fun e W' ⟨he, hbl⟩ => ?_
  subst he
  exact ⟨_, rfl, law_post rfl rfl (by kernel_rfl) hW' rfl rfl rfl hbl⟩

theorem posOneCode_row : Rows.PosOneCodeSaid :=
  OpenClaim.holds_of_wide 11 Tryd.f11 rfl rfl rfl rfl rfl rfl rfl ⟨rfl, rfl, rfl, rfl, rfl⟩ rfl rfl rfl rfl rfl (by kernel_rfl) Tryd.func11 (by kernel_rfl)
    (of_decide_eq_true (by kernel_rfl)) (by unfold Func.isWrapper; first | (rw [if_pos (by decide +kernel)]; kernel_rfl) | (rw [if_neg (by decide +kernel)]; exact ⟨rfl, rfl⟩))
    (fun os started H enc _ => posOneCode_lifted os started H enc)
theorem posOneCode_holds : Rows.PosOneCodeCardSaid :=
  Claim7.holds_tied_plain_at .later [] [.data, .widerDeep, .pinned] true Rows.posOneCodeCard.stood.harness true posOneCode_row (fun _ h => by cases h) (by kernel_rfl) (fun _ h => by cases h) posOneCode_row_tie rfl ⟨rfl, rfl⟩ (by kernel_rfl) rfl
    (fun f fn hf hfn => by
      obtain rfl : f = 11 := Option.some.inj ((show Tryd.prog.funcNamed Rows.posOneCodeRow.func = some 11 by kernel_rfl).symm.trans hf) |>.symm
      obtain rfl : fn = Tryd.f11 := (Option.some.inj (Tryd.func11.symm.trans hfn)).symm
      exact ⟨by kernel_rfl, fun j t ht => by
        have hpar : Tryd.f11.params = #[29] := by kernel_rfl
        rw [hpar] at ht
        have hm : t ∈ [29] := by simpa using Array.mem_of_getElem? ht
        have hall : ([29].all fun u => !Tryd.prog.wantsStandIn u) = true := by kernel_rfl
        exact (show Tryd.prog.wantsStandIn t = false by simpa using List.all_eq_true.1 hall t hm)⟩)
    (by kernel_rfl)
#print axioms posOneCode_holds
end Go.Proofs.YtoihfmjnonanjaaDoor
