/- Proved: henkanlaw15.PosCodes returns true for every list and all bytes: Encode and Decode return what the chapter specifies. No condition of ours. -/
import Derived.Test.YtoihfmjnonanjaaDoorBulkU
namespace Go.Proofs.YtoihfmjnonanjaaDoor
open Go.ChangeShapes Go.WideShapes Go.ChangeAt Go.RowKit Go.Lib Go.Shelf Hk
open Go.ChangeMaps (open_string shut_string)
set_option linter.unusedSimpArgs false
set_option linter.unusedVariables false
set_option maxRecDepth 100000

theorem refDecode_none {bs : List UInt8} (hd : decL bs = none) {w : World} {e : Ending} {w' : World} (h : RDecPost bs w e w') : ∃ A n c, e = .returned (.tuple #[.slice A n c, .bool false]) ∧ Below w.heap.size w w' := by
  obtain ⟨v, acc, b, rfl, h2, h3, h4⟩ := h
  cases b with
  | true => rw [hd] at h2; simp at h2
  | false =>
    obtain ⟨A, c, rfl, _⟩ := own_slice h3
    exact ⟨A, _, c, rfl, h4⟩
theorem refDecode_some {bs : List UInt8} {r : List P2} (hd : decL bs = some r) {w : World} {e : Ending} {w' : World} (h : RDecPost bs w e w') : ∃ A c, e = .returned (.tuple #[.slice A r.length c, .bool true]) ∧ Lies w' w'.heap.size 2 A r.length (pcells r) ∧ Below w.heap.size w w' := by
  obtain ⟨v, acc, b, rfl, h2, h3, h4⟩ := h
  cases b with
  | false => rw [hd] at h2; simp at h2
  | true =>
    rw [hd] at h2
    obtain rfl : r = acc := by simpa using h2
    obtain ⟨A, c, rfl, _, _, hk⟩ := own_lies h3
    exact ⟨A, c, rfl, hk, h4⟩
set_option maxHeartbeats 8000000 in
theorem posCodes_calls (A : Option Addr) (cap : Nat) (l : List P2) (A' : Option Addr) (cap' : Nat) (bs : List UInt8) (w : World) (hl : Lies w w.heap.size 2 A l.length (pcells l)) (hc : l.length ≤ cap) (hm : cap ≤ maxLen) (hr : l.length * 24 ≤ 140737488351232) (hf : Fit l)
    (hl' : Lies w w.heap.size 1 A' bs.length (byteCells bs)) (hc' : bs.length ≤ cap') (hm' : cap' ≤ maxLen) (_ : bs.length = bs.length) (he : Env w) :
    Calls Tryd.prog 10 #[.slice A l.length cap, .slice A' bs.length cap'] w fun e w' => e = .returned (.bool true) ∧ Below w.heap.size w w' := by
  have hn : l.length ≤ maxLen := by omega
  have HE := Lib.hid he
  have CW := Lib.hid works_calls
  have HL := Lib.hid hl
  have HL' := Lib.hid hl'
  have C1 := Lib.hid (encode_calls A cap l w hl hn)
  unfold EncPost at C1
  have C2 := Lib.hid fun W (h : Lies W W.heap.size 2 A l.length (pcells l)) => given_calls A cap l _ W h (Nat.le_refl _) (by omega)
  have C3 := Lib.hid fun A c W B (h : Lies W B 2 A l.length (pcells l)) => refValid_calls A c l B W h hn hf
  have CD := Lib.hid fun (W : World) (h : Lies W W.heap.size 1 A' bs.length (byteCells bs)) => decode_calls A' bs.length cap' bs W h rfl hc' hm'
  have CR := Lib.hid fun (W : World) (h : Lies W W.heap.size 1 A' bs.length (byteCells bs)) => refDecode_calls A' bs.length cap' bs _ W h (Nat.le_refl _) rfl hc' hm'
  unfold DecPost at CD
  unfold NewPos at C2
  obtain ⟨nb, hnb⟩ : ∃ nb, nb = bs.length := ⟨_, rfl⟩
  rw [← hnb] at CD CR HL' hc' ⊢
  have HX : Hid ((decL bs = none ∧ decR bs = [] ∧ decE bs = 5) ∨ ∃ r, decL bs = some r ∧ decR bs = r ∧ decE bs = 0 ∧ r.length ≤ 64) := by
    show _ ∨ _
    rcases hd : decL bs with _ | r
    · exact .inl ⟨rfl, decR_none hd, decE_none hd⟩
    · exact .inr ⟨r, rfl, decR_some hd, decE_some hd, ok_len (decL_spec hd).2⟩
  have HCV := Lib.hid fun (W : World) A'' c n (z : List UInt8) (h : Lies W W.heap.size 1 A'' n (byteCells z)) (hn : n = z.length) => conv_lies (cap := c) h hn
  have hcz := conv_zero
  clear he hl hf hc hm hl' hc' hm' hnb
  cases hok : okB l with
  | false =>
    rw [hok] at C3
    rw [checkI_no hok, encB_no hok] at C1
    clear hok hr
    obtain ⟨n, hnn⟩ : ∃ n, n = l.length := ⟨_, rfl⟩
    rw [← hnn] at C1 C2 C3 HL hn ⊢
    clear hnn
    go_enter Tryd.func10, Tryd.ntmps10
    go_wp2_with fail
    refine C1.out.mono ?_
    rintro e w1 ⟨v1, rfl, ho1, hb1⟩
    obtain ⟨A1, c1, rfl, _, _, k1⟩ := own_lies ho1
    have K1 := Lib.hid k1
    clear ho1 k1 C1
    simp only [List.length_nil]
    replace K1 : Hid (Lies w1 w1.heap.size 1 A1 0 (byteCells [])) := K1
    go_wp2_with fail
    refine (C2.out _ ((HL.out.below hb1).up hb1.size)).mono ?_
    rintro e w2 ⟨v2, rfl, ho2, hb2⟩
    obtain ⟨A2, c2, rfl, _, _, k2⟩ := own_lies ho2
    replace K1 := Lib.hid ((K1.out.below hb2).up hb2.size)
    replace hb2 := qtrans hb1 hb2
    clear hb1 ho2
    go_wp2_with fail
    refine (C3.out _ _ _ _ k2).mono ?_
    rintro e w3 ⟨rfl, rfl⟩
    clear k2
    have h1 := HCV.out _ _ c1 _ _ K1.out rfl

    have h2 := hcz w2 none 0
    have s0 : ((⟨#[]⟩ : ByteArray).toList != (⟨#[]⟩ : ByteArray).toList) = false := by simp
    clear hcz
    rcases HX.out with ⟨hd, hd1, hd2⟩ | ⟨r, hd, hd1, hd2, hr64⟩
    · rw [hd1, hd2] at CD
      have HD := Lib.hid hd
      clear hd hd1 hd2 HX
      go_wp2_with fail
      refine (CD.out _ ((HL'.out.below hb2).up hb2.size)).mono ?_
      rintro e w6 ⟨v6, rfl, ho6, hb6⟩
      obtain ⟨A6, c6, rfl, _, _⟩ := own_slice ho6
      simp only [List.length_nil]
      replace hb6 := qtrans hb2 hb6
      clear ho6
      go_wp2_with fail
      refine (CR.out _ ((HL'.out.below hb6).up hb6.size)).mono ?_
      intro e w7 h7
      obtain ⟨A7, n7, c7, rfl, hb7⟩ := refDecode_none HD.out h7
      replace hb7 := qtrans hb6 hb7
      clear hb6 h7
      go_wp2_with fail
      refine (CW.out _ (HE.out.below hb7)).mono ?_
      rintro e w8 ⟨rfl, hb8⟩
      replace hb8 := qtrans hb7 hb8
      go_wp2_with fail
      go_ret
      exact ⟨rfl, hb8⟩
    · rw [hd1, hd2] at CD
      have HD := Lib.hid hd
      have CT := Lib.hid fun A c (W : World) (h : Lies W W.heap.size 2 A r.length (pcells r)) => taken_calls A c r _ W h (Nat.le_refl _) (by omega)
      have CS := Lib.hid fun A c A2 c2 (W : World) (h1 : Lies W W.heap.size 2 A r.length (pcells r)) (h2 : Lies W W.heap.size 2 A2 r.length (pcells r)) => same_calls A A2 c c2 r W _ _ h1 h2 (by omega)
      have HR := Lib.hid fun (w : World) (e : Ending) (w' : World) (h : RDecPost bs w e w') => refDecode_some HD.out h
      unfold NewPos at CT
      obtain ⟨m, hmm⟩ : ∃ m, m = r.length := ⟨_, rfl⟩
      rw [← hmm] at CD CT CS HR hr64
      clear hd hd1 hd2 HX HD hmm
      go_wp2_with fail
      refine (CD.out _ ((HL'.out.below hb2).up hb2.size)).mono ?_
      rintro e w6 ⟨v6, rfl, ho6, hb6⟩
      obtain ⟨A6, c6, rfl, _, _, k6⟩ := own_lies ho6
      have K6 := Lib.hid k6
      replace hb6 := qtrans hb2 hb6
      clear ho6 k6
      go_wp2_with fail
      refine (CR.out _ ((HL'.out.below hb6).up hb6.size)).mono ?_
      intro e w7 h7
      obtain ⟨A7, c7, rfl, k7, hb7⟩ := HR.out _ _ _ h7
      have K7 := Lib.hid k7
      replace K6 := Lib.hid ((K6.out.below hb7).up hb7.size)
      replace hb7 := qtrans hb6 hb7
      clear hb6 h7 k7
      go_wp2_with fail
      refine (CT.out _ _ _ K7.out).mono ?_
      rintro e w8 ⟨v8, rfl, ho8, hb8⟩
      obtain ⟨A8, c8, rfl, _, _, k8⟩ := own_lies ho8
      have K8 := Lib.hid k8
      replace K6 := Lib.hid ((K6.out.below hb8).up hb8.size)
      replace hb8 := qtrans hb7 hb8
      clear hb7 ho8 k8 K7
      go_wp2_with fail
      refine (CS.out _ _ _ _ _ K6.out K8.out).mono ?_
      rintro e w9 ⟨rfl, hb9⟩
      replace hb9 := qtrans hb8 hb9
      clear hb8 K6 K8
      go_wp2_with fail
      refine (CW.out _ (HE.out.below hb9)).mono ?_
      rintro e w10 ⟨rfl, hb10⟩
      replace hb10 := qtrans hb9 hb10
      go_wp2_with fail
      go_ret
      exact ⟨rfl, hb10⟩
  | true =>
    have C4 := Lib.hid fun A c W (h : Lies W W.heap.size 2 A l.length (pcells l)) => refEncode_calls A c l W h hok
    unfold NewU8 at C4
    rw [hok] at C3
    rw [checkI_yes hok, encB_ok hok] at C1
    clear hok hr
    generalize encL l = z at *
    obtain ⟨n, hnn⟩ : ∃ n, n = l.length := ⟨_, rfl⟩
    rw [← hnn] at C1 C2 C3 C4 HL hn ⊢
    clear hnn
    go_enter Tryd.func10, Tryd.ntmps10
    go_wp2_with fail
    refine C1.out.mono ?_
    rintro e w1 ⟨v1, rfl, ho1, hb1⟩
    obtain ⟨A1, c1, rfl, _, _, k1⟩ := own_lies ho1
    have K1 := Lib.hid k1
    clear ho1 k1 C1
    go_wp2_with fail
    refine (C2.out _ ((HL.out.below hb1).up hb1.size)).mono ?_
    rintro e w2 ⟨v2, rfl, ho2, hb2⟩
    obtain ⟨A2, c2, rfl, _, _, k2⟩ := own_lies ho2
    replace K1 := Lib.hid ((K1.out.below hb2).up hb2.size)
    replace hb2 := qtrans hb1 hb2
    clear hb1 ho2
    go_wp2_with fail
    refine (C3.out _ _ _ _ k2).mono ?_
    rintro e w3 ⟨rfl, rfl⟩
    clear k2
    go_wp2_with fail
    refine (C2.out _ ((HL.out.below hb2).up hb2.size)).mono ?_
    rintro e w4 ⟨v4, rfl, ho4, hb4⟩
    obtain ⟨A4, c4, rfl, _, _, k4⟩ := own_lies ho4
    replace K1 := Lib.hid ((K1.out.below hb4).up hb4.size)
    replace hb4 := qtrans hb2 hb4
    clear hb2 ho4
    go_wp2_with fail
    refine (C4.out _ _ _ k4).mono ?_
    rintro e w5 ⟨v5, rfl, ho5, hb5⟩
    obtain ⟨A5, c5, rfl, _, _, k5⟩ := own_lies ho5
    replace K1 := Lib.hid ((K1.out.below hb5).up hb5.size)
    replace hb5 := qtrans hb4 hb5
    have h1 := HCV.out _ _ c1 _ _ K1.out rfl
    have h2 := HCV.out _ _ c5 _ _ k5 rfl
    have s0 : ((⟨z.toArray⟩ : ByteArray).toList != (⟨z.toArray⟩ : ByteArray).toList) = false := by simp
    generalize (⟨z.toArray⟩ : ByteArray) = S at *
    clear hb4 ho5 k4 k5 hcz
    rcases HX.out with ⟨hd, hd1, hd2⟩ | ⟨r, hd, hd1, hd2, hr64⟩
    · rw [hd1, hd2] at CD
      have HD := Lib.hid hd
      clear hd hd1 hd2 HX
      go_wp2_with fail
      refine (CD.out _ ((HL'.out.below hb5).up hb5.size)).mono ?_
      rintro e w6 ⟨v6, rfl, ho6, hb6⟩
      obtain ⟨A6, c6, rfl, _, _⟩ := own_slice ho6
      simp only [List.length_nil]
      replace hb6 := qtrans hb5 hb6
      clear ho6
      go_wp2_with fail
      refine (CR.out _ ((HL'.out.below hb6).up hb6.size)).mono ?_
      intro e w7 h7
      obtain ⟨A7, n7, c7, rfl, hb7⟩ := refDecode_none HD.out h7
      replace hb7 := qtrans hb6 hb7
      clear hb6 h7
      go_wp2_with fail
      refine (CW.out _ (HE.out.below hb7)).mono ?_
      rintro e w8 ⟨rfl, hb8⟩
      replace hb8 := qtrans hb7 hb8
      go_wp2_with fail
      go_ret
      exact ⟨rfl, hb8⟩
    · rw [hd1, hd2] at CD
      have HD := Lib.hid hd
      have CT := Lib.hid fun A c (W : World) (h : Lies W W.heap.size 2 A r.length (pcells r)) => taken_calls A c r _ W h (Nat.le_refl _) (by omega)
      have CS := Lib.hid fun A c A2 c2 (W : World) (h1 : Lies W W.heap.size 2 A r.length (pcells r)) (h2 : Lies W W.heap.size 2 A2 r.length (pcells r)) => same_calls A A2 c c2 r W _ _ h1 h2 (by omega)
      have HR := Lib.hid fun (w : World) (e : Ending) (w' : World) (h : RDecPost bs w e w') => refDecode_some HD.out h
      unfold NewPos at CT
      obtain ⟨m, hmm⟩ : ∃ m, m = r.length := ⟨_, rfl⟩
      rw [← hmm] at CD CT CS HR hr64
      clear hd hd1 hd2 HX HD hmm
      go_wp2_with fail
      refine (CD.out _ ((HL'.out.below hb5).up hb5.size)).mono ?_
      rintro e w6 ⟨v6, rfl, ho6, hb6⟩
      obtain ⟨A6, c6, rfl, _, _, k6⟩ := own_lies ho6
      have K6 := Lib.hid k6
      replace hb6 := qtrans hb5 hb6
      clear ho6 k6
      go_wp2_with fail
      refine (CR.out _ ((HL'.out.below hb6).up hb6.size)).mono ?_
      intro e w7 h7
      obtain ⟨A7, c7, rfl, k7, hb7⟩ := HR.out _ _ _ h7
      have K7 := Lib.hid k7
      replace K6 := Lib.hid ((K6.out.below hb7).up hb7.size)
      replace hb7 := qtrans hb6 hb7
      clear hb6 h7 k7
      go_wp2_with fail
      refine (CT.out _ _ _ K7.out).mono ?_
      rintro e w8 ⟨v8, rfl, ho8, hb8⟩
      obtain ⟨A8, c8, rfl, _, _, k8⟩ := own_lies ho8
      have K8 := Lib.hid k8
      replace K6 := Lib.hid ((K6.out.below hb8).up hb8.size)
      replace hb8 := qtrans hb7 hb8
      clear hb7 ho8 k8 K7
      go_wp2_with fail
      refine (CS.out _ _ _ _ _ K6.out K8.out).mono ?_
      rintro e w9 ⟨rfl, hb9⟩
      replace hb9 := qtrans hb8 hb9
      clear hb8 K6 K8
      go_wp2_with fail
      refine (CW.out _ (HE.out.below hb9)).mono ?_
      rintro e w10 ⟨rfl, hb10⟩
      replace hb10 := qtrans hb9 hb10
      go_wp2_with fail
      go_ret
      exact ⟨rfl, hb10⟩

theorem posCodes_lifted (os : Os) (started : os.Started) (H : Type) (enc : TypeId × Value → H) :
    ReturnsInHanded {} Tryd.checked os 10 .any (fun w args => (Rows.posCodesSpec.pre enc Tryd.prog Tryd.f10 Rows.posCodesRow.domain false w args ∧ laidMetH Tryd.prog laidOf w) ∧ sizedMet enc Tryd.prog Tryd.f10 (OpenSpec.ofChange Rows.posCodesSpec) false w args)
      (Rows.posCodesSpec.post enc Tryd.prog Tryd.f10 false true false false) := by
  refine returns_shaped (C := Tryd.checked) (X := fun w _ => laidMetH Tryd.prog laidOf w) (fun _ _ _ hh h => h.of_heap hh) own started (by kernel_rfl) Tryd.func10
    (ChangeSpec.witness_shaped (enc := enc) (C := Tryd.checked) (os := os) (X := fun w _ => laidMetH Tryd.prog laidOf w) false (World.laidAll Tryd.prog os laidOf) #[.slice none 0 0, .slice none 0 0] 8 (World.laidAll_os _ _ _)
      (World.shaped_of_ZipB (by kernel_rfl) (by kernel_rfl)) (by kernel_rfl) (by kernel_rfl) (by kernel_rfl)
      (by rw [MakeChecks.laidMetH_plain _ _ _ laidOf_plain]; exact laidMet_laidAll _ (by kernel_rfl) (by kernel_rfl))) ?_
  intro W base args ds gs before hval0 hW hz hL hsh
  have hval : ∀ (j : Nat) t v, Tryd.f10.params[j]? = some t → args[j]? = some v → Value.okWide Tryd.prog W .any base t v := hval0
  have hW' := hW
  obtain ⟨p, q, hA0, hV, rfl, _, _⟩ := hW
  have hA : DataW.TrodAll enc Tryd.prog W 0 (fun _ => true) true Tryd.f10.params.toList args.toList ds p := hA0
  have hpar : Tryd.f10.params = #[24, 29] := by kernel_rfl
  rw [hpar] at hA hval
  obtain ⟨v0, v1, d0, d1, p0, p1, hargs, rfl, rfl, h0, h1⟩ := trodAll_two hA
  obtain rfl : args = #[v0, v1] := by first | exact hargs | (cases args; simp_all)
  obtain ⟨A0, cap0, ss0, rfl, hc0, hm0, hl0, hb0, he0⟩ := open_pos (j := 0) (hval 0 24 v0 rfl rfl) h0 hz rfl rfl
  obtain ⟨A1, cap1, ss1, rfl, hc1, hm1, hl1, hb1, he1⟩ := open_u8s Tryd.underlying29 Tryd.underlying5 (by kernel_rfl) (hval 1 29 v1 rfl rfl) h1
  refine (posCodes_calls A0 cap0 ss0 A1 cap1 ss1 W hl0 hc0 hm0 hb0 he0 hl1 hc1 hm1 he1 (env_of hL hsh)).mono fun e W' ⟨he, hbl⟩ => ?_
  subst he
  exact ⟨_, rfl, law_post rfl rfl (by kernel_rfl) hW' rfl rfl rfl hbl⟩

theorem posCodes_row : Rows.PosCodesSaid :=
  OpenClaim.holds_of_wide 10 Tryd.f10 rfl rfl rfl rfl rfl rfl rfl ⟨rfl, rfl, rfl, rfl, rfl⟩ rfl rfl rfl rfl rfl (by kernel_rfl) Tryd.func10 (by kernel_rfl)
    (of_decide_eq_true (by kernel_rfl)) (by unfold Func.isWrapper; first | (rw [if_pos (by decide +kernel)]; kernel_rfl) | (rw [if_neg (by decide +kernel)]; exact ⟨rfl, rfl⟩))
    (fun os started H enc _ => posCodes_lifted os started H enc)
theorem posCodes_holds : Rows.PosCodesCardSaid :=
  Claim7.holds_tied_plain_at .later [] [.data, .widerDeep, .pinned] true Rows.posCodesCard.stood.harness true posCodes_row (fun _ h => by cases h) (by kernel_rfl) (fun _ h => by cases h) posCodes_row_tie rfl ⟨rfl, rfl⟩ (by kernel_rfl) rfl
    (fun f fn hf hfn => by
      obtain rfl : f = 10 := Option.some.inj ((show Tryd.prog.funcNamed Rows.posCodesRow.func = some 10 by kernel_rfl).symm.trans hf) |>.symm
      obtain rfl : fn = Tryd.f10 := (Option.some.inj (Tryd.func10.symm.trans hfn)).symm
      exact ⟨by kernel_rfl, fun j t ht => by
        have hpar : Tryd.f10.params = #[24, 29] := by kernel_rfl
        rw [hpar] at ht
        have hm : t ∈ [24, 29] := by simpa using Array.mem_of_getElem? ht
        have hall : ([24, 29].all fun u => !Tryd.prog.wantsStandIn u) = true := by kernel_rfl
        exact (show Tryd.prog.wantsStandIn t = false by simpa using List.all_eq_true.1 hall t hm)⟩)
    (by kernel_rfl)
#print axioms posCodes_holds
end Go.Proofs.YtoihfmjnonanjaaDoor
