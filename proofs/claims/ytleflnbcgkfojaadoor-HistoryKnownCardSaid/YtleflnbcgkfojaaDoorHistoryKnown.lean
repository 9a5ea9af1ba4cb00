/- Proved: henkanlaw31.HistoryKnown returns true: the examples. No condition of ours. -/
import Derived.Test.YtleflnbcgkfojaaDoorBulk
import Derived.Test.YtleflnbcgkfojaaDoorHist11
namespace Go.Proofs.YtleflnbcgkfojaaDoor
open Go.ChangeShapes Go.WideShapes Go.ChangeAt Go.RowKit Go.Lib Go.Shelf Hk
open Go.ChangeMaps (open_string shut_string)
set_option linter.unusedSimpArgs false
set_option linter.unusedVariables false
set_option maxRecDepth 100000

theorem Tryd.info35 : (Tryd.prog.info? 35).map (fun i => (i.zero, i.size, i.bytes)) = some (some (.agg #[.string ⟨#[]⟩, .string ⟨#[]⟩]), 2, 32) := by kernel_rfl
set_option maxHeartbeats 8000000 in
theorem historyKnown_calls (w : World) (he : Env w) : Calls Tryd.prog 10 #[] w fun e w' => e = .returned (.bool true) ∧ Below w.heap.size w w' := by
  obtain ⟨j0, ji, jz0, jz1, jz2⟩ := info_parts Tryd.info35
  have HE := Lib.hid he
  have CW := Lib.hid works_calls
  have CT := Lib.hid today_calls
  have CS := Lib.hid same_calls
  have K0 := Lib.hid fun W (hW : Env W) => keys_calls ⟨#[]⟩ none 0 [] W (by decide) Lies.empty (by decide) (fun c h => by cases h) hW
  have L0 := Lib.hid fun W => last_calls ⟨#[97]⟩ none 0 [] W 0 Lies.empty (by decide)
  have L1 := Lib.hid fun (W : World) => last_calls ⟨#[97]⟩ (some ⟨W.heap.size, 0, none⟩) 2 todayL (W.alloc todayBox) (W.heap.size + 1) (today_lies W) (by decide)
  rw [show keysD ⟨#[]⟩ [] = [] by decide +kernel] at K0
  rw [show lastD ⟨#[97]⟩ [] = ⟨#[97]⟩ from rfl] at L0
  rw [show lastD ⟨#[97]⟩ todayL = ha from rfl] at L1
  clear he
  go_enter Tryd.func10, Tryd.ntmps10
  go_wp2_with fail
  refine (K0.out _ HE.out).mono ?_
  rintro e w1 ⟨v1, rfl, ho1, hb1⟩
  obtain ⟨A1, c1, rfl, _, _⟩ := own_slice ho1
  clear ho1 K0
  go_wp2_with fail
  refine (L0.out _).mono ?_
  rintro e w2 ⟨rfl, rfl⟩
  go_wp2_with fail
  refine (CT.out _).mono ?_
  rintro e w2 ⟨rfl, rfl⟩
  go_wp2_with fail
  refine (L1.out _).mono ?_
  rintro e w2 ⟨rfl, rfl⟩
  have hb2 : Below w.heap.size w (w1.alloc todayBox) := hb1.alloc hb1.size _
  clear L0 L1 CT hb1
  have K1 := Lib.hid fun W (hW : Env W) => keys_lit ⟨#[120]⟩ [(abcB, abcB), (haB, haB)] _ #[.string abcB, .string abcB, .string haB, .string haB] 2 rfl rfl kn_keys1 (by decide) (by decide) (by decide) (by intro c hc; simp at hc; rcases hc with rfl | rfl <;> exact ⟨by decide, by decide⟩) W hW
  have Y1 := Lib.hid fun W (hW : Env W) => (key_calls 1 haB haB W (by decide) (by decide) hW : Calls _ _ _ W fun e w' => e = .returned (.string (kyB 1 haB haB)) ∧ Below W.heap.size W w')
  have Y2 := Lib.hid fun W (hW : Env W) => (key_calls 2 abcB haB W (by decide) (by decide) hW : Calls _ _ _ W fun e w' => e = .returned (.string (kyB 2 abcB haB)) ∧ Below W.heap.size W w')
  generalize w1.alloc todayBox = w2 at *
  unfold ha
  go_wp2_with fail
  have hb3 : Below w.heap.size w (w2.alloc (.cells #[.string abcB, .string abcB, .string haB, .string haB] 35)) := hb2.alloc hb2.size _
  refine (K1.out _ (HE.out.below hb2)).mono ?_
  rintro e w4 ⟨v4, rfl, ho4, hb4⟩
  obtain ⟨A4, c4, rfl, _, _, k4⟩ := own_lies ho4
  replace hb4 := qtrans hb3 hb4
  clear ho4 K1 hb2 hb3
  go_wp2_with fail
  refine (Y1.out _ (HE.out.below hb4)).mono ?_
  rintro e w5 ⟨rfl, hb5⟩
  have k5 := (k4.below hb5).up hb5.size
  replace hb5 := qtrans hb4 hb5
  clear k4 hb4 Y1
  go_wp2_with fail
  refine (Y2.out _ (HE.out.below hb5)).mono ?_
  rintro e w6 ⟨rfl, hb6⟩
  have k6 := (k5.below hb6).up hb6.size
  replace hb6 := qtrans hb5 hb6
  clear k5 hb5 Y2
  go_wp2_with fail
  refine (CS.out A4 _ 2 c4 2 [kyB 1 haB haB, kyB 2 abcB haB] _ _ _ rfl (k6.alloc (Nat.le_refl _) _) (strs_lit w6 [kyB 1 haB haB, kyB 2 abcB haB] _ 2 rfl rfl) (by decide)).mono ?_
  rintro e w7 ⟨rfl, hb7⟩
  replace hb7 := qtrans (hb6.alloc hb6.size _) hb7
  clear k6 hb6
  have K2 := Lib.hid fun W (hW : Env W) => keys_lit ⟨#[]⟩ [(kaB, moB), (kaB, moB)] _ #[.string kaB, .string moB, .string kaB, .string moB] 2 rfl rfl kn_keys2 (by decide) (by decide) (by decide) (by intro c hc; simp at hc; subst hc; exact ⟨by decide, by decide⟩) W hW
  have Y3 := Lib.hid fun W (hW : Env W) => (key_calls 1 kaB moB W (by decide) (by decide) hW : Calls _ _ _ W fun e w' => e = .returned (.string (kyB 1 kaB moB)) ∧ Below W.heap.size W w')
  have Y4 := Lib.hid fun W (hW : Env W) => (key_calls 2 moB moB W (by decide) (by decide) hW : Calls _ _ _ W fun e w' => e = .returned (.string (kyB 2 moB moB)) ∧ Below W.heap.size W w')
  go_wp2_with fail
  have hb8 : Below w.heap.size w (w7.alloc (.cells #[.string kaB, .string moB, .string kaB, .string moB] 35)) := hb7.alloc hb7.size _
  refine (K2.out _ (HE.out.below hb7)).mono ?_
  rintro e w9 ⟨v9, rfl, ho9, hb9⟩
  obtain ⟨A9, c9, rfl, _, _, k9⟩ := own_lies ho9
  replace hb9 := qtrans hb8 hb9
  clear ho9 K2 hb7 hb8
  go_wp2_with fail
  refine (Y3.out _ (HE.out.below hb9)).mono ?_
  rintro e w10 ⟨rfl, hb10⟩
  have k10 := (k9.below hb10).up hb10.size
  replace hb10 := qtrans hb9 hb10
  clear k9 hb9
  go_wp2_with fail
  refine (Y4.out _ (HE.out.below hb10)).mono ?_
  rintro e w11 ⟨rfl, hb11⟩
  have k11 := (k10.below hb11).up hb11.size
  replace hb11 := qtrans hb10 hb11
  clear k10 hb10 Y4
  go_wp2_with fail
  refine (CS.out A9 _ 2 c9 2 [kyB 1 kaB moB, kyB 2 moB moB] _ _ _ rfl (k11.alloc (Nat.le_refl _) _) (strs_lit w11 [kyB 1 kaB moB, kyB 2 moB moB] _ 2 rfl rfl) (by decide)).mono ?_
  rintro e w12 ⟨rfl, hb12⟩
  replace hb12 := qtrans (hb11.alloc hb11.size _) hb12
  clear k11 hb11
  have Y5 := Lib.hid fun W (hW : Env W) => (key_calls 2 kaB moB W (by decide) (by decide) hW : Calls _ _ _ W fun e w' => e = .returned (.string (kyB 2 kaB moB)) ∧ Below W.heap.size W w')
  go_wp2_with fail
  refine (Y3.out _ (HE.out.below hb12)).mono ?_
  rintro e w13 ⟨rfl, hb13⟩
  replace hb13 := qtrans hb12 hb13
  clear hb12 Y3
  go_wp2_with fail
  refine (Y5.out _ (HE.out.below hb13)).mono ?_
  rintro e w14 ⟨rfl, hb14⟩
  replace hb14 := qtrans hb13 hb14
  clear hb13
  have l14 := strs_lit w14 [kyB 1 kaB moB, kyB 2 kaB moB, ⟨#[120]⟩] #[.string (kyB 1 kaB moB), .string (kyB 2 kaB moB), .string ⟨#[120]⟩] 3 rfl rfl
  have hb15 : Below w.heap.size w (w14.alloc (.cells #[.string (kyB 1 kaB moB), .string (kyB 2 kaB moB), .string ⟨#[120]⟩] 9)) := hb14.alloc hb14.size _
  have B1 := Lib.hid (about_calls (some ⟨w14.heap.size, 0, none⟩) 3 [kyB 1 kaB moB, kyB 2 kaB moB, ⟨#[120]⟩] kaB _ l14 (by decide) (by decide +kernel) (HE.out.below hb15))
  rw [kn_about] at B1
  clear l14 hb14
  go_wp2_with fail
  refine B1.out.mono ?_
  rintro e w16 ⟨v16, rfl, ho16, hb16⟩
  obtain ⟨A16, c16, rfl, _, _, k16⟩ := own_lies ho16
  replace hb16 := qtrans hb15 hb16
  clear ho16 B1 hb15
  go_wp2_with fail
  refine (Y5.out _ (HE.out.below hb16)).mono ?_
  rintro e w17 ⟨rfl, hb17⟩
  have k17 := (k16.below hb17).up hb17.size
  replace hb17 := qtrans hb16 hb17
  clear k16 hb16 Y5
  go_wp2_with fail
  refine (CS.out A16 _ 1 c16 1 [kyB 2 kaB moB] _ _ _ rfl (k17.alloc (Nat.le_refl _) _) (strs_lit w17 [kyB 2 kaB moB] _ 1 rfl rfl) (by decide)).mono ?_
  rintro e w18 ⟨rfl, hb18⟩
  replace hb18 := qtrans (hb17.alloc hb17.size _) hb18
  clear k17 hb17
  have B2 := Lib.hid fun W (hW : Env W) => about_calls none 0 [] ⟨#[]⟩ W Lies.empty (by decide) (by decide) hW
  rw [show aboutD ⟨#[]⟩ [] = [] from rfl] at B2
  go_wp2_with fail
  refine (B2.out _ (HE.out.below hb18)).mono ?_
  rintro e w19 ⟨v19, rfl, ho19, hb19⟩
  obtain ⟨A19, c19, rfl, _, _⟩ := own_slice ho19
  replace hb19 := qtrans hb18 hb19
  clear ho19 B2 hb18
  have K3 := Lib.hid fun W (hW : Env W) => keys_lit ⟨#[97]⟩ [(kaB, ⟨#[]⟩), (⟨#[]⟩, kaB), (⟨#[227, 130, 171]⟩, kaB), (kaB, ⟨#[255]⟩)] _ #[.string kaB, .string ⟨#[]⟩, .string ⟨#[]⟩, .string kaB, .string ⟨#[227, 130, 171]⟩, .string kaB, .string kaB, .string ⟨#[255]⟩] 4 rfl rfl kn_keys3 (by decide) (by decide) (by decide) (by intro c hc; simp at hc; rcases hc with rfl | rfl | rfl | rfl <;> exact ⟨by decide, by decide⟩) W hW
  go_wp2_with fail
  refine (K3.out _ (HE.out.below hb19)).mono ?_
  rintro e w20 ⟨v20, rfl, ho20, hb20⟩
  obtain ⟨A20, c20, rfl, _, _⟩ := own_slice ho20
  replace hb20 := qtrans (hb19.alloc hb19.size _) hb20
  clear ho20 K3 hb19
  go_wp2_with fail
  go_loopw [1, 55] (fun v i wr => ManyAt w20 v i wr) (fun _ i _ => 40 - (intOf i).toNat)
  case atStart => exact ⟨0, Nat.zero_le _, rfl, World.ownsRow_nil _ _ _ _, Below.refl _ _⟩
  case round =>
    obtain ⟨k, hk, rfl, hown, hbw⟩ := hrel
    by_cases hlt : k < 40
    · have HM := Lib.hid (many_cells k)
      go_wp2_with (at_builtin; refine wpList_append_own _ rfl _ _ 22 rfl w20.heap.size 35 j0 (.agg #[.string ⟨#[]⟩, .string ⟨#[]⟩]) 2 32 Tryd.underlying22 ji jz0 jz1 jz2 rfl (by decide) _ _ _ rfl (hown.alloc _) ⟨wr.heap.size, 0, none⟩ 1 1 [.string kaB, .string (hanB k)] rfl rfl ?x1 ?x2 ?x3 ?x4 ?x5 ?_)
      case x1 => exact cells_new _ [_, _] _
      case x2 => intro u hu; simp at hu; rcases hu with rfl | rfl <;> rfl
      case x3 => unfold maxLen; omega
      case x4 => omega
      case x5 => have := hbw.size; simp; omega
      intro v' w23 ho23 hg23 _
      have hb23 := below_append hbw _ hown hg23
      clear hg23 hown hbw
      go_wp2_with fail
      go_roundw
      case rel => exact ⟨k + 1, by omega, by go_num, by rw [HM.out]; exact ho23, hb23⟩
      case measure => simp [intOf]; omega
    · obtain rfl : k = 40 := by omega
      obtain ⟨A23, c23, rfl, _, _, k23⟩ := own_lies hown
      have hbr := qtrans hb20 hbw
      have K4 := Lib.hid (keys_calls ⟨#[]⟩ A23 c23 (manyL 40) wr (by decide) (by rw [many_len]; exact k23) (by rw [many_len]; decide) (many_light 40) (HE.out.below hbr))
      rw [many_len] at K4
      clear hown k23 hbw hb20
      go_wp2_with fail
      refine K4.out.mono ?_
      rintro e w24 ⟨v24, rfl, ho24, hb24⟩
      have HM := Lib.hid kn_many
      rw [kn_h0.1, kn_h0.2] at HM
      have Y0 : Hid (∀ W, Env W → Calls Tryd.prog 25 #[.int .i64 1, .string kaB, .string h0B] W fun e w' => e = .returned (.string (kyB 1 kaB h0B)) ∧ Below W.heap.size W w') := fun W hW => key_calls 1 kaB h0B W (by decide) (by decide) hW
      have Y9 : Hid (∀ W, Env W → Calls Tryd.prog 25 #[.int .i64 1, .string kaB, .string h32B] W fun e w' => e = .returned (.string (kyB 1 kaB h32B)) ∧ Below W.heap.size W w') := fun W hW => key_calls 1 kaB h32B W (by decide) (by decide) hW
      rw [HM.out.1] at ho24
      obtain ⟨A24, c24, rfl, _, _, k24⟩ := own_lies ho24
      obtain ⟨m0, m1, m2⟩ := HM.out
      generalize keysD ⟨#[]⟩ (manyL 40) = L at *
      generalize kyB 1 kaB h0B = X0 at *
      generalize kyB 1 kaB h32B = X9 at *
      obtain ⟨b, off, rfl, _, d0⟩ := k24.at1 (k := 0) (u := .string X0) (by omega) (by rw [List.getElem?_map, m1]; rfl)
      obtain ⟨b', off', e', _, d9⟩ := k24.at1 (k := 63) (u := .string X9) (by omega) (by rw [List.getElem?_map, m2]; rfl)
      obtain ⟨rfl, rfl⟩ : b = b' ∧ off = off' := by simp at e'; exact e'
      have hb25 := qtrans hbr hb24
      have hbd : Below w.heap.size w w24.drew := hb25.trans ⟨rfl, rfl, rfl, Nat.le_refl _, fun _ _ => rfl⟩
      clear e' k24 m0 m1 m2 HM ho24 hbr hb24 hb25 K4 hlt hk
      go_wp2_with fail
      unfold kaB h0B at Y0
      unfold kaB h32B at Y9
      rw [Nat.add_zero] at d0
      have s0 : (X0.toList == X0.toList) = true := by simp
      have s9 : (X9.toList == X9.toList) = true := by simp
      go_region_with (first
        | (go_at_call 25; (with_reducible refine (Y0.out _ (HE.out.below hbd)).mono ?_); rintro e w25 ⟨rfl, hb25⟩; have hbw25 := qtrans hbd hb25; have d0' := cell_later hb25 d0; have d9' := cell_later hb25 d9; clear Y0)
        | (go_at_call 25; (with_reducible refine (Y9.out _ (HE.out.below hbw25)).mono ?_); rintro e w26 ⟨rfl, hb26⟩; have hbw26 := qtrans hbw25 hb26; have d9'' := cell_later hb26 d9'; clear Y9)
        | (go_at_call 12; refine (CW.out _ (HE.out.below hbw26)).mono ?_; rintro e w27 ⟨rfl, hb27⟩; have hbw27 := qtrans hbw26 hb27))
      all_goals
        go_wp2_with fail
        go_ret
        exact ⟨rfl, hbw27⟩

theorem historyKnown_lifted (os : Os) (started : os.Started) (H : Type) (enc : TypeId × Value → H) :
    ReturnsInHanded {} Tryd.checked os 10 .any (fun w args => (Rows.historyKnownSpec.pre enc Tryd.prog Tryd.f10 Rows.historyKnownRow.domain false w args ∧ laidMetH Tryd.prog laidOf w) ∧ sizedMet enc Tryd.prog Tryd.f10 (OpenSpec.ofChange Rows.historyKnownSpec) false w args)
      (Rows.historyKnownSpec.post enc Tryd.prog Tryd.f10 false true false false) := by
  refine returns_shaped (C := Tryd.checked) (X := fun w _ => laidMetH Tryd.prog laidOf w) (fun _ _ _ hh h => h.of_heap hh) own started (by kernel_rfl) Tryd.func10
    (ChangeSpec.witness_shaped (enc := enc) (C := Tryd.checked) (os := os) (X := fun w _ => laidMetH Tryd.prog laidOf w) false (World.laidAll Tryd.prog os laidOf) #[] 8 (World.laidAll_os _ _ _)
      (World.shaped_of_ZipB (by kernel_rfl) (by kernel_rfl)) (by kernel_rfl) (by kernel_rfl) (by kernel_rfl)
      (by rw [MakeChecks.laidMetH_plain _ _ _ laidOf_plain]; exact laidMet_laidAll _ (by kernel_rfl) (by kernel_rfl))) ?_
  intro W base args ds gs before hval0 hW hz hL hsh
  have hval : ∀ (j : Nat) t v, Tryd.f10.params[j]? = some t → args[j]? = some v → Value.okWide Tryd.prog W .any base t v := hval0
  have hW' := hW
  obtain ⟨p, q, hA0, hV, rfl, _, _⟩ := hW
  have hA : DataW.TrodAll enc Tryd.prog W 0 (fun _ => true) true Tryd.f10.params.toList args.toList ds p := hA0
  have hpar : Tryd.f10.params = #[] := by kernel_rfl
  rw [hpar] at hA hval
  obtain ⟨hargs, rfl, rfl⟩ := trodAll_none hA
  obtain rfl : args = #[] := by cases args; simp_all

  refine (historyKnown_calls  W  (env_of hL hsh)).mono fun e W' ⟨he, hbl⟩ => ?_
  subst he
  exact ⟨_, rfl, law_post rfl rfl (by kernel_rfl) hW' rfl rfl rfl hbl⟩

theorem historyKnown_row : Rows.HistoryKnownSaid :=
  OpenClaim.holds_of_wide 10 Tryd.f10 rfl rfl rfl rfl rfl rfl rfl ⟨rfl, rfl, rfl, rfl, rfl⟩ rfl rfl rfl rfl rfl (by kernel_rfl) Tryd.func10 (by kernel_rfl)
    (of_decide_eq_true (by kernel_rfl)) (by unfold Func.isWrapper; first | (rw [if_pos (by decide +kernel)]; kernel_rfl) | (rw [if_neg (by decide +kernel)]; exact ⟨rfl, rfl⟩))
    (fun os started H enc _ => historyKnown_lifted os started H enc)
theorem historyKnown_holds : Rows.HistoryKnownCardSaid :=
  Claim7.holds_tied_plain_at .later [] [.data, .pinned] true Rows.historyKnownCard.stood.harness false historyKnown_row (fun _ h => by cases h) (by kernel_rfl) (fun _ h => by cases h) historyKnown_row_tie rfl ⟨rfl, rfl⟩ (by kernel_rfl) rfl
    (fun f fn hf hfn => by
      obtain rfl : f = 10 := Option.some.inj ((show Tryd.prog.funcNamed Rows.historyKnownRow.func = some 10 by kernel_rfl).symm.trans hf) |>.symm
      obtain rfl : fn = Tryd.f10 := (Option.some.inj (Tryd.func10.symm.trans hfn)).symm
      exact ⟨by kernel_rfl, fun j t ht => by
        have hpar : Tryd.f10.params = #[] := by kernel_rfl
        rw [hpar] at ht
        simp at ht⟩)
    (by kernel_rfl)
#print axioms historyKnown_holds
end Go.Proofs.YtleflnbcgkfojaaDoor
