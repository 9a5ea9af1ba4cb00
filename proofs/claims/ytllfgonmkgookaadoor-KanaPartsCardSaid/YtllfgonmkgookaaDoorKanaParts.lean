/- Proved: henkanlaw02.KanaParts returns true for all strings: what is written for two strings, one after the other, is what is written for each. No condition of ours. -/
import Derived.Test.YtllfgonmkgookaaDoorFrame
import Derived.Test.YtllfgonmkgookaaDoorKanaL
import Derived.Test.YtllfgonmkgookaaDoorKanaZ
namespace Go.Proofs.YtllfgonmkgookaaDoor
open Go.ChangeShapes Go.WideShapes Go.ChangeAt Go.RowKit Go.Lib Go.Shelf Hk
open Go.ChangeMaps (open_string shut_string)
set_option linter.unusedSimpArgs false
set_option linter.unusedVariables false
set_option maxRecDepth 100000

set_option maxHeartbeats 8000000 in
theorem kanaParts_calls (s t : ByteArray) (w : World) (hs : s.size ≤ 9223372036854775807) (ht : t.size ≤ 9223372036854775807) (he : Env w) :
    Calls Tryd.prog 10 #[.string s, .string t] w fun e w' => e = .returned (.bool true) ∧ Below w.heap.size w w' := by
  have HE0 := Lib.hid he
  by_cases hb : 2000 < s.size
  · clear he
    go_enter Tryd.func10, Tryd.ntmps10
    go_wp2_with fail
    go_ret
    exact ⟨rfl, Below.refl _ _⟩
  by_cases hbt : 2000 < t.size
  · clear he
    go_enter Tryd.func10, Tryd.ntmps10
    go_wp2_with fail
    go_ret
    exact ⟨rfl, Below.refl _ _⟩
  have CW := Lib.hid works_calls
  have CR := Lib.hid (runes_calls s w (by omega))
  have CR2 := Lib.hid fun W => runes_calls t W (by omega)
  have hst : (s ++ t).size = s.size + t.size := ByteArray.size_append
  clear he
  go_enter Tryd.func10, Tryd.ntmps10
  go_wp2_with fail
  refine CR.out.mono ?_
  rintro e w1 ⟨hb1, ⟨hN, rfl⟩ | ⟨a, v, hD, rfl, ho⟩⟩
  · clear hN hst
    go_wp2_with fail
    refine (CR2.out _).mono ?_
    rintro e w2 ⟨hb2, ⟨hN, rfl⟩ | ⟨b, v, hE, rfl, ho2⟩⟩
    all_goals
      first | clear hN | clear hE ho2
      have hb02 := qtrans hb1 hb2
      go_wp2_with fail
      refine (CW.out _ (HE0.out.below hb02)).mono ?_
      rintro e w3 ⟨rfl, hb3⟩
      go_wp2_with fail
      go_ret
      exact ⟨rfl, qtrans hb02 hb3⟩
  · go_wp2_with fail
    refine (CR2.out _).mono ?_
    rintro e w2 ⟨hb2, ⟨hN, rfl⟩ | ⟨b, v2, hE, rfl, ho2⟩⟩
    · clear hN hD ho hst
      have hb02 := qtrans hb1 hb2
      go_wp2_with fail
      refine (CW.out _ (HE0.out.below hb02)).mono ?_
      rintro e w3 ⟨rfl, hb3⟩
      go_wp2_with fail
      go_ret
      exact ⟨rfl, qtrans hb02 hb3⟩
    · have hb02 := qtrans hb1 hb2
      obtain ⟨A, c, rfl, _, _, hlies⟩ := own_lies ho2
      have HL := Lib.hid hlies
      have HE := Lib.hid (HE0.out.below hb02)
      have s1 := hira_size s
      have t1 := hira_size t
      have C1 := Lib.hid fun W (hW : Env W) => hira_calls (s ++ t) W (by omega) hW
      rw [show hiraS (s ++ t) = hiraS s ++ hiraS t from strB_app hD hE List.map_append] at C1
      have D1 := Lib.hid fun W (hW : Env W) => hira_calls s W (by omega) hW
      have E1 := Lib.hid fun W (hW : Env W) => hira_calls t W (by omega) hW
      have s2 := kata_size s
      have t2 := kata_size t
      have C2 := Lib.hid fun W (hW : Env W) => kata_calls (s ++ t) W (by omega) hW
      rw [show kataS (s ++ t) = kataS s ++ kataS t from strB_app hD hE List.map_append] at C2
      have D2 := Lib.hid fun W (hW : Env W) => kata_calls s W (by omega) hW
      have E2 := Lib.hid fun W (hW : Env W) => kata_calls t W (by omega) hW
      have s3 := half_size s
      have t3 := half_size t
      have C3 := Lib.hid fun W (hW : Env W) => half_calls (s ++ t) W (by omega) hW
      rw [show halfS (s ++ t) = halfS s ++ halfS t from strB_app hD hE List.flatMap_append] at C3
      have D3 := Lib.hid fun W (hW : Env W) => half_calls s W (by omega) hW
      have E3 := Lib.hid fun W (hW : Env W) => half_calls t W (by omega) hW
      have s5 := wide_size s
      have t5 := wide_size t
      have C5 := Lib.hid fun W (hW : Env W) => wide_calls (s ++ t) W (by omega) hW
      rw [show wideS (s ++ t) = wideS s ++ wideS t from strB_app hD hE List.map_append] at C5
      have D5 := Lib.hid fun W (hW : Env W) => wide_calls s W (by omega) hW
      have E5 := Lib.hid fun W (hW : Env W) => wide_calls t W (by omega) hW
      have s6 := narrow_size s
      have t6 := narrow_size t
      have C6 := Lib.hid fun W (hW : Env W) => narrow_calls (s ++ t) W (by omega) hW
      rw [show narrowS (s ++ t) = narrowS s ++ narrowS t from strB_app hD hE List.map_append] at C6
      have D6 := Lib.hid fun W (hW : Env W) => narrow_calls s W (by omega) hW
      have E6 := Lib.hid fun W (hW : Env W) => narrow_calls t W (by omega) hW
      have s4 := full_size s
      have t4 := full_size t
      have C4 := Lib.hid fun (h : ∀ c, b.head? = some c → isMark c = false) W (hW : Env W) => (by
        have := full_calls (s ++ t) W (by omega) hW
        rw [show fullS (s ++ t) = fullS s ++ fullS t from strB_app hD hE (full_append a b h)] at this
        exact this : Calls Tryd.prog 19 #[.string (s ++ t)] W fun e w' => e = .returned (.string (fullS s ++ fullS t)) ∧ Below W.heap.size W w')
      have D4 := Lib.hid fun W (hW : Env W) => full_calls s W (by omega) hW
      have E4 := Lib.hid fun W (hW : Env W) => full_calls t W (by omega) hW
      have hstB : s.size + t.size ≤ 4000 := by omega
      have hlen : b.length ≤ t.size := by have := runesD_length _ _ _ (Nat.le_refl _) hE; simpa using this
      generalize hiraS s = x1 at *
      generalize hiraS t = y1 at *
      generalize kataS s = x2 at *
      generalize kataS t = y2 at *
      generalize halfS s = x3 at *
      generalize halfS t = y3 at *
      generalize wideS s = x5 at *
      generalize wideS t = y5 at *
      generalize narrowS s = x6 at *
      generalize narrowS t = y6 at *
      generalize fullS s = x4 at *
      generalize fullS t = y4 at *
      clear hD hE ho ho2 hlies hst CR CR2
      have hz1 : x1.size + y1.size ≤ 32000 := by omega
      have hz2 : x2.size + y2.size ≤ 32000 := by omega
      have hz3 : x3.size + y3.size ≤ 32000 := by omega
      have hz4 : x4.size + y4.size ≤ 32000 := by omega
      have hz5 : x5.size + y5.size ≤ 32000 := by omega
      have hz6 : x6.size + y6.size ≤ 32000 := by omega
      clear s1 s2 s3 s4 s5 s6 t1 t2 t3 t4 t5 t6
      go_wp2_with fail
      refine (C1.out _ HE.out).mono ?_
      rintro e w1 ⟨rfl, hb1⟩
      go_wp2_with fail
      refine (D1.out _ (HE.out.below hb1)).mono ?_
      rintro e w2 ⟨rfl, hb2⟩
      replace hb2 := qtrans hb1 hb2
      clear hb1
      go_wp2_with fail
      refine (E1.out _ (HE.out.below hb2)).mono ?_
      rintro e w3 ⟨rfl, hb3⟩
      replace hb3 := qtrans hb2 hb3
      clear hb2
      go_wp2_with fail
      refine (C2.out _ (HE.out.below hb3)).mono ?_
      rintro e w4 ⟨rfl, hb4⟩
      replace hb4 := qtrans hb3 hb4
      clear hb3
      go_wp2_with fail
      refine (D2.out _ (HE.out.below hb4)).mono ?_
      rintro e w5 ⟨rfl, hb5⟩
      replace hb5 := qtrans hb4 hb5
      clear hb4
      go_wp2_with fail
      refine (E2.out _ (HE.out.below hb5)).mono ?_
      rintro e w6 ⟨rfl, hb6⟩
      replace hb6 := qtrans hb5 hb6
      clear hb5
      go_wp2_with fail
      refine (C3.out _ (HE.out.below hb6)).mono ?_
      rintro e w7 ⟨rfl, hb7⟩
      replace hb7 := qtrans hb6 hb7
      clear hb6
      go_wp2_with fail
      refine (D3.out _ (HE.out.below hb7)).mono ?_
      rintro e w8 ⟨rfl, hb8⟩
      replace hb8 := qtrans hb7 hb8
      clear hb7
      go_wp2_with fail
      refine (E3.out _ (HE.out.below hb8)).mono ?_
      rintro e w9 ⟨rfl, hb9⟩
      replace hb9 := qtrans hb8 hb9
      clear hb8
      go_wp2_with fail
      refine (C5.out _ (HE.out.below hb9)).mono ?_
      rintro e w10 ⟨rfl, hb10⟩
      replace hb10 := qtrans hb9 hb10
      clear hb9
      go_wp2_with fail
      refine (D5.out _ (HE.out.below hb10)).mono ?_
      rintro e w11 ⟨rfl, hb11⟩
      replace hb11 := qtrans hb10 hb11
      clear hb10
      go_wp2_with fail
      refine (E5.out _ (HE.out.below hb11)).mono ?_
      rintro e w12 ⟨rfl, hb12⟩
      replace hb12 := qtrans hb11 hb12
      clear hb11
      go_wp2_with fail
      refine (C6.out _ (HE.out.below hb12)).mono ?_
      rintro e w13 ⟨rfl, hb13⟩
      replace hb13 := qtrans hb12 hb13
      clear hb12
      go_wp2_with fail
      refine (D6.out _ (HE.out.below hb13)).mono ?_
      rintro e w14 ⟨rfl, hb14⟩
      replace hb14 := qtrans hb13 hb14
      clear hb13
      go_wp2_with fail
      refine (E6.out _ (HE.out.below hb14)).mono ?_
      rintro e w15 ⟨rfl, hb15⟩
      replace hb15 := qtrans hb14 hb15
      clear hb14
      by_cases hnil : b = []
      · have C5' := Lib.hid (C4.out (fun c hc => by rw [hnil] at hc; cases hc))
        subst hnil
        rw [List.length_nil]
        clear C4
        go_wp2_with fail
        refine (C5'.out _ (HE.out.below hb15)).mono ?_
        rintro e w16 ⟨rfl, hb16⟩
        replace hb16 := qtrans hb15 hb16
        clear hb15
        go_wp2_with fail
        refine (D4.out _ (HE.out.below hb16)).mono ?_
        rintro e w17 ⟨rfl, hb17⟩
        replace hb17 := qtrans hb16 hb17
        clear hb16
        go_wp2_with fail
        refine (E4.out _ (HE.out.below hb17)).mono ?_
        rintro e w18 ⟨rfl, hb18⟩
        replace hb18 := qtrans hb17 hb18
        clear hb17
        go_wp2_with fail
        refine (CW.out _ (HE.out.below hb18)).mono ?_
        rintro e w19 ⟨rfl, hb19⟩
        replace hb19 := qtrans hb18 hb19
        clear hb18
        go_wp2_with fail
        go_ret
        exact ⟨rfl, qtrans hb02 hb19⟩
      · obtain ⟨m, hm⟩ : ∃ m, b[0]? = some m := ⟨_, List.getElem?_eq_getElem (List.length_pos_iff.2 hnil)⟩
        have hpos : 0 < b.length := List.length_pos_iff.2 hnil
        obtain ⟨bb, off, rfl, _, c0⟩ := rune_at HL.out hpos hm
        have d0 : w15.cell? ⟨bb, off, none⟩ = some (.int .i32 (m : Int)) := cell_later hb15 (by simpa using c0)
        have HM := Lib.hid hm
        obtain ⟨n, hn⟩ : ∃ n, b.length = n := ⟨_, rfl⟩
        rw [hn] at hpos hlen ⊢
        clear hn hm hnil c0
        by_cases h1 : m = 65438
        · have q1 : ((m : Int) == 65438) = true := by simp; omega
          clear h1
          go_wp2_with fail
          refine (CW.out _ (HE.out.below hb15)).mono ?_
          rintro e w16 ⟨rfl, hb16⟩
          replace hb16 := qtrans hb15 hb16
          clear hb15
          go_wp2_with fail
          go_ret
          exact ⟨rfl, qtrans hb02 hb16⟩
        · have q1 : ((m : Int) == 65438) = false := by simp; omega
          by_cases h2 : m = 65439
          · have q2 : ((m : Int) == 65439) = true := by simp; omega
            clear h1 h2
            go_wp2_with fail
            refine (CW.out _ (HE.out.below hb15)).mono ?_
            rintro e w16 ⟨rfl, hb16⟩
            replace hb16 := qtrans hb15 hb16
            clear hb15
            go_wp2_with fail
            go_ret
            exact ⟨rfl, qtrans hb02 hb16⟩
          · have q2 : ((m : Int) == 65439) = false := by simp; omega
            have C5' := Lib.hid (C4.out (fun c hc => by
              have : b[0]? = some c := by rw [← List.head?_eq_getElem?]; exact hc
              rw [HM.out] at this
              rw [← Option.some.inj this]
              unfold isMark; simp [h1, h2]))
            clear h1 h2 C4
            go_wp2_with fail
            refine (C5'.out _ (HE.out.below hb15)).mono ?_
            rintro e w16 ⟨rfl, hb16⟩
            replace hb16 := qtrans hb15 hb16
            clear hb15
            go_wp2_with fail
            refine (D4.out _ (HE.out.below hb16)).mono ?_
            rintro e w17 ⟨rfl, hb17⟩
            replace hb17 := qtrans hb16 hb17
            clear hb16
            go_wp2_with fail
            refine (E4.out _ (HE.out.below hb17)).mono ?_
            rintro e w18 ⟨rfl, hb18⟩
            replace hb18 := qtrans hb17 hb18
            clear hb17
            go_wp2_with fail
            refine (CW.out _ (HE.out.below hb18)).mono ?_
            rintro e w19 ⟨rfl, hb19⟩
            replace hb19 := qtrans hb18 hb19
            clear hb18
            go_wp2_with fail
            go_ret
            exact ⟨rfl, qtrans hb02 hb19⟩

theorem kanaParts_lifted (os : Os) (started : os.Started) (H : Type) (enc : TypeId × Value → H) :
    ReturnsInHanded {} Tryd.checked os 10 .any (fun w args => (Rows.kanaPartsSpec.pre enc Tryd.prog Tryd.f10 Rows.kanaPartsRow.domain false w args ∧ laidMetH Tryd.prog laidOf w) ∧ sizedMet enc Tryd.prog Tryd.f10 (OpenSpec.ofChange Rows.kanaPartsSpec) false w args)
      (Rows.kanaPartsSpec.post enc Tryd.prog Tryd.f10 false true false false) := by
  refine returns_shaped (C := Tryd.checked) (X := fun w _ => laidMetH Tryd.prog laidOf w) (fun _ _ _ hh h => h.of_heap hh) own started (by kernel_rfl) Tryd.func10
    (ChangeSpec.witness_shaped (enc := enc) (C := Tryd.checked) (os := os) (X := fun w _ => laidMetH Tryd.prog laidOf w) false (World.laidAll Tryd.prog os laidOf) #[.string ⟨#[]⟩, .string ⟨#[]⟩] 8 (World.laidAll_os _ _ _)
      (World.shaped_of_ZipB (by kernel_rfl) (by kernel_rfl)) (by kernel_rfl) (by kernel_rfl) (by kernel_rfl)
      (by rw [MakeChecks.laidMetH_plain _ _ _ laidOf_plain]; exact laidMet_laidAll _ (by kernel_rfl) (by kernel_rfl))) ?_
  intro W base args ds gs before hval0 hW hz hL hsh
  have hval : ∀ (j : Nat) t v, Tryd.f10.params[j]? = some t → args[j]? = some v → Value.okWide Tryd.prog W .any base t v := hval0
  have hW' := hW
  obtain ⟨p, q, hA0, hV, rfl, _, _⟩ := hW
  have hA : DataW.TrodAll enc Tryd.prog W 0 (fun _ => true) true Tryd.f10.params.toList args.toList ds p := hA0
  have hpar : Tryd.f10.params = #[9, 9] := by kernel_rfl
  rw [hpar] at hA hval
  obtain ⟨v0, v1, d0, d1, p0, p1, hargs, rfl, rfl, h0, h1⟩ := trodAll_two hA
  obtain rfl : args = #[v0, v1] := by first | exact hargs | (cases args; simp_all)
  obtain ⟨x0, rfl, rfl, rfl, w0⟩ := open_string Tryd.underlying9 (hval 0 9 v0 rfl rfl) h0
  obtain ⟨x1, rfl, rfl, rfl, w1⟩ := open_string Tryd.underlying9 (hval 1 9 v1 rfl rfl) h1
  refine (kanaParts_calls x0 x1 W (by simpa [maxLen] using w0) (by simpa [maxLen] using w1) (env_of hL hsh)).mono fun e W' ⟨he, hbl⟩ => ?_
  subst he
  exact ⟨_, rfl, law_post rfl rfl (by kernel_rfl) hW' rfl rfl rfl hbl⟩

theorem kanaParts_row : Rows.KanaPartsSaid :=
  OpenClaim.holds_of_wide 10 Tryd.f10 rfl rfl rfl rfl rfl rfl rfl ⟨rfl, rfl, rfl, rfl, rfl⟩ rfl rfl rfl rfl rfl (by kernel_rfl) Tryd.func10 (by kernel_rfl)
    (of_decide_eq_true (by kernel_rfl)) (by unfold Func.isWrapper; first | (rw [if_pos (by decide +kernel)]; kernel_rfl) | (rw [if_neg (by decide +kernel)]; exact ⟨rfl, rfl⟩))
    (fun os started H enc _ => kanaParts_lifted os started H enc)
theorem kanaParts_holds : Rows.KanaPartsCardSaid :=
  Claim7.holds_tied_plain_at .later [] [.data, .pinned] true Rows.kanaPartsCard.stood.harness false kanaParts_row (fun _ h => by cases h) (by kernel_rfl) (fun _ h => by cases h) kanaParts_row_tie rfl ⟨rfl, rfl⟩ (by kernel_rfl) rfl
    (fun f fn hf hfn => by
      obtain rfl : f = 10 := Option.some.inj ((show Tryd.prog.funcNamed Rows.kanaPartsRow.func = some 10 by kernel_rfl).symm.trans hf) |>.symm
      obtain rfl : fn = Tryd.f10 := (Option.some.inj (Tryd.func10.symm.trans hfn)).symm
      exact ⟨by kernel_rfl, fun j t ht => by
        have hpar : Tryd.f10.params = #[9, 9] := by kernel_rfl
        rw [hpar] at ht
        have hm : t ∈ [9, 9] := by simpa using Array.mem_of_getElem? ht
        have hall : ([9, 9].all fun u => !Tryd.prog.wantsStandIn u) = true := by kernel_rfl
        exact (show Tryd.prog.wantsStandIn t = false by simpa using List.all_eq_true.1 hall t hm)⟩)
    (by kernel_rfl)
#print axioms kanaParts_holds
end Go.Proofs.YtllfgonmkgookaaDoor
