/- Proved: henkanlaw02.KanaKeeps returns true for every string: strings that are not valid stay; the number of characters changes only by sound marks. No condition of ours. -/
import Derived.Test.YtllfgonmkgookaaDoorFrame
import Derived.Test.YtllfgonmkgookaaDoorKanaL
import Derived.Test.YtllfgonmkgookaaDoorKanaZ
import Derived.Test.YtllfgonmkgookaaDoorRef4
namespace Go.Proofs.YtllfgonmkgookaaDoor
open Go.ChangeShapes Go.WideShapes Go.ChangeAt Go.RowKit Go.Lib Go.Shelf Hk
open Go.ChangeMaps (open_string shut_string)
set_option linter.unusedSimpArgs false
set_option linter.unusedVariables false
set_option maxRecDepth 100000

theorem count_of {l : List UInt8} {rs : List Nat} (h : runesD l = some rs) : countD l = (rs.length : Int) := by unfold countD; rw [h]
set_option maxHeartbeats 4000000 in
theorem kanaKeeps_calls (s : ByteArray) (w : World) (hs : s.size ≤ 9223372036854775807) (he : Env w) :
    Calls Tryd.prog 11 #[.string s] w fun e w' => e = .returned (.bool true) ∧ Below w.heap.size w w' := by
  have HE := Lib.hid he
  by_cases hb : 2000 < s.size
  · clear he
    go_enter Tryd.func11, Tryd.ntmps11
    go_wp2_with fail
    go_ret
    exact ⟨rfl, Below.refl _ _⟩
  have CW := Lib.hid works_calls
  have CR := Lib.hid (runes_calls s w (by omega))
  have q : (s.toList == s.toList) = true := by simp
  clear he
  cases hD : runesD s.data.toList with
  | none =>
    have C1 := Lib.hid fun W (hW : Env W) => hira_calls s W (by omega) hW
    rw [show hiraS s = s from strB_none hD] at C1
    have C2 := Lib.hid fun W (hW : Env W) => kata_calls s W (by omega) hW
    rw [show kataS s = s from strB_none hD] at C2
    have C3 := Lib.hid fun W (hW : Env W) => half_calls s W (by omega) hW
    rw [show halfS s = s from strB_none hD] at C3
    have C4 := Lib.hid fun W (hW : Env W) => full_calls s W (by omega) hW
    rw [show fullS s = s from strB_none hD] at C4
    have C5 := Lib.hid fun W (hW : Env W) => wide_calls s W (by omega) hW
    rw [show wideS s = s from strB_none hD] at C5
    have C6 := Lib.hid fun W (hW : Env W) => narrow_calls s W (by omega) hW
    rw [show narrowS s = s from strB_none hD] at C6
    have C7 := Lib.hid fun W (hW : Env W) => reading_calls s W (by omega) hW
    rw [show readingD s.data.toList = false by unfold readingD; rw [hD]] at C7
    have HD := Lib.hid hD
    clear hD
    go_enter Tryd.func11, Tryd.ntmps11
    go_wp2_with fail
    refine CR.out.mono ?_
    rintro e w1 ⟨hb1, ⟨_, rfl⟩ | ⟨rs, v, hD, rfl, ho⟩⟩
    · skip
      go_wp2_with fail
      refine (C1.out _ (HE.out.below hb1)).mono ?_
      rintro e w2 ⟨rfl, hb2⟩
      replace hb2 := qtrans hb1 hb2
      clear hb1
      go_wp2_with fail
      refine (C2.out _ (HE.out.below hb2)).mono ?_
      rintro e w3 ⟨rfl, hb3⟩
      replace hb3 := qtrans hb2 hb3
      clear hb2
      go_wp2_with fail
      refine (C3.out _ (HE.out.below hb3)).mono ?_
      rintro e w4 ⟨rfl, hb4⟩
      replace hb4 := qtrans hb3 hb4
      clear hb3
      go_wp2_with fail
      refine (C4.out _ (HE.out.below hb4)).mono ?_
      rintro e w5 ⟨rfl, hb5⟩
      replace hb5 := qtrans hb4 hb5
      clear hb4
      go_wp2_with fail
      refine (C5.out _ (HE.out.below hb5)).mono ?_
      rintro e w6 ⟨rfl, hb6⟩
      replace hb6 := qtrans hb5 hb6
      clear hb5
      go_wp2_with fail
      refine (C6.out _ (HE.out.below hb6)).mono ?_
      rintro e w7 ⟨rfl, hb7⟩
      replace hb7 := qtrans hb6 hb7
      clear hb6
      go_wp2_with fail
      refine (C7.out _ (HE.out.below hb7)).mono ?_
      rintro e w8 ⟨rfl, hb8⟩
      replace hb8 := qtrans hb7 hb8
      clear hb7
      go_wp2_with fail
      refine (CW.out _ (HE.out.below hb8)).mono ?_
      rintro e w9 ⟨rfl, hb9⟩
      replace hb9 := qtrans hb8 hb9
      clear hb8
      go_wp2_with fail
      go_ret
      exact ⟨rfl, hb9⟩
    · rw [HD.out] at hD; cases hD
  | some rs =>
    have HD := Lib.hid hD
    go_enter Tryd.func11, Tryd.ntmps11
    go_wp2_with fail
    refine CR.out.mono ?_
    rintro e w1 ⟨hb1, ⟨hN, rfl⟩ | ⟨rs', v, hS, rfl, ho⟩⟩
    · rw [HD.out] at hN; cases hN
    · rw [HD.out] at hS
      obtain rfl := Option.some.inj hS
      obtain ⟨A, c, rfl, _, _⟩ := own_slice ho
      have hl : rs.length ≤ s.size := by have := runesD_length _ _ _ (Nat.le_refl _) hD; simpa using this
      have hh := half_len rs
      have hf := full_len rs
      have s1 := hira_size s
      have C1 := Lib.hid fun W (hW : Env W) => hira_calls s W (by omega) hW
      have D1 := Lib.hid fun W => refCount_calls (hiraS s) W (by omega)
      rw [count_of (strB_count keeps_hira hD), List.length_map] at D1
      have s2 := kata_size s
      have C2 := Lib.hid fun W (hW : Env W) => kata_calls s W (by omega) hW
      have D2 := Lib.hid fun W => refCount_calls (kataS s) W (by omega)
      rw [count_of (strB_count keeps_kata hD), List.length_map] at D2
      have s3 := half_size s
      have C3 := Lib.hid fun W (hW : Env W) => half_calls s W (by omega) hW
      have D3 := Lib.hid fun W => refCount_calls (halfS s) W (by omega)
      rw [count_of (strB_count keeps_half hD)] at D3
      have s4 := full_size s
      have C4 := Lib.hid fun W (hW : Env W) => full_calls s W (by omega) hW
      have D4 := Lib.hid fun W => refCount_calls (fullS s) W (by omega)
      rw [count_of (strB_count keeps_full hD)] at D4
      have s5 := wide_size s
      have C5 := Lib.hid fun W (hW : Env W) => wide_calls s W (by omega) hW
      have D5 := Lib.hid fun W => refCount_calls (wideS s) W (by omega)
      rw [count_of (strB_count keeps_wide hD), List.length_map] at D5
      have s6 := narrow_size s
      have C6 := Lib.hid fun W (hW : Env W) => narrow_calls s W (by omega) hW
      have D6 := Lib.hid fun W => refCount_calls (narrowS s) W (by omega)
      rw [count_of (strB_count keeps_narrow hD), List.length_map] at D6
      generalize hiraS s = x1 at *
      generalize kataS s = x2 at *
      generalize halfS s = x3 at *
      generalize fullS s = x4 at *
      generalize wideS s = x5 at *
      generalize narrowS s = x6 at *
      generalize (rs.flatMap halfC).length = H at *
      generalize (fullC rs).length = F at *
      generalize rs.length = n at *
      obtain ⟨hh1, hh2⟩ := hh
      obtain ⟨hf1, hf2⟩ := hf
      clear hD hS s1 s2 s3 s4 s5 s6 ho CR
      go_wp2_with fail
      refine (C3.out _ (HE.out.below hb1)).mono ?_
      rintro e w2 ⟨rfl, hb2⟩
      replace hb2 := qtrans hb1 hb2
      clear hb1
      go_wp2_with fail
      refine (D3.out _).mono ?_
      rintro e w3 ⟨rfl, hb3⟩
      replace hb3 := qtrans hb2 hb3
      clear hb2
      go_wp2_with fail
      refine (C4.out _ (HE.out.below hb3)).mono ?_
      rintro e w4 ⟨rfl, hb4⟩
      replace hb4 := qtrans hb3 hb4
      clear hb3
      go_wp2_with fail
      refine (D4.out _).mono ?_
      rintro e w5 ⟨rfl, hb5⟩
      replace hb5 := qtrans hb4 hb5
      clear hb4
      go_wp2_with fail
      refine (C1.out _ (HE.out.below hb5)).mono ?_
      rintro e w6 ⟨rfl, hb6⟩
      replace hb6 := qtrans hb5 hb6
      clear hb5
      go_wp2_with fail
      refine (D1.out _).mono ?_
      rintro e w7 ⟨rfl, hb7⟩
      replace hb7 := qtrans hb6 hb7
      clear hb6
      go_wp2_with fail
      refine (C2.out _ (HE.out.below hb7)).mono ?_
      rintro e w8 ⟨rfl, hb8⟩
      replace hb8 := qtrans hb7 hb8
      clear hb7
      go_wp2_with fail
      refine (D2.out _).mono ?_
      rintro e w9 ⟨rfl, hb9⟩
      replace hb9 := qtrans hb8 hb9
      clear hb8
      go_wp2_with fail
      refine (C5.out _ (HE.out.below hb9)).mono ?_
      rintro e w10 ⟨rfl, hb10⟩
      replace hb10 := qtrans hb9 hb10
      clear hb9
      go_wp2_with fail
      refine (D5.out _).mono ?_
      rintro e w11 ⟨rfl, hb11⟩
      replace hb11 := qtrans hb10 hb11
      clear hb10
      go_wp2_with fail
      refine (C6.out _ (HE.out.below hb11)).mono ?_
      rintro e w12 ⟨rfl, hb12⟩
      replace hb12 := qtrans hb11 hb12
      clear hb11
      go_wp2_with fail
      refine (D6.out _).mono ?_
      rintro e w13 ⟨rfl, hb13⟩
      replace hb13 := qtrans hb12 hb13
      clear hb12
      go_wp2_with fail
      refine (CW.out _ (HE.out.below hb13)).mono ?_
      rintro e w14 ⟨rfl, hb14⟩
      replace hb14 := qtrans hb13 hb14
      clear hb13
      go_wp2_with fail
      go_ret
      exact ⟨rfl, hb14⟩

theorem kanaKeeps_lifted (os : Os) (started : os.Started) (H : Type) (enc : TypeId × Value → H) :
    ReturnsInHanded {} Tryd.checked os 11 .any (fun w args => (Rows.kanaKeepsSpec.pre enc Tryd.prog Tryd.f11 Rows.kanaKeepsRow.domain false w args ∧ laidMetH Tryd.prog laidOf w) ∧ sizedMet enc Tryd.prog Tryd.f11 (OpenSpec.ofChange Rows.kanaKeepsSpec) false w args)
      (Rows.kanaKeepsSpec.post enc Tryd.prog Tryd.f11 false true false false) := by
  refine returns_shaped (C := Tryd.checked) (X := fun w _ => laidMetH Tryd.prog laidOf w) (fun _ _ _ hh h => h.of_heap hh) own started (by kernel_rfl) Tryd.func11
    (ChangeSpec.witness_shaped (enc := enc) (C := Tryd.checked) (os := os) (X := fun w _ => laidMetH Tryd.prog laidOf w) false (World.laidAll Tryd.prog os laidOf) #[.string ⟨#[]⟩] 8 (World.laidAll_os _ _ _)
      (World.shaped_of_ZipB (by kernel_rfl) (by kernel_rfl)) (by kernel_rfl) (by kernel_rfl) (by kernel_rfl)
      (by rw [MakeChecks.laidMetH_plain _ _ _ laidOf_plain]; exact laidMet_laidAll _ (by kernel_rfl) (by kernel_rfl))) ?_
  intro W base args ds gs before hval0 hW hz hL hsh
  have hval : ∀ (j : Nat) t v, Tryd.f11.params[j]? = some t → args[j]? = some v → Value.okWide Tryd.prog W .any base t v := hval0
  have hW' := hW
  obtain ⟨p, q, hA0, hV, rfl, _, _⟩ := hW
  have hA : DataW.TrodAll enc Tryd.prog W 0 (fun _ => true) true Tryd.f11.params.toList args.toList ds p := hA0
  have hpar : Tryd.f11.params = #[9] := by kernel_rfl
  rw [hpar] at hA hval
  obtain ⟨v0, d0, hargs, rfl, h0⟩ := trodAll_one hA
  obtain rfl : args = #[v0] := by first | exact hargs | (cases args; simp_all)
  obtain ⟨x0, rfl, rfl, rfl, w0⟩ := open_string Tryd.underlying9 (hval 0 9 v0 rfl rfl) h0
  refine (kanaKeeps_calls x0 W (by simpa [maxLen] using w0) (env_of hL hsh)).mono fun e W' ⟨he, hbl⟩ => ?_
  subst he
  exact ⟨_, rfl, law_post rfl rfl (by kernel_rfl) hW' rfl rfl rfl hbl⟩

theorem kanaKeeps_row : Rows.KanaKeepsSaid :=
  OpenClaim.holds_of_wide 11 Tryd.f11 rfl rfl rfl rfl rfl rfl rfl ⟨rfl, rfl, rfl, rfl, rfl⟩ rfl rfl rfl rfl rfl (by kernel_rfl) Tryd.func11 (by kernel_rfl)
    (of_decide_eq_true (by kernel_rfl)) (by unfold Func.isWrapper; first | (rw [if_pos (by decide +kernel)]; kernel_rfl) | (rw [if_neg (by decide +kernel)]; exact ⟨rfl, rfl⟩))
    (fun os started H enc _ => kanaKeeps_lifted os started H enc)
theorem kanaKeeps_holds : Rows.KanaKeepsCardSaid :=
  Claim7.holds_tied_plain_at .later [] [.data, .pinned] true Rows.kanaKeepsCard.stood.harness false kanaKeeps_row (fun _ h => by cases h) (by kernel_rfl) (fun _ h => by cases h) kanaKeeps_row_tie rfl ⟨rfl, rfl⟩ (by kernel_rfl) rfl
    (fun f fn hf hfn => by
      obtain rfl : f = 11 := Option.some.inj ((show Tryd.prog.funcNamed Rows.kanaKeepsRow.func = some 11 by kernel_rfl).symm.trans hf) |>.symm
      obtain rfl : fn = Tryd.f11 := (Option.some.inj (Tryd.func11.symm.trans hfn)).symm
      exact ⟨by kernel_rfl, fun j t ht => by
        have hpar : Tryd.f11.params = #[9] := by kernel_rfl
        rw [hpar] at ht
        have hm : t ∈ [9] := by simpa using Array.mem_of_getElem? ht
        have hall : ([9].all fun u => !Tryd.prog.wantsStandIn u) = true := by kernel_rfl
        exact (show Tryd.prog.wantsStandIn t = false by simpa using List.all_eq_true.1 hall t hm)⟩)
    (by kernel_rfl)
#print axioms kanaKeeps_holds
end Go.Proofs.YtllfgonmkgookaaDoor
