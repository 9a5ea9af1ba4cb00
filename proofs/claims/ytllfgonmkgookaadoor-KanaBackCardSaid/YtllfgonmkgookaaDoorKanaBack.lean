/- Proved: henkanlaw02.KanaBack returns true for every string: kana that are made half-width, and then full-width again, are the katakana. No condition of ours. -/
import Derived.Test.YtllfgonmkgookaaDoorFrame
import Derived.Test.YtllfgonmkgookaaDoorKanaB
namespace Go.Proofs.YtllfgonmkgookaaDoor
open Go.ChangeShapes Go.WideShapes Go.ChangeAt Go.RowKit Go.Lib Go.Shelf Hk
open Go.ChangeMaps (open_string shut_string)
set_option linter.unusedSimpArgs false
set_option linter.unusedVariables false
set_option maxRecDepth 100000

/-- The loop over the characters: those that are simple. -/
def BackAt (w1 : World) (rs : List Nat) (v i : Value) (wr : World) : Prop :=
  ∃ k : Nat, k ≤ rs.length ∧ i = .int .i64 (k : Int) ∧ wr.ownsRow w1.heap.size 21 1 v ((rs.take k).filter simpleB).length (runeCellsOf ((rs.take k).filter simpleB)) ∧ Below w1.heap.size w1 wr
theorem back_take (rs : List Nat) (k r : Nat) (h : rs[k]? = some r) : (rs.take (k + 1)).filter simpleB = (rs.take k).filter simpleB ++ (if simpleB r = true then [r] else []) := by
  rw [take_snoc_nat rs k r h, List.filter_append]
  by_cases hs : simpleB r = true
  · rw [if_pos hs]; simp [hs]
  · rw [if_neg hs]; simp [hs]

set_option maxHeartbeats 8000000 in
theorem kanaBack_calls (s : ByteArray) (w : World) (hs : s.size ≤ 9223372036854775807) (he : Env w) :
    Calls Tryd.prog 7 #[.string s] w fun e w' => e = .returned (.bool true) ∧ Below w.heap.size w w' := by
  obtain ⟨i0, hi, hz0, hz1, hz2⟩ := info_parts Tryd.info21
  have HE := Lib.hid he
  by_cases hb : 2000 < s.size
  · clear he
    go_enter Tryd.func7, Tryd.ntmps7
    go_wp2_with fail
    go_ret
    exact ⟨rfl, Below.refl _ _⟩
  have CW := Lib.hid works_calls
  have CR := Lib.hid (runes_calls s w (by omega))
  have CS := Lib.hid simple_calls
  have CT := Lib.hid refText_calls
  have CH := Lib.hid half_calls
  have CF := Lib.hid full_calls
  have CK := Lib.hid kata_calls
  have key : ∃ (rs : List Nat) (b : Bool), (∀ r ∈ rs, isRune r) ∧ rs.length ≤ s.size ∧ Calls Tryd.prog 25 #[.string s] w fun e w' => ∃ A c, e = .returned (.tuple #[.slice A rs.length c, .bool b]) ∧ Lies w' w'.heap.size 1 A rs.length (runeCellsOf rs) ∧ Below w.heap.size w w' := by
    cases hD : runesD s.data.toList with
    | none =>
      refine ⟨[], false, (fun r hr => by cases hr), Nat.zero_le _, CR.out.mono ?_⟩
      rintro e w1 ⟨hb1, ⟨_, rfl⟩ | ⟨rs, v, hS, rfl, ho⟩⟩
      · exact ⟨none, 0, rfl, Lies.empty, hb1⟩
      · rw [hD] at hS; cases hS
    | some rs =>
      refine ⟨rs, true, runesD_are hD, by have := runesD_length _ _ _ (Nat.le_refl _) hD; simpa using this, CR.out.mono ?_⟩
      rintro e w1 ⟨hb1, ⟨hN, rfl⟩ | ⟨rs', v, hS, rfl, ho⟩⟩
      · rw [hD] at hN; cases hN
      · rw [hD] at hS
        obtain rfl := Option.some.inj hS
        obtain ⟨A, c, rfl, _, _, hl⟩ := own_lies ho
        exact ⟨A, c, rfl, hl, hb1⟩
  obtain ⟨rs, okb, hrn, hlen, hC⟩ := key
  have CR2 := Lib.hid hC
  have HRN := Lib.hid hrn
  obtain ⟨n, hn⟩ : ∃ n, rs.length = n := ⟨_, rfl⟩
  have HN := Lib.hid hn
  rw [hn] at CR2 hlen
  clear he hC hrn hn CR
  go_enter Tryd.func7, Tryd.ntmps7
  go_wp2_with fail
  refine CR2.out.mono ?_
  rintro e w1 ⟨A, c, rfl, hlies, hb1⟩
  have HL := Lib.hid hlies
  clear hlies CR2
  go_wp2_with fail
  go_loopw [5, 6] (fun v i wr => BackAt w1 rs v i wr) (fun _ i _ => n - (intOf i).toNat)
  case atStart => exact ⟨0, Nat.zero_le _, rfl, World.ownsRow_nil _ _ _ _, Below.refl _ _⟩
  case round =>
    obtain ⟨k, hk, rfl, hown, hbw⟩ := hrel
    rw [HN.out] at hk
    have hlk : ((rs.take k).filter simpleB).length ≤ k := Nat.le_trans (List.length_filter_le _ _) (List.length_take_le _ _)
    by_cases hlt : k < n
    · obtain ⟨r, hr⟩ : ∃ r, rs[k]? = some r := ⟨_, List.getElem?_eq_getElem (by rw [HN.out]; exact hlt)⟩
      obtain ⟨b, off, rfl, hab, e0⟩ := rune_at HL.out hlt hr
      have d0 := cell_later hbw e0
      have HT := Lib.hid (back_take rs k r hr)
      have CS1 := Lib.hid fun W => CS.out r W
      obtain ⟨acc, hacc⟩ : ∃ acc, (rs.take k).filter simpleB = acc := ⟨_, rfl⟩
      rw [hacc] at HT hown hlk
      clear hr e0 hacc
      cases hsim : simpleB r with
      | true =>
        rw [hsim] at CS1 HT
        simp only [if_true] at HT
        clear hsim
        go_wp2_with fail
        refine (CS1.out _).mono ?_
        rintro e w2 ⟨rfl, rfl⟩
        go_wp2_with (at_builtin; refine wpList_append_own _ rfl _ _ 27 rfl w1.heap.size 21 i0 (.int .i32 0) 1 4 Tryd.underlying27 hi hz0 hz1 hz2 rfl (by decide) _ _ _ rfl (hown.alloc _) ⟨wr.heap.size, 0, none⟩ 1 1 [.int .i32 (r : Int)] rfl rfl (cell_one_new _ _ _) (by intro u hu; simp at hu; subst hu; rfl) (by unfold maxLen; omega) (by omega) (by have := hbw.size; simp; omega) ?_)
        intro v' w5 ho5 hg5 _
        have hbw5 := below_append hbw _ hown hg5
        have HO5 : Hid (w5.ownsRow w1.heap.size 21 1 v' (acc ++ [r]).length (runeCellsOf (acc ++ [r]))) := by show World.ownsRow _ _ _ _ _ _ _; rw [List.length_append, runeCellsOf_append]; exact ho5
        clear hg5 ho5 hown hbw d0
        go_wp2_with fail
        go_roundw
        case rel => exact ⟨k + 1, by rw [HN.out]; omega, by go_num, by rw [HT.out]; exact HO5.out, hbw5⟩
        case measure => simp [intOf]; omega
      | false =>
        rw [hsim] at CS1 HT
        simp only [Bool.false_eq_true, if_false, List.append_nil] at HT
        clear hsim
        go_wp2_with fail
        refine (CS1.out _).mono ?_
        rintro e w2 ⟨rfl, rfl⟩
        go_wp2_with fail
        go_roundw
        case rel => exact ⟨k + 1, by rw [HN.out]; omega, by go_num, by rw [HT.out]; exact hown, hbw⟩
        case measure => simp [intOf]; omega
    · have hall : ∀ r ∈ (rs.take k).filter simpleB, isRune r ∧ simpleB r = true := fun r hr => by
        obtain ⟨h1, h2⟩ := List.mem_filter.1 hr
        exact ⟨HRN.out r (List.mem_of_mem_take h1), h2⟩
      obtain ⟨l, hll⟩ : ∃ l, (rs.take k).filter simpleB = l := ⟨_, rfl⟩
      rw [hll] at hall hown hlk
      obtain ⟨A2, c2, rfl, _, _, hl2⟩ := own_lies hown
      have CX := Lib.hid (CT.out A2 c2 l _ wr _ rfl hl2 (Nat.le_refl _) (fun r hr => (hall r hr).1) (by omega))
      have hbk := back_ok hall
      have hsz : (bstr (encT l)).size ≤ 8000 := by rw [bstr_size]; have := (encT_len l).2; omega
      have hsz2 := half_size (bstr (encT l))
      have C1 := Lib.hid fun W (hW : Env W) => CH.out (bstr (encT l)) W (by omega) hW
      have C2 := Lib.hid fun W (hW : Env W) => CF.out (halfS (bstr (encT l))) W (by omega) hW
      have C3 := Lib.hid fun W (hW : Env W) => CK.out (bstr (encT l)) W (by omega) hW
      rw [hbk] at C2
      generalize l.length = q at *
      generalize halfS (bstr (encT l)) = H at *
      generalize kataS (bstr (encT l)) = K at *
      generalize bstr (encT l) = T at *
      have qq : (K.toList == K.toList) = true := by simp
      have hb0 := qtrans hb1 hbw
      clear hown hl2 hall hll hbk
      go_wp2_with fail
      refine CX.out.mono ?_
      rintro e w3 ⟨rfl, hb3⟩
      replace hb3 := qtrans hb0 hb3
      go_wp2_with fail
      refine (C1.out _ (HE.out.below hb3)).mono ?_
      rintro e w4 ⟨rfl, hb4⟩
      replace hb4 := qtrans hb3 hb4
      clear hb3
      go_wp2_with fail
      refine (C2.out _ (HE.out.below hb4)).mono ?_
      rintro e w5 ⟨rfl, hb5⟩
      replace hb5 := qtrans hb4 hb5
      clear hb4
      go_wp2_with fail
      refine (C3.out _ (HE.out.below hb5)).mono ?_
      rintro e w6 ⟨rfl, hb6⟩
      replace hb6 := qtrans hb5 hb6
      clear hb5
      go_wp2_with fail
      refine (CW.out _ (HE.out.below hb6)).mono ?_
      rintro e w7 ⟨rfl, hb7⟩
      replace hb7 := qtrans hb6 hb7
      clear hb6
      go_wp2_with fail
      go_ret
      exact ⟨rfl, hb7⟩

theorem kanaBack_lifted (os : Os) (started : os.Started) (H : Type) (enc : TypeId × Value → H) :
    ReturnsInHanded {} Tryd.checked os 7 .any (fun w args => (Rows.kanaBackSpec.pre enc Tryd.prog Tryd.f7 Rows.kanaBackRow.domain false w args ∧ laidMetH Tryd.prog laidOf w) ∧ sizedMet enc Tryd.prog Tryd.f7 (OpenSpec.ofChange Rows.kanaBackSpec) false w args)
      (Rows.kanaBackSpec.post enc Tryd.prog Tryd.f7 false true false false) := by
  refine returns_shaped (C := Tryd.checked) (X := fun w _ => laidMetH Tryd.prog laidOf w) (fun _ _ _ hh h => h.of_heap hh) own started (by kernel_rfl) Tryd.func7
    (ChangeSpec.witness_shaped (enc := enc) (C := Tryd.checked) (os := os) (X := fun w _ => laidMetH Tryd.prog laidOf w) false (World.laidAll Tryd.prog os laidOf) #[.string ⟨#[]⟩] 8 (World.laidAll_os _ _ _)
      (World.shaped_of_ZipB (by kernel_rfl) (by kernel_rfl)) (by kernel_rfl) (by kernel_rfl) (by kernel_rfl)
      (by rw [MakeChecks.laidMetH_plain _ _ _ laidOf_plain]; exact laidMet_laidAll _ (by kernel_rfl) (by kernel_rfl))) ?_
  intro W base args ds gs before hval0 hW hz hL hsh
  have hval : ∀ (j : Nat) t v, Tryd.f7.params[j]? = some t → args[j]? = some v → Value.okWide Tryd.prog W .any base t v := hval0
  have hW' := hW
  obtain ⟨p, q, hA0, hV, rfl, _, _⟩ := hW
  have hA : DataW.TrodAll enc Tryd.prog W 0 (fun _ => true) true Tryd.f7.params.toList args.toList ds p := hA0
  have hpar : Tryd.f7.params = #[9] := by kernel_rfl
  rw [hpar] at hA hval
  obtain ⟨v0, d0, hargs, rfl, h0⟩ := trodAll_one hA
  obtain rfl : args = #[v0] := by first | exact hargs | (cases args; simp_all)
  obtain ⟨x0, rfl, rfl, rfl, w0⟩ := open_string Tryd.underlying9 (hval 0 9 v0 rfl rfl) h0
  refine (kanaBack_calls x0 W (by simpa [maxLen] using w0) (env_of hL hsh)).mono fun e W' ⟨he, hbl⟩ => ?_
  subst he
  exact ⟨_, rfl, law_post rfl rfl (by kernel_rfl) hW' rfl rfl rfl hbl⟩

theorem kanaBack_row : Rows.KanaBackSaid :=
  OpenClaim.holds_of_wide 7 Tryd.f7 rfl rfl rfl rfl rfl rfl rfl ⟨rfl, rfl, rfl, rfl, rfl⟩ rfl rfl rfl rfl rfl (by kernel_rfl) Tryd.func7 (by kernel_rfl)
    (of_decide_eq_true (by kernel_rfl)) (by unfold Func.isWrapper; first | (rw [if_pos (by decide +kernel)]; kernel_rfl) | (rw [if_neg (by decide +kernel)]; exact ⟨rfl, rfl⟩))
    (fun os started H enc _ => kanaBack_lifted os started H enc)
theorem kanaBack_holds : Rows.KanaBackCardSaid :=
  Claim7.holds_tied_plain_at .later [] [.data, .pinned] true Rows.kanaBackCard.stood.harness false kanaBack_row (fun _ h => by cases h) (by kernel_rfl) (fun _ h => by cases h) kanaBack_row_tie rfl ⟨rfl, rfl⟩ (by kernel_rfl) rfl
    (fun f fn hf hfn => by
      obtain rfl : f = 7 := Option.some.inj ((show Tryd.prog.funcNamed Rows.kanaBackRow.func = some 7 by kernel_rfl).symm.trans hf) |>.symm
      obtain rfl : fn = Tryd.f7 := (Option.some.inj (Tryd.func7.symm.trans hfn)).symm
      exact ⟨by kernel_rfl, fun j t ht => by
        have hpar : Tryd.f7.params = #[9] := by kernel_rfl
        rw [hpar] at ht
        have hm : t ∈ [9] := by simpa using Array.mem_of_getElem? ht
        have hall : ([9].all fun u => !Tryd.prog.wantsStandIn u) = true := by kernel_rfl
        exact (show Tryd.prog.wantsStandIn t = false by simpa using List.all_eq_true.1 hall t hm)⟩)
    (by kernel_rfl)
#print axioms kanaBack_holds
end Go.Proofs.YtllfgonmkgookaaDoor
