/- Proved: henkanlaw31.HistoryForgets returns true for every list of strings and every string: what About leaves has the surface nowhere; asking again returns the same. No condition of ours. -/
import Derived.Test.YtleflnbcgkfojaaDoorBulk
import Derived.Test.YtleflnbcgkfojaaDoorHist6
namespace Go.Proofs.YtleflnbcgkfojaaDoor
open Go.ChangeShapes Go.WideShapes Go.ChangeAt Go.RowKit Go.Lib Go.Shelf Hk
open Go.ChangeMaps (open_string shut_string)
set_option linter.unusedSimpArgs false
set_option linter.unusedVariables false
set_option maxRecDepth 100000

theorem aboutD_idem (s : ByteArray) (l : List ByteArray) : aboutD s (aboutD s l) = aboutD s l := by
  unfold aboutD
  rw [List.filter_filter]
  congr 1
  funext k
  simp
theorem aboutD_split (s : ByteArray) (l : List ByteArray) (k : Nat) (key : ByteArray) (h : l[k]? = some key) (hb : aboutB s key = true) : (aboutD s l)[(aboutD s (l.take k)).length]? = some key := by
  obtain ⟨hlt, e⟩ := List.getElem?_eq_some_iff.1 h
  have : l = l.take k ++ key :: l.drop (k + 1) := by
    conv => lhs; rw [← List.take_append_drop k l, List.drop_eq_getElem_cons hlt, e]
  have h2 : aboutD s l = aboutD s (l.take k) ++ key :: aboutD s (l.drop (k + 1)) := by
    conv => lhs; rw [this]
    unfold aboutD
    rw [List.filter_append, List.filter_cons, if_pos hb]
  rw [h2, List.getElem?_append_right (Nat.le_refl _)]
  simp
theorem aboutD_len_le (s : ByteArray) (l : List ByteArray) (k : Nat) : (aboutD s (l.take k)).length ≤ (aboutD s l).length := by
  unfold aboutD
  exact ((List.take_sublist k l).filter _).length_le

set_option maxHeartbeats 4000000 in
theorem historyForgets_calls (A : Option Addr) (cap : Nat) (l : List ByteArray) (s : ByteArray) (w : World) (hl : Lies w w.heap.size 1 A l.length (l.map Value.string)) (hc : l.length ≤ cap) (hm : cap ≤ maxLen) (hs : ∀ k ∈ l, k.size ≤ maxLen) (hss : s.size ≤ 9223372036854775807) (he : Env w) :
    Calls Tryd.prog 6 #[.slice A l.length cap, .string s] w fun e w' => e = .returned (.bool true) ∧ Below w.heap.size w w' := by
  unfold maxLen at hm hs
  have HE := Lib.hid he
  have CW := Lib.hid works_calls
  have C0 := Lib.hid (few_calls A cap l w _ hl (by omega) (fun k hk => by have := hs k hk; omega))
  cases hf : fewB l with
  | false =>
    rw [hf] at C0
    clear he hl hs hf
    generalize l.length = n at *
    go_enter Tryd.func6, Tryd.ntmps6
    go_wp2_with fail
    refine C0.out.mono ?_
    rintro e w1 ⟨rfl, rfl⟩
    go_wp2_with fail
    refine (Lib.hid (CW.out _ HE.out)).out.mono ?_
    rintro e w1 ⟨rfl, hb1⟩
    go_wp2_with fail
    go_ret
    exact ⟨rfl, hb1⟩
  | true =>
    rw [hf] at C0
    obtain ⟨h1, h2⟩ := fewB_yes hf
    have C1 := Lib.hid (about_calls A cap l s w hl (by omega) (fun k hk => by have := h1 k hk; omega) he)
    have CS := Lib.hid same_calls
    have CA := Lib.hid about_calls
    have HL := Lib.hid hl
    have H1 := Lib.hid h1
    have hlen := aboutD_len s l
    clear he hl hs hf h1
    obtain ⟨n, hnn⟩ : ∃ n, n = l.length := ⟨_, rfl⟩
    have HN := Lib.hid hnn
    rw [← hnn] at HL C1 C0 hc h2 hlen ⊢
    clear hnn
    go_enter Tryd.func6, Tryd.ntmps6
    go_wp2_with fail
    refine C0.out.mono ?_
    rintro e w1 ⟨rfl, rfl⟩
    go_wp2_with fail
    refine C1.out.mono ?_
    rintro e w1 ⟨v1, rfl, ho1, hb1⟩
    obtain ⟨A1, c1, rfl, _, _, hab⟩ := own_lies ho1
    have HAB := Lib.hid hab
    have HL1 := Lib.hid ((HL.out.below hb1).up hb1.size)
    obtain ⟨na, hna⟩ : ∃ na, na = (aboutD s l).length := ⟨_, rfl⟩
    have HNA := Lib.hid hna
    rw [← hna] at HAB hlen ⊢
    clear hna hab ho1 C0 C1 HL
    go_wp2_with fail
    go_loopw [6, 22] (fun m i wr => ∃ k N : Nat, k ≤ n ∧ i = .int .i64 (k : Int) ∧ m = .int .i64 (N : Int) ∧ N ≤ na ∧ Hid (N = (aboutD s (l.take k)).length) ∧ Below w1.heap.size w1 wr) (fun _ i _ => n - (intOf i).toNat)
    case atStart => exact ⟨0, 0, Nat.zero_le _, rfl, rfl, Nat.zero_le _, rfl, Below.refl _ _⟩
    case round =>
      obtain ⟨k, N, hk, rfl, rfl, hNa, HK, hbw⟩ := hrel
      by_cases hlt : k < n
      · obtain ⟨key, hck⟩ : ∃ c, l[k]? = some c := ⟨_, List.getElem?_eq_getElem (by rw [← HN.out]; exact hlt)⟩
        obtain ⟨b, off, rfl, _, c0⟩ := (HL1.out.below hbw).at1 hlt (u := .string key) (by rw [List.getElem?_map, hck]; rfl)
        have hkb := H1.out key (List.mem_of_getElem? hck)
        have HT := Lib.hid (take_snoc_list l k key hck)
        have CP := Lib.hid fun W (hW : Env W) => parse_calls key W (by omega) hW
        cases hB : aboutB s key with
        | true =>
          have hat := aboutD_split s l k key hck hB
          rw [← HK.out] at hat
          have hNlt : N < na := by rw [HNA.out]; exact (List.getElem?_eq_some_iff.1 hat).1
          have HK2 : Hid (N + 1 = (aboutD s (l.take (k + 1))).length) := by show _ = _; rw [HT.out, aboutD_yes hB, List.length_append, ← HK.out]; rfl
          obtain ⟨b', off', rfl, _, d0⟩ := (HAB.out.below hbw).at1 hNlt (u := .string key) (by rw [List.getElem?_map, hat]; rfl)
          have g1 : decide ((N : Int) < (na : Int)) = true := decide_eq_true (by omega)
          have g2 : decide (N < na) = true := decide_eq_true hNlt
          have g3 : (key.toList == key.toList) = true := by simp
          clear hat hB hck
          go_wp2_with fail
          go_roundw
          case rel => exact ⟨k + 1, N + 1, by omega, by go_num, by go_num, by omega, HK2, hbw⟩
          case measure => simp [intOf]; omega
        | false =>
          have HK2 : Hid (N = (aboutD s (l.take (k + 1))).length) := by show _ = _; rw [HT.out, aboutD_no hB]; exact HK.out
          have HB := Lib.hid hB
          clear hB hck
          by_cases hNlt : N < na
          · obtain ⟨y, hy⟩ : ∃ y, (aboutD s l)[N]? = some y := ⟨_, List.getElem?_eq_getElem (by rw [← HNA.out]; exact hNlt)⟩
            obtain ⟨b2, off2, rfl, _, d0⟩ := (HAB.out.below hbw).at1 hNlt (u := .string y) (by rw [List.getElem?_map, hy]; rfl)
            have g3 : (y.toList == key.toList) = false := by
              rw [beq_eq_false_iff_ne]
              intro e
              have hy2 : aboutB s y = true := (List.mem_filter.1 (List.mem_of_getElem? hy)).2
              have : y = key := by
                rw [ByteArray.toList_eq, ByteArray.toList_eq] at e
                rw [← mk_list y, e, mk_list]
              rw [this, HB.out] at hy2
              cases hy2
            have g1 : decide ((N : Int) < (na : Int)) = true := decide_eq_true (by omega)
            have g2 : decide (N < na) = true := decide_eq_true hNlt
            clear hy
            cases hp : kparse key.data.toList with
            | none =>
              simp only [ParsePost_none hp] at CP
              clear hp
              go_wp2_with fail
              refine (CP.out _ (HE.out.below (qtrans hb1 hbw))).mono ?_
              rintro e w2 ⟨rfl, hb2⟩
              replace hb2 := qtrans hbw hb2
              clear c0 hbw
              go_wp2_with fail
              go_roundw
              case rel => exact ⟨k + 1, N, by omega, by go_num, rfl, by omega, HK2, hb2⟩
              case measure => simp [intOf]; omega
            | some x =>
              obtain ⟨kk, a, b'⟩ := x
              simp only [ParsePost_some hp] at CP
              have hX : ((b' == s.data.toList) || ((kk == 2) && (a == s.data.toList))) = false := by have := HB.out; unfold aboutB at this; rw [hp] at this; exact this
              obtain ⟨a', ha'⟩ : ∃ a' : ByteArray, a' = ⟨a.toArray⟩ := ⟨_, rfl⟩
              obtain ⟨d, hd⟩ : ∃ d : ByteArray, d = ⟨b'.toArray⟩ := ⟨_, rfl⟩
              have ea : a = a'.toList := by rw [ByteArray.toList_eq, ha']
              have ed : b' = d.toList := by rw [ByteArray.toList_eq, hd]
              rw [← ha', ← hd] at CP
              rw [← ByteArray.toList_eq s, ea, ed, Bool.or_eq_false_iff] at hX
              obtain ⟨q1, q2⟩ := hX
              clear ha' hd ea ed hp
              cases q3 : (kk == 2) with
              | false =>
                clear q2
                go_wp2_with fail
                refine (CP.out _ (HE.out.below (qtrans hb1 hbw))).mono ?_
                rintro e w2 ⟨rfl, hb2⟩
                replace hb2 := qtrans hbw hb2
                clear c0 hbw
                go_wp2_with fail
                go_roundw
                case rel => exact ⟨k + 1, N, by omega, by go_num, rfl, by omega, HK2, hb2⟩
                case measure => simp [intOf]; omega
              | true =>
                rw [q3, Bool.true_and] at q2
                go_wp2_with fail
                refine (CP.out _ (HE.out.below (qtrans hb1 hbw))).mono ?_
                rintro e w2 ⟨rfl, hb2⟩
                replace hb2 := qtrans hbw hb2
                clear c0 hbw
                go_wp2_with fail
                go_roundw
                case rel => exact ⟨k + 1, N, by omega, by go_num, rfl, by omega, HK2, hb2⟩
                case measure => simp [intOf]; omega
          · have g1 : decide ((N : Int) < (na : Int)) = false := decide_eq_false (by omega)
            have g2 : decide (N < na) = false := decide_eq_false hNlt
            cases hp : kparse key.data.toList with
            | none =>
              simp only [ParsePost_none hp] at CP
              clear hp
              go_wp2_with fail
              refine (CP.out _ (HE.out.below (qtrans hb1 hbw))).mono ?_
              rintro e w2 ⟨rfl, hb2⟩
              replace hb2 := qtrans hbw hb2
              clear c0 hbw
              go_wp2_with fail
              go_roundw
              case rel => exact ⟨k + 1, N, by omega, by go_num, rfl, by omega, HK2, hb2⟩
              case measure => simp [intOf]; omega
            | some x =>
              obtain ⟨kk, a, b'⟩ := x
              simp only [ParsePost_some hp] at CP
              have hX : ((b' == s.data.toList) || ((kk == 2) && (a == s.data.toList))) = false := by have := HB.out; unfold aboutB at this; rw [hp] at this; exact this
              obtain ⟨a', ha'⟩ : ∃ a' : ByteArray, a' = ⟨a.toArray⟩ := ⟨_, rfl⟩
              obtain ⟨d, hd⟩ : ∃ d : ByteArray, d = ⟨b'.toArray⟩ := ⟨_, rfl⟩
              have ea : a = a'.toList := by rw [ByteArray.toList_eq, ha']
              have ed : b' = d.toList := by rw [ByteArray.toList_eq, hd]
              rw [← ha', ← hd] at CP
              rw [← ByteArray.toList_eq s, ea, ed, Bool.or_eq_false_iff] at hX
              obtain ⟨q1, q2⟩ := hX
              clear ha' hd ea ed hp
              cases q3 : (kk == 2) with
              | false =>
                clear q2
                go_wp2_with fail
                refine (CP.out _ (HE.out.below (qtrans hb1 hbw))).mono ?_
                rintro e w2 ⟨rfl, hb2⟩
                replace hb2 := qtrans hbw hb2
                clear c0 hbw
                go_wp2_with fail
                go_roundw
                case rel => exact ⟨k + 1, N, by omega, by go_num, rfl, by omega, HK2, hb2⟩
                case measure => simp [intOf]; omega
              | true =>
                rw [q3, Bool.true_and] at q2
                go_wp2_with fail
                refine (CP.out _ (HE.out.below (qtrans hb1 hbw))).mono ?_
                rintro e w2 ⟨rfl, hb2⟩
                replace hb2 := qtrans hbw hb2
                clear c0 hbw
                go_wp2_with fail
                go_roundw
                case rel => exact ⟨k + 1, N, by omega, by go_num, rfl, by omega, HK2, hb2⟩
                case measure => simp [intOf]; omega
      · have hNe : N = na := by
          rw [HK.out, HNA.out, List.take_of_length_le (by rw [← HN.out]; omega)]
        subst hNe
        have g1 : ((N : Int) == (N : Int)) = true := by simp
        have hbB := qtrans hb1 hbw
        have C2 : Hid (Calls Tryd.prog 17 #[.slice A1 N c1, .string s] wr (StrsPost wr (aboutD s l))) := by
          have := CA.out A1 c1 (aboutD s l) s wr (by rw [← HNA.out]; exact (HAB.out.below hbw).up hbw.size) (by rw [← HNA.out]; omega) (fun q hq => by have := H1.out q (List.mem_filter.1 hq).1; omega) (HE.out.below hbB)
          rw [aboutD_idem, ← HNA.out] at this
          exact this
        go_wp2_with fail
        refine C2.out.mono ?_
        rintro e w2 ⟨v2, rfl, ho2, hb2⟩
        obtain ⟨A2, c2, rfl, _, _, k2'⟩ := own_lies ho2
        have k1'' := (HAB.out.below hbw).below (hb2.mono hbw.size)
        have HE2 := Lib.hid (HE.out.below (qtrans hbB hb2))
        replace hb2 := qtrans hbB hb2
        rw [← HNA.out] at k2' ⊢
        clear ho2 C2
        go_wp2_with fail
        refine (CS.out _ _ _ _ _ (aboutD s l) _ _ _ HNA.out.symm k2' k1'' (by omega)).mono ?_
        rintro e w3 ⟨rfl, hb3⟩
        have HE3 := Lib.hid (HE2.out.below hb3)
        replace hb3 := qtrans hb2 hb3
        clear hb2 k1'' k2' HE2
        go_wp2_with fail
        refine (CW.out _ HE3.out).mono ?_
        rintro e w4 ⟨rfl, hb4⟩
        replace hb4 := qtrans hb3 hb4
        go_wp2_with fail
        go_ret
        exact ⟨rfl, hb4⟩

theorem historyForgets_lifted (os : Os) (started : os.Started) (H : Type) (enc : TypeId × Value → H) :
    ReturnsInHanded {} Tryd.checked os 6 .any (fun w args => (Rows.historyForgetsSpec.pre enc Tryd.prog Tryd.f6 Rows.historyForgetsRow.domain false w args ∧ laidMetH Tryd.prog laidOf w) ∧ sizedMet enc Tryd.prog Tryd.f6 (OpenSpec.ofChange Rows.historyForgetsSpec) false w args)
      (Rows.historyForgetsSpec.post enc Tryd.prog Tryd.f6 false true false false) := by
  refine returns_shaped (C := Tryd.checked) (X := fun w _ => laidMetH Tryd.prog laidOf w) (fun _ _ _ hh h => h.of_heap hh) own started (by kernel_rfl) Tryd.func6
    (ChangeSpec.witness_shaped (enc := enc) (C := Tryd.checked) (os := os) (X := fun w _ => laidMetH Tryd.prog laidOf w) false (World.laidAll Tryd.prog os laidOf) #[.slice none 0 0, .string ⟨#[]⟩] 8 (World.laidAll_os _ _ _)
      (World.shaped_of_ZipB (by kernel_rfl) (by kernel_rfl)) (by kernel_rfl) (by kernel_rfl) (by kernel_rfl)
      (by rw [MakeChecks.laidMetH_plain _ _ _ laidOf_plain]; exact laidMet_laidAll _ (by kernel_rfl) (by kernel_rfl))) ?_
  intro W base args ds gs before hval0 hW hz hL hsh
  have hval : ∀ (j : Nat) t v, Tryd.f6.params[j]? = some t → args[j]? = some v → Value.okWide Tryd.prog W .any base t v := hval0
  have hW' := hW
  obtain ⟨p, q, hA0, hV, rfl, _, _⟩ := hW
  have hA : DataW.TrodAll enc Tryd.prog W 0 (fun _ => true) true Tryd.f6.params.toList args.toList ds p := hA0
  have hpar : Tryd.f6.params = #[26, 9] := by kernel_rfl
  rw [hpar] at hA hval
  obtain ⟨v0, v1, d0, d1, p0, p1, hargs, rfl, rfl, h0, h1⟩ := trodAll_two hA
  obtain rfl : args = #[v0, v1] := by first | exact hargs | (cases args; simp_all)
  obtain ⟨A0, cap0, ss0, rfl, hc0, hm0, hl0, hb0, he0⟩ := open_strs Tryd.underlying26 Tryd.underlying9 (by kernel_rfl) (hval 0 26 v0 rfl rfl) h0
  obtain ⟨x1, rfl, rfl, rfl, w1⟩ := open_string Tryd.underlying9 (hval 1 9 v1 rfl rfl) h1
  refine (historyForgets_calls A0 cap0 ss0 x1 W hl0 hc0 hm0 (fun s hs => (he0 s hs).2) (by simpa [maxLen] using w1) (env_of hL hsh)).mono fun e W' ⟨he, hbl⟩ => ?_
  subst he
  exact ⟨_, rfl, law_post rfl rfl (by kernel_rfl) hW' rfl rfl rfl hbl⟩

theorem historyForgets_row : Rows.HistoryForgetsSaid :=
  OpenClaim.holds_of_wide 6 Tryd.f6 rfl rfl rfl rfl rfl rfl rfl ⟨rfl, rfl, rfl, rfl, rfl⟩ rfl rfl rfl rfl rfl (by kernel_rfl) Tryd.func6 (by kernel_rfl)
    (of_decide_eq_true (by kernel_rfl)) (by unfold Func.isWrapper; first | (rw [if_pos (by decide +kernel)]; kernel_rfl) | (rw [if_neg (by decide +kernel)]; exact ⟨rfl, rfl⟩))
    (fun os started H enc _ => historyForgets_lifted os started H enc)
theorem historyForgets_holds : Rows.HistoryForgetsCardSaid :=
  Claim7.holds_tied_plain_at .later [] [.data, .pinned] true Rows.historyForgetsCard.stood.harness false historyForgets_row (fun _ h => by cases h) (by kernel_rfl) (fun _ h => by cases h) historyForgets_row_tie rfl ⟨rfl, rfl⟩ (by kernel_rfl) rfl
    (fun f fn hf hfn => by
      obtain rfl : f = 6 := Option.some.inj ((show Tryd.prog.funcNamed Rows.historyForgetsRow.func = some 6 by kernel_rfl).symm.trans hf) |>.symm
      obtain rfl : fn = Tryd.f6 := (Option.some.inj (Tryd.func6.symm.trans hfn)).symm
      exact ⟨by kernel_rfl, fun j t ht => by
        have hpar : Tryd.f6.params = #[26, 9] := by kernel_rfl
        rw [hpar] at ht
        have hm : t ∈ [26, 9] := by simpa using Array.mem_of_getElem? ht
        have hall : ([26, 9].all fun u => !Tryd.prog.wantsStandIn u) = true := by kernel_rfl
        exact (show Tryd.prog.wantsStandIn t = false by simpa using List.all_eq_true.1 hall t hm)⟩)
    (by kernel_rfl)
#print axioms historyForgets_holds
end Go.Proofs.YtleflnbcgkfojaaDoor
