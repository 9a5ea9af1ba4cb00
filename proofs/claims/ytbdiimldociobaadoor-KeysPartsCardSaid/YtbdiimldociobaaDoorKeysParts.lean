/- Proved: henkanlaw30.KeysParts returns true for every two strings and every number: a key of a word is under each prefix of its reading, and under no other string of the same length. No condition of ours. -/
import Derived.Test.YtbdiimldociobaaDoorFrame
namespace Go.Proofs.YtbdiimldociobaaDoor
open Go.ChangeShapes Go.WideShapes Go.ChangeAt Go.RowKit Go.Lib Go.Shelf Hk
open Go.ChangeMaps (open_string shut_string)
set_option linter.unusedSimpArgs false
set_option linter.unusedVariables false
set_option maxRecDepth 100000

theorem kmk_two (a b l : List UInt8) (h : kmk 1 a b = some l) : ∃ m, kmk 2 a b = some m := by
  obtain ⟨_, h1, h2, h3, _⟩ := kmk_some h
  exact ⟨_, kmk_yes 2 a b (.inr rfl) h1 h2 h3⟩
theorem kmk_none2 (a b : List UInt8) (h : kmk 1 a b = none) : kmk 2 a b = none := by
  cases h2 : kmk 2 a b with
  | none => rfl
  | some m =>
    obtain ⟨_, h1, h3, h4, _⟩ := kmk_some h2
    rw [kmk_yes 1 a b (.inl rfl) h1 h3 h4] at h
    cases h
theorem under_word {l a b : List UInt8} (h : kmk 1 a b = some l) (q : List UInt8) : kunder l q = Lib.hasPrefix a q := by
  unfold kunder
  rw [(kparse_iff _ _ _ _).2 h]
  simp
theorem under_pair {l a b : List UInt8} (h : kmk 2 a b = some l) (q : List UInt8) : kunder l q = false := by
  unfold kunder
  rw [(kparse_iff _ _ _ _).2 h]
  simp
theorem prefix_take (a : List UInt8) (m : Nat) : Lib.hasPrefix a (a.take m) = true := List.isPrefixOf_iff_prefix.2 (List.take_prefix m a)
theorem prefix_ff (a p : List UInt8) (h : (255 : UInt8) ∉ a) : Lib.hasPrefix a (p ++ [255]) = false := by
  rw [Bool.eq_false_iff]
  intro hp
  exact h ((List.isPrefixOf_iff_prefix.1 hp).mem (by simp))
theorem prefix_longer (a : List UInt8) (c : UInt8) : Lib.hasPrefix a (a ++ [c]) = false := begins_long _ _ (by simp)

theorem extract_le (a : ByteArray) (i j : Nat) : (a.extract i j).size ≤ a.size := by
  have h1 : (a.extract i j).size = (a.extract i j).data.toList.length := by rw [Array.length_toList]; rfl
  have h2 : a.size = a.data.toList.length := by simp
  rw [h1, extract_list, h2]
  simp only [List.length_drop, List.length_take]
  omega

set_option maxHeartbeats 4000000 in
theorem keysParts_calls (a b : ByteArray) (n : Int) (w : World) (ha : a.size ≤ 9223372036854775807) (hb : b.size ≤ 9223372036854775807) (wk : (Lit.int .i64 n).wf = true) (he : Env w) :
    Calls Tryd.prog 9 #[.string a, .string b, .int .i64 n] w fun e w' => e = .returned (.bool true) ∧ Below w.heap.size w w' := by
  clear wk
  have HE := Lib.hid he
  clear he
  by_cases h1 : 1000 < a.size
  · go_enter Tryd.func9, Tryd.ntmps9
    go_wp2_with fail
    go_ret
    exact ⟨rfl, Below.refl _ _⟩
  by_cases h2 : 1000 < b.size
  · go_enter Tryd.func9, Tryd.ntmps9
    go_wp2_with fail
    go_ret
    exact ⟨rfl, Below.refl _ _⟩
  have C1 := Lib.hid (make_calls 1 a b w (by omega) (by omega) HE.out)
  have C2 := Lib.hid fun W (hW : Env W) => make_calls 2 a b W (by omega) (by omega) hW
  have CW := Lib.hid works_calls
  cases hm : kmk 1 a.data.toList b.data.toList with
  | none =>
    rw [MakePost_none hm] at C1
    simp only [MakePost_none (kmk_none2 _ _ hm)] at C2
    clear hm
    go_enter Tryd.func9, Tryd.ntmps9
    go_wp2_with fail
    refine C1.out.mono ?_
    rintro e w1 ⟨rfl, hb1⟩
    go_wp2_with fail
    refine (C2.out _ (HE.out.below hb1)).mono ?_
    rintro e w2 ⟨rfl, hb2⟩
    replace hb2 := qtrans hb1 hb2
    clear hb1
    go_wp2_with fail
    refine (CW.out _ (HE.out.below hb2)).mono ?_
    rintro e w3 ⟨rfl, hb3⟩
    replace hb3 := qtrans hb2 hb3
    clear hb2
    go_wp2_with fail
    go_ret
    exact ⟨rfl, hb3⟩
  | some l =>
    obtain ⟨l2, hm2⟩ := kmk_two _ _ _ hm
    rw [MakePost_some hm] at C1
    simp only [MakePost_some hm2] at C2
    obtain ⟨_, hpa, _, hlen, hsh⟩ := kmk_some hm
    obtain ⟨_, _, _, _, hsh2⟩ := kmk_some hm2
    obtain ⟨K, hK⟩ : ∃ K : ByteArray, K = ⟨l.toArray⟩ := ⟨_, rfl⟩
    obtain ⟨P, hP⟩ : ∃ P : ByteArray, P = ⟨l2.toArray⟩ := ⟨_, rfl⟩
    have hKl : K.data.toList = l := by rw [hK]
    have hPl : P.data.toList = l2 := by rw [hP]
    have hKs : K.size ≤ 400 := by rw [show K.size = K.data.toList.length by simp, hKl, hsh]; simp only [List.length_cons, List.length_append]; omega
    have hPs : P.size ≤ 400 := by rw [show P.size = P.data.toList.length by simp, hPl, hsh2]; simp only [List.length_cons, List.length_append]; omega
    rw [← hK] at C1
    rw [← hP] at C2
    have cU := fun q W (hW : Env W) => under_calls K q W (by omega) hW
    have cV := fun q W (hW : Env W) => under_calls P q W (by omega) hW
    simp only [hKl, under_word hm] at cU
    simp only [hPl, under_pair hm2] at cV
    have hff := valid_no_ff (kpart_valid hpa)
    clear hK hP hKl hPl hm hm2 hsh hsh2 hlen hpa
    by_cases hn : 0 ≤ n ∧ n ≤ a.size
    · obtain ⟨m, rfl⟩ : ∃ m : Nat, n = m := ⟨n.toNat, by omega⟩
      have hma : m ≤ a.size := by omega
      have c3 := cU (a.extract 0 m)
      have c4 := cU (a.extract 0 m ++ ⟨#[255]⟩)
      have c5 := cV (a.extract 0 m)
      have c6 := cU (a ++ ⟨#[120]⟩)
      have c7 := fun W => begins_calls a (a.extract 0 m) W (by omega) (by have := extract_le a 0 m; omega)
      have el : (a.extract 0 m).data.toList = a.data.toList.take m := by rw [extract_list]; simp
      have e255 : (⟨#[255]⟩ : ByteArray).data.toList = [255] := rfl
      have e120 : (⟨#[120]⟩ : ByteArray).data.toList = [120] := rfl
      simp only [el, prefix_take] at c3 c7
      simp only [Go.Joins.data_append, el, e255, prefix_ff _ _ hff] at c4
      simp only [Go.Joins.data_append, e120, prefix_longer] at c6
      have C3 := Lib.hid c3
      have C4 := Lib.hid c4
      have C5 := Lib.hid c5
      have C6 := Lib.hid c6
      have C7 := Lib.hid fun W => (c7 W).mono fun e w' h => show e = .returned (.bool true) ∧ Below W.heap.size W w' from ⟨h.1, h.2 ▸ Below.refl _ _⟩
      clear c3 c4 c5 c6 c7 cU cV el e255 e120 hff hn
      have z1 : ∀ c : UInt8, (⟨#[c]⟩ : ByteArray).size = 1 := fun _ => rfl
      have z2 : (a.extract 0 m).size ≤ 1000 := by have := extract_le a 0 m; omega
      go_enter Tryd.func9, Tryd.ntmps9
      go_wp2_with fail
      refine C1.out.mono ?_
      rintro e w1 ⟨rfl, hb1⟩
      go_wp2_with fail
      refine (C2.out _ (HE.out.below hb1)).mono ?_
      rintro e w2 ⟨rfl, hb2⟩
      replace hb2 := qtrans hb1 hb2
      clear hb1
      go_wp2_with fail
      refine (C3.out _ (HE.out.below hb2)).mono ?_
      rintro e w3 ⟨rfl, hb3⟩
      replace hb3 := qtrans hb2 hb3
      clear hb2
      go_wp2_with fail
      refine (C4.out _ (HE.out.below hb3)).mono ?_
      rintro e w4 ⟨rfl, hb4⟩
      replace hb4 := qtrans hb3 hb4
      clear hb3
      go_wp2_with fail
      refine (C5.out _ (HE.out.below hb4)).mono ?_
      rintro e w5 ⟨rfl, hb5⟩
      replace hb5 := qtrans hb4 hb5
      clear hb4
      go_wp2_with fail
      refine (C6.out _ (HE.out.below hb5)).mono ?_
      rintro e w6 ⟨rfl, hb6⟩
      replace hb6 := qtrans hb5 hb6
      clear hb5
      go_wp2_with fail
      refine (C7.out _).mono ?_
      rintro e w7 ⟨rfl, hb7⟩
      replace hb7 := qtrans hb6 hb7
      clear hb6
      go_wp2_with fail
      refine (CW.out _ (HE.out.below hb7)).mono ?_
      rintro e w8 ⟨rfl, hb8⟩
      replace hb8 := qtrans hb7 hb8
      clear hb7
      go_wp2_with fail
      go_ret
      exact ⟨rfl, hb8⟩
    · by_cases hn0 : n < 0
      · go_enter Tryd.func9, Tryd.ntmps9
        go_wp2_with fail
        refine C1.out.mono ?_
        rintro e w1 ⟨rfl, hb1⟩
        go_wp2_with fail
        refine (C2.out _ (HE.out.below hb1)).mono ?_
        rintro e w2 ⟨rfl, hb2⟩
        replace hb2 := qtrans hb1 hb2
        clear hb1
        go_wp2_with fail
        refine (CW.out _ (HE.out.below hb2)).mono ?_
        rintro e w3 ⟨rfl, hb3⟩
        replace hb3 := qtrans hb2 hb3
        clear hb2
        go_wp2_with fail
        go_ret
        exact ⟨rfl, hb3⟩
      · have hn1 : (a.size : Int) < n := by omega
        go_enter Tryd.func9, Tryd.ntmps9
        go_wp2_with fail
        refine C1.out.mono ?_
        rintro e w1 ⟨rfl, hb1⟩
        go_wp2_with fail
        refine (C2.out _ (HE.out.below hb1)).mono ?_
        rintro e w2 ⟨rfl, hb2⟩
        replace hb2 := qtrans hb1 hb2
        clear hb1
        go_wp2_with fail
        refine (CW.out _ (HE.out.below hb2)).mono ?_
        rintro e w3 ⟨rfl, hb3⟩
        replace hb3 := qtrans hb2 hb3
        clear hb2
        go_wp2_with fail
        go_ret
        exact ⟨rfl, hb3⟩

theorem keysParts_lifted (os : Os) (started : os.Started) (H : Type) (enc : TypeId × Value → H) :
    ReturnsInHanded {} Tryd.checked os 9 .any (fun w args => (Rows.keysPartsSpec.pre enc Tryd.prog Tryd.f9 Rows.keysPartsRow.domain false w args ∧ laidMetH Tryd.prog laidOf w) ∧ sizedMet enc Tryd.prog Tryd.f9 (OpenSpec.ofChange Rows.keysPartsSpec) false w args)
      (Rows.keysPartsSpec.post enc Tryd.prog Tryd.f9 false true false false) := by
  refine returns_shaped (C := Tryd.checked) (X := fun w _ => laidMetH Tryd.prog laidOf w) (fun _ _ _ hh h => h.of_heap hh) own started (by kernel_rfl) Tryd.func9
    (ChangeSpec.witness_shaped (enc := enc) (C := Tryd.checked) (os := os) (X := fun w _ => laidMetH Tryd.prog laidOf w) false (World.laidAll Tryd.prog os laidOf) #[.string ⟨#[]⟩, .string ⟨#[]⟩, .int .i64 0] 8 (World.laidAll_os _ _ _)
      (World.shaped_of_ZipB (by kernel_rfl) (by kernel_rfl)) (by kernel_rfl) (by kernel_rfl) (by kernel_rfl)
      (by rw [MakeChecks.laidMetH_plain _ _ _ laidOf_plain]; exact laidMet_laidAll _ (by kernel_rfl) (by kernel_rfl))) ?_
  intro W base args ds gs before hval0 hW _ hL hsh
  have hval : ∀ (j : Nat) t v, Tryd.f9.params[j]? = some t → args[j]? = some v → Value.okWide Tryd.prog W .any base t v := hval0
  have hW' := hW
  obtain ⟨p, q, hA0, hV, rfl, _, _⟩ := hW
  have hA : DataW.TrodAll enc Tryd.prog W 0 (fun _ => true) true Tryd.f9.params.toList args.toList ds p := hA0
  have hpar : Tryd.f9.params = #[9, 9, 3] := by kernel_rfl
  rw [hpar] at hA hval
  obtain ⟨v0, v1, v2, d0, d1, d2, p0, p1, p2, hargs, rfl, rfl, h0, h1, h2⟩ := trodAll_three hA
  obtain rfl : args = #[v0, v1, v2] := by first | exact hargs | (cases args; simp_all)
  obtain ⟨x0, rfl, rfl, rfl, w0⟩ := open_string Tryd.underlying9 (hval 0 9 v0 rfl rfl) h0
  obtain ⟨x1, rfl, rfl, rfl, w1⟩ := open_string Tryd.underlying9 (hval 1 9 v1 rfl rfl) h1
  obtain ⟨x2, rfl, rfl, rfl, w2⟩ := open_int Tryd.underlying3 (hval 2 3 v2 rfl rfl) h2
  refine (keysParts_calls x0 x1 x2 W (by simpa [maxLen] using w0) (by simpa [maxLen] using w1) w2 (env_of hL hsh)).mono fun e W' ⟨he, hbl⟩ => ?_
  subst he
  exact ⟨_, rfl, law_post rfl rfl (by kernel_rfl) hW' rfl rfl rfl hbl⟩

theorem keysParts_row : Rows.KeysPartsSaid :=
  OpenClaim.holds_of_wide 9 Tryd.f9 rfl rfl rfl rfl rfl rfl rfl ⟨rfl, rfl, rfl, rfl, rfl⟩ rfl rfl rfl rfl rfl (by kernel_rfl) Tryd.func9 (by kernel_rfl)
    (of_decide_eq_true (by kernel_rfl)) (by unfold Func.isWrapper; first | (rw [if_pos (by decide +kernel)]; kernel_rfl) | (rw [if_neg (by decide +kernel)]; exact ⟨rfl, rfl⟩))
    (fun os started H enc _ => keysParts_lifted os started H enc)
theorem keysParts_holds : Rows.KeysPartsCardSaid :=
  Claim7.holds_tied_plain_at .later [] [.data, .pinned] true Rows.keysPartsCard.stood.harness false keysParts_row (fun _ h => by cases h) (by kernel_rfl) (fun _ h => by cases h) keysParts_row_tie rfl ⟨rfl, rfl⟩ (by kernel_rfl) rfl
    (fun f fn hf hfn => by
      obtain rfl : f = 9 := Option.some.inj ((show Tryd.prog.funcNamed Rows.keysPartsRow.func = some 9 by kernel_rfl).symm.trans hf) |>.symm
      obtain rfl : fn = Tryd.f9 := (Option.some.inj (Tryd.func9.symm.trans hfn)).symm
      exact ⟨by kernel_rfl, fun j t ht => by
        have hpar : Tryd.f9.params = #[9, 9, 3] := by kernel_rfl
        rw [hpar] at ht
        have hm : t ∈ [9, 9, 3] := by simpa using Array.mem_of_getElem? ht
        have hall : ([9, 9, 3].all fun u => !Tryd.prog.wantsStandIn u) = true := by kernel_rfl
        exact (show Tryd.prog.wantsStandIn t = false by simpa using List.all_eq_true.1 hall t hm)⟩)
    (by kernel_rfl)
#print axioms keysParts_holds
end Go.Proofs.YtbdiimldociobaaDoor
