/- Proved: henkanlaw30.KeysBack returns true for every kind and every two strings: a key has the kind and the strings of which it was made, and a string that is a key is made of its parts again. No condition of ours. -/
import Derived.Test.YtbdiimldociobaaDoorFrame
namespace Go.Proofs.YtbdiimldociobaaDoor
open Go.ChangeShapes Go.WideShapes Go.ChangeAt Go.RowKit Go.Lib Go.Shelf Hk
open Go.ChangeMaps (open_string shut_string)
set_option linter.unusedSimpArgs false
set_option linter.unusedVariables false
set_option maxRecDepth 100000

theorem mk_back (s : ByteArray) : (⟨s.data.toList.toArray⟩ : ByteArray) = s := by simp

set_option maxHeartbeats 4000000 in
theorem keysBack_calls (k : Int) (a b : ByteArray) (w : World) (wk : (Lit.int .i64 k).wf = true) (ha : a.size ≤ 9223372036854775807) (hb : b.size ≤ 9223372036854775807) (he : Env w) :
    Calls Tryd.prog 6 #[.int .i64 k, .string a, .string b] w fun e w' => e = .returned (.bool true) ∧ Below w.heap.size w w' := by
  clear wk
  have HE := Lib.hid he
  clear he
  by_cases h1 : 1000 < a.size
  · go_enter Tryd.func6, Tryd.ntmps6
    go_wp2_with fail
    go_ret
    exact ⟨rfl, Below.refl _ _⟩
  by_cases h2 : 1000 < b.size
  · go_enter Tryd.func6, Tryd.ntmps6
    go_wp2_with fail
    go_ret
    exact ⟨rfl, Below.refl _ _⟩
  have C1 := Lib.hid (make_calls k a b w (by omega) (by omega) HE.out)
  have CP := Lib.hid fun W (hW : Env W) => parse_calls a W (by omega) hW
  have CW := Lib.hid works_calls
  have hkk : (k != k) = false := by simp
  have hAA : (a.toList == a.toList) = true := by simp
  have hBB : (b.toList == b.toList) = true := by simp
  cases hm : kmk k a.data.toList b.data.toList with
  | none =>
    rw [MakePost_none hm] at C1
    clear hm
    cases hp : kparse a.data.toList with
    | none =>
      simp only [ParsePost_none hp] at CP
      clear hp
      go_enter Tryd.func6, Tryd.ntmps6
      go_wp2_with fail
      refine C1.out.mono ?_
      rintro e w1 ⟨rfl, hb1⟩
      go_wp2_with fail
      refine (CP.out _ (HE.out.below hb1)).mono ?_
      rintro e w2 ⟨rfl, hb2⟩
      replace hb2 := qtrans hb1 hb2
      clear hb1
      go_wp2_with fail
      refine (CW.out _ (HE.out.below hb2)).mono ?_
      rintro e w3 ⟨rfl, hb3⟩
      replace hb3 := qtrans hb2 hb3
      clear hb2
      go_wp2_with fail
      go_ret
      exact ⟨rfl, hb3⟩
    | some x =>
      obtain ⟨n, c, d⟩ := x
      have hq := (kparse_iff _ _ _ _).1 hp
      simp only [ParsePost_some hp] at CP
      obtain ⟨c', hc'⟩ : ∃ c' : ByteArray, c' = ⟨c.toArray⟩ := ⟨_, rfl⟩
      obtain ⟨d', hd'⟩ : ∃ d' : ByteArray, d' = ⟨d.toArray⟩ := ⟨_, rfl⟩
      have el : c'.size + d'.size ≤ 398 := by
        have := (kmk_some hq).2.2.2.1
        rw [hc', hd']
        show c.toArray.size + d.toArray.size ≤ 398
        simpa using this
      have c7 := fun W (hW : Env W) => make_calls n c' d' W (by omega) (by omega) hW
      have hq' : kmk n c'.data.toList d'.data.toList = some a.data.toList := by rw [hc', hd']; exact hq
      simp only [MakePost_some hq', mk_back] at c7
      have C7 := Lib.hid c7
      rw [← hc', ← hd'] at CP
      clear hc' hd' c7 hq' el
      clear hp hq
      go_enter Tryd.func6, Tryd.ntmps6
      go_wp2_with fail
      refine C1.out.mono ?_
      rintro e w1 ⟨rfl, hb1⟩
      go_wp2_with fail
      refine (CP.out _ (HE.out.below hb1)).mono ?_
      rintro e w2 ⟨rfl, hb2⟩
      replace hb2 := qtrans hb1 hb2
      clear hb1
      go_wp2_with fail
      refine (C7.out _ (HE.out.below hb2)).mono ?_
      rintro e w3 ⟨rfl, hb3⟩
      replace hb3 := qtrans hb2 hb3
      clear hb2
      go_wp2_with fail
      refine (CW.out _ (HE.out.below hb3)).mono ?_
      rintro e w4 ⟨rfl, hb4⟩
      replace hb4 := qtrans hb3 hb4
      clear hb3
      go_wp2_with fail
      go_ret
      exact ⟨rfl, hb4⟩
  | some l =>
    rw [MakePost_some hm] at C1
    have hl := (kparse_iff _ _ _ _).2 hm
    obtain ⟨_, _, _, hlen, hshape⟩ := kmk_some hm
    obtain ⟨S, hS⟩ : ∃ S : ByteArray, S = ⟨l.toArray⟩ := ⟨_, rfl⟩
    have hSl : S.data.toList = l := by rw [hS]
    have hSs : S.size ≤ 400 := by
      rw [show S.size = S.data.toList.length by simp, hSl, hshape]; simp only [List.length_cons, List.length_append]; omega
    have hS0 : ¬ S.toList = [] := by rw [ByteArray.toList_eq, hSl, hshape]; simp
    have hS1 : S.toList.isEmpty = false := by rw [ByteArray.toList_eq, hSl, hshape]; rfl
    have c5 := fun W (hW : Env W) => parse_calls S W (by omega) hW
    rw [← hSl] at hl
    simp only [ParsePost_some hl, mk_back] at c5
    have C5 := Lib.hid c5
    have c6 := fun W (hW : Env W) => valid_calls S W (by omega) hW
    simp only [hl, Option.isSome_some] at c6
    have C6 := Lib.hid c6
    rw [← hS] at C1
    clear hm hl hshape hS hSl c5 c6 hlen
    cases hp : kparse a.data.toList with
    | none =>
      simp only [ParsePost_none hp] at CP
      clear hp
      go_enter Tryd.func6, Tryd.ntmps6
      go_wp2_with fail
      refine C1.out.mono ?_
      rintro e w1 ⟨rfl, hb1⟩
      go_wp2_with fail
      refine (C5.out _ (HE.out.below hb1)).mono ?_
      rintro e w2 ⟨rfl, hb2⟩
      replace hb2 := qtrans hb1 hb2
      clear hb1
      go_wp2_with fail
      refine (C6.out _ (HE.out.below hb2)).mono ?_
      rintro e w3 ⟨rfl, hb3⟩
      replace hb3 := qtrans hb2 hb3
      clear hb2
      go_wp2_with fail
      refine (CP.out _ (HE.out.below hb3)).mono ?_
      rintro e w4 ⟨rfl, hb4⟩
      replace hb4 := qtrans hb3 hb4
      clear hb3
      go_wp2_with fail
      refine (CW.out _ (HE.out.below hb4)).mono ?_
      rintro e w5 ⟨rfl, hb5⟩
      replace hb5 := qtrans hb4 hb5
      clear hb4
      go_wp2_with fail
      go_ret
      exact ⟨rfl, hb5⟩
    | some x =>
      obtain ⟨n, c, d⟩ := x
      have hq := (kparse_iff _ _ _ _).1 hp
      simp only [ParsePost_some hp] at CP
      obtain ⟨c', hc'⟩ : ∃ c' : ByteArray, c' = ⟨c.toArray⟩ := ⟨_, rfl⟩
      obtain ⟨d', hd'⟩ : ∃ d' : ByteArray, d' = ⟨d.toArray⟩ := ⟨_, rfl⟩
      have el : c'.size + d'.size ≤ 398 := by
        have := (kmk_some hq).2.2.2.1
        rw [hc', hd']
        show c.toArray.size + d.toArray.size ≤ 398
        simpa using this
      have c7 := fun W (hW : Env W) => make_calls n c' d' W (by omega) (by omega) hW
      have hq' : kmk n c'.data.toList d'.data.toList = some a.data.toList := by rw [hc', hd']; exact hq
      simp only [MakePost_some hq', mk_back] at c7
      have C7 := Lib.hid c7
      rw [← hc', ← hd'] at CP
      clear hc' hd' c7 hq' el
      clear hp hq
      go_enter Tryd.func6, Tryd.ntmps6
      go_wp2_with fail
      refine C1.out.mono ?_
      rintro e w1 ⟨rfl, hb1⟩
      go_wp2_with fail
      refine (C5.out _ (HE.out.below hb1)).mono ?_
      rintro e w2 ⟨rfl, hb2⟩
      replace hb2 := qtrans hb1 hb2
      clear hb1
      go_wp2_with fail
      refine (C6.out _ (HE.out.below hb2)).mono ?_
      rintro e w3 ⟨rfl, hb3⟩
      replace hb3 := qtrans hb2 hb3
      clear hb2
      go_wp2_with fail
      refine (CP.out _ (HE.out.below hb3)).mono ?_
      rintro e w4 ⟨rfl, hb4⟩
      replace hb4 := qtrans hb3 hb4
      clear hb3
      go_wp2_with fail
      refine (C7.out _ (HE.out.below hb4)).mono ?_
      rintro e w5 ⟨rfl, hb5⟩
      replace hb5 := qtrans hb4 hb5
      clear hb4
      go_wp2_with fail
      refine (CW.out _ (HE.out.below hb5)).mono ?_
      rintro e w6 ⟨rfl, hb6⟩
      replace hb6 := qtrans hb5 hb6
      clear hb5
      go_wp2_with fail
      go_ret
      exact ⟨rfl, hb6⟩

theorem keysBack_lifted (os : Os) (started : os.Started) (H : Type) (enc : TypeId × Value → H) :
    ReturnsInHanded {} Tryd.checked os 6 .any (fun w args => (Rows.keysBackSpec.pre enc Tryd.prog Tryd.f6 Rows.keysBackRow.domain false w args ∧ laidMetH Tryd.prog laidOf w) ∧ sizedMet enc Tryd.prog Tryd.f6 (OpenSpec.ofChange Rows.keysBackSpec) false w args)
      (Rows.keysBackSpec.post enc Tryd.prog Tryd.f6 false true false false) := by
  refine returns_shaped (C := Tryd.checked) (X := fun w _ => laidMetH Tryd.prog laidOf w) (fun _ _ _ hh h => h.of_heap hh) own started (by kernel_rfl) Tryd.func6
    (ChangeSpec.witness_shaped (enc := enc) (C := Tryd.checked) (os := os) (X := fun w _ => laidMetH Tryd.prog laidOf w) false (World.laidAll Tryd.prog os laidOf) #[.int .i64 0, .string ⟨#[]⟩, .string ⟨#[]⟩] 8 (World.laidAll_os _ _ _)
      (World.shaped_of_ZipB (by kernel_rfl) (by kernel_rfl)) (by kernel_rfl) (by kernel_rfl) (by kernel_rfl)
      (by rw [MakeChecks.laidMetH_plain _ _ _ laidOf_plain]; exact laidMet_laidAll _ (by kernel_rfl) (by kernel_rfl))) ?_
  intro W base args ds gs before hval0 hW _ hL hsh
  have hval : ∀ (j : Nat) t v, Tryd.f6.params[j]? = some t → args[j]? = some v → Value.okWide Tryd.prog W .any base t v := hval0
  have hW' := hW
  obtain ⟨p, q, hA0, hV, rfl, _, _⟩ := hW
  have hA : DataW.TrodAll enc Tryd.prog W 0 (fun _ => true) true Tryd.f6.params.toList args.toList ds p := hA0
  have hpar : Tryd.f6.params = #[3, 9, 9] := by kernel_rfl
  rw [hpar] at hA hval
  obtain ⟨v0, v1, v2, d0, d1, d2, p0, p1, p2, hargs, rfl, rfl, h0, h1, h2⟩ := trodAll_three hA
  obtain rfl : args = #[v0, v1, v2] := by first | exact hargs | (cases args; simp_all)
  obtain ⟨x0, rfl, rfl, rfl, w0⟩ := open_int Tryd.underlying3 (hval 0 3 v0 rfl rfl) h0
  obtain ⟨x1, rfl, rfl, rfl, w1⟩ := open_string Tryd.underlying9 (hval 1 9 v1 rfl rfl) h1
  obtain ⟨x2, rfl, rfl, rfl, w2⟩ := open_string Tryd.underlying9 (hval 2 9 v2 rfl rfl) h2
  refine (keysBack_calls x0 x1 x2 W w0 (by simpa [maxLen] using w1) (by simpa [maxLen] using w2) (env_of hL hsh)).mono fun e W' ⟨he, hbl⟩ => ?_
  subst he
  exact ⟨_, rfl, law_post rfl rfl (by kernel_rfl) hW' rfl rfl rfl hbl⟩

theorem keysBack_row : Rows.KeysBackSaid :=
  OpenClaim.holds_of_wide 6 Tryd.f6 rfl rfl rfl rfl rfl rfl rfl ⟨rfl, rfl, rfl, rfl, rfl⟩ rfl rfl rfl rfl rfl (by kernel_rfl) Tryd.func6 (by kernel_rfl)
    (of_decide_eq_true (by kernel_rfl)) (by unfold Func.isWrapper; first | (rw [if_pos (by decide +kernel)]; kernel_rfl) | (rw [if_neg (by decide +kernel)]; exact ⟨rfl, rfl⟩))
    (fun os started H enc _ => keysBack_lifted os started H enc)
theorem keysBack_holds : Rows.KeysBackCardSaid :=
  Claim7.holds_tied_plain_at .later [] [.data, .pinned] true Rows.keysBackCard.stood.harness false keysBack_row (fun _ h => by cases h) (by kernel_rfl) (fun _ h => by cases h) keysBack_row_tie rfl ⟨rfl, rfl⟩ (by kernel_rfl) rfl
    (fun f fn hf hfn => by
      obtain rfl : f = 6 := Option.some.inj ((show Tryd.prog.funcNamed Rows.keysBackRow.func = some 6 by kernel_rfl).symm.trans hf) |>.symm
      obtain rfl : fn = Tryd.f6 := (Option.some.inj (Tryd.func6.symm.trans hfn)).symm
      exact ⟨by kernel_rfl, fun j t ht => by
        have hpar : Tryd.f6.params = #[3, 9, 9] := by kernel_rfl
        rw [hpar] at ht
        have hm : t ∈ [3, 9, 9] := by simpa using Array.mem_of_getElem? ht
        have hall : ([3, 9, 9].all fun u => !Tryd.prog.wantsStandIn u) = true := by kernel_rfl
        exact (show Tryd.prog.wantsStandIn t = false by simpa using List.all_eq_true.1 hall t hm)⟩)
    (by kernel_rfl)
#print axioms keysBack_holds
end Go.Proofs.YtbdiimldociobaaDoor
