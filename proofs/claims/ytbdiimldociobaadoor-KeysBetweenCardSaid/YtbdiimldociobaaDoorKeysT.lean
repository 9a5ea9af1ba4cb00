/- What henkanref30.Begins, henkanref30.Under and the examples of henkanlaw30 compute. -/
import Derived.Test.YtbdiimldociobaaDoorKeysS
import Derived.Test.YtbdiimldociobaaDoorKeysV
namespace Go.Proofs.YtbdiimldociobaaDoor
open Go.RowKit Go.Lib Go.Shelf Hk
set_option linter.unusedSimpArgs false
set_option linter.unusedVariables false
set_option maxRecDepth 100000

theorem begins_eq (a q : List UInt8) (h : q.length ≤ a.length) : (a.take q.length == q) = Lib.hasPrefix a q := by
  unfold Lib.hasPrefix
  rw [Bool.eq_iff_iff, beq_iff_eq, List.isPrefixOf_iff_prefix, List.prefix_iff_eq_take]
  exact ⟨fun e => e.symm, fun e => e.symm⟩
theorem begins_long (a q : List UInt8) (h : a.length < q.length) : Lib.hasPrefix a q = false := by
  unfold Lib.hasPrefix
  rw [Bool.eq_false_iff]
  intro hp
  have := (List.isPrefixOf_iff_prefix.1 hp).length_le
  omega

set_option maxHeartbeats 400000 in
theorem begins_calls (a q : ByteArray) (w : World) (ha : a.size ≤ 4611686018427387904) (hq : q.size ≤ 4611686018427387904) : Calls Tryd.prog 20 #[.string a, .string q] w fun e w' => e = .returned (.bool (Lib.hasPrefix a.data.toList q.data.toList)) ∧ w = w' := by
  by_cases h : q.size ≤ a.size
  · have HH : Hid (((a.extract 0 q.size).toList == q.toList) = Lib.hasPrefix a.data.toList q.data.toList) := by
      show _ = _
      rw [ByteArray.toList_eq, ByteArray.toList_eq, extract_list, ← begins_eq _ _ (by simpa using h)]
      simp
    go_enter Tryd.func20, Tryd.ntmps20
    go_wp2
    go_ret
    exact ⟨by rw [← HH.out]; rfl, rfl⟩
  · have HH := Lib.hid (begins_long a.data.toList q.data.toList (by simpa using h))
    go_enter Tryd.func20, Tryd.ntmps20
    go_wp2
    go_ret
    exact ⟨by rw [HH.out]; rfl, rfl⟩

set_option maxHeartbeats 1000000 in
theorem refUnder_calls (s q : ByteArray) (w : World) (hs : s.size ≤ 35184372088830) (hq : q.size ≤ 35184372088830) : Calls Tryd.prog 18 #[.string s, .string q] w fun e w' => e = .returned (.bool (kunder s.data.toList q.data.toList)) ∧ Below w.heap.size w w' := by
  have CP := Lib.hid (refParse_calls s w hs)
  cases hp : kparse s.data.toList with
  | none =>
    have HU : Hid (kunder s.data.toList q.data.toList = false) := by show _ = _; unfold kunder; rw [hp]
    rw [ParsePost_none hp] at CP
    clear hp
    go_enter Tryd.func18, Tryd.ntmps18
    go_wp2_with fail
    refine CP.out.mono ?_
    rintro e w1 ⟨rfl, hb1⟩
    go_wp2_with fail
    go_ret
    exact ⟨by rw [HU.out]; rfl, hb1⟩
  | some x =>
    obtain ⟨k, a, b⟩ := x
    have HU : Hid (kunder s.data.toList q.data.toList = ((k == 1) && Lib.hasPrefix a q.data.toList)) := by show _ = _; unfold kunder; rw [hp]
    have hal : a.length ≤ 35184372088830 := by
      have h2 := congrArg List.length (kparse_shape hp).1
      have h3 : s.size = s.data.toList.length := by simp
      simp at h2
      omega
    rw [ParsePost_some hp] at CP
    have CH := Lib.hid fun W => begins_calls ⟨a.toArray⟩ q W (by show a.toArray.size ≤ _; simp; omega) (by omega)
    clear hp
    by_cases hk : k = 1
    · subst hk
      go_enter Tryd.func18, Tryd.ntmps18
      go_wp2_with fail
      refine CP.out.mono ?_
      rintro e w1 ⟨rfl, hb1⟩
      go_wp2_with fail
      refine (CH.out _).mono ?_
      rintro e w2 ⟨rfl, rfl⟩
      go_wp2_with fail
      go_ret
      exact ⟨by rw [HU.out]; rfl, hb1⟩
    · have h1 : (k == 1) = false := by simpa using hk
      rw [h1] at HU
      go_enter Tryd.func18, Tryd.ntmps18
      go_wp2_with fail
      refine CP.out.mono ?_
      rintro e w1 ⟨rfl, hb1⟩
      go_wp2_with fail
      go_ret
      exact ⟨by rw [HU.out]; rfl, hb1⟩

theorem wk1 : kmk 1 [227, 129, 139, 227, 129, 170] [228, 187, 174, 229, 144, 141] = some [49, 227, 129, 139, 227, 129, 170, 0, 228, 187, 174, 229, 144, 141] := by decide +kernel
theorem wk2 : kparse [50, 97, 0, 98] = some (2, [97], [98]) := by decide +kernel
theorem wk3 : (kparse [49, 227, 129, 139, 227, 129, 170, 0, 228, 187, 174, 229, 144, 141]).isSome = true := by decide +kernel
theorem wk4 : kunder [49, 227, 129, 139, 227, 129, 170, 0, 228, 187, 174, 229, 144, 141] [227, 129, 139] = true := by decide +kernel
theorem wk5 : kunder [49, 227, 129, 139, 227, 129, 170, 0, 228, 187, 174, 229, 144, 141] [227, 129, 139, 227, 129, 170, 227, 130, 138] = false := by decide +kernel

set_option maxHeartbeats 1000000 in
theorem works_calls (w : World) (he : Env w) : Calls Tryd.prog 13 #[] w fun e w' => e = .returned (.bool true) ∧ Below w.heap.size w w' := by
  have c1 := make_calls 1 ⟨#[227, 129, 139, 227, 129, 170]⟩ ⟨#[228, 187, 174, 229, 144, 141]⟩ w (by decide) (by decide) he
  rw [MakePost_some wk1] at c1
  have C1 := Lib.hid c1
  have c2 := fun W (hW : Env W) => parse_calls ⟨#[50, 97, 0, 98]⟩ W (by decide) hW
  simp only [ParsePost_some (s := ⟨#[50, 97, 0, 98]⟩) wk2] at c2
  have C2 := Lib.hid c2
  have c3 := fun W (hW : Env W) => valid_calls ⟨#[49, 227, 129, 139, 227, 129, 170, 0, 228, 187, 174, 229, 144, 141]⟩ W (by decide) hW
  simp only [wk3] at c3
  have C3 := Lib.hid c3
  have c4 := fun W (hW : Env W) => under_calls ⟨#[49, 227, 129, 139, 227, 129, 170, 0, 228, 187, 174, 229, 144, 141]⟩ ⟨#[227, 129, 139]⟩ W (by decide) hW
  simp only [wk4] at c4
  have C4 := Lib.hid c4
  have c5 := fun W (hW : Env W) => under_calls ⟨#[49, 227, 129, 139, 227, 129, 170, 0, 228, 187, 174, 229, 144, 141]⟩ ⟨#[227, 129, 139, 227, 129, 170, 227, 130, 138]⟩ W (by decide) hW
  simp only [wk5] at c5
  have C5 := Lib.hid c5
  have HE := Lib.hid he
  clear c1 c2 c3 c4 c5 he
  go_enter Tryd.func13, Tryd.ntmps13
  go_wp2_with fail
  refine C1.out.mono ?_
  rintro e w1 ⟨rfl, hb1⟩
  go_wp2_with fail
  refine (C2.out _ (HE.out.below hb1)).mono ?_
  rintro e w2 ⟨rfl, hb2⟩
  replace hb2 := qtrans hb1 hb2
  clear hb1
  go_wp2_with fail
  refine (C3.out _ (HE.out.below hb2)).mono ?_
  rintro e w3 ⟨rfl, hb3⟩
  replace hb3 := qtrans hb2 hb3
  clear hb2
  go_wp2_with fail
  refine (C4.out _ (HE.out.below hb3)).mono ?_
  rintro e w4 ⟨rfl, hb4⟩
  replace hb4 := qtrans hb3 hb4
  clear hb3
  go_wp2_with fail
  refine (C5.out _ (HE.out.below hb4)).mono ?_
  rintro e w5 ⟨rfl, hb5⟩
  replace hb5 := qtrans hb4 hb5
  clear hb4
  go_wp2_with fail
  go_ret
  exact ⟨rfl, hb5⟩
end Go.Proofs.YtbdiimldociobaaDoor
