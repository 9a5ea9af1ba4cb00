/- Proved: henkanlaw15.PosComments returns true for all lines, every number and every string: a comment line changes nothing but the number of a wrong line after it. No condition of ours. -/
import Derived.Test.YtoihfmjnonanjaaDoorPosBF
namespace Go.Proofs.YtoihfmjnonanjaaDoor
open Go.ChangeShapes Go.WideShapes Go.ChangeAt Go.RowKit Go.Lib Go.Shelf Hk
open Go.ChangeMaps (open_string shut_string)
set_option linter.unusedSimpArgs false
set_option linter.unusedVariables false
set_option maxRecDepth 100000

theorem u8_nat {z : Int} (h : (Lit.int .u8 z).wf = true) : ∃ c : Nat, c < 256 ∧ z = (c : Int) := by
  have hb : 0 ≤ z ∧ z ≤ 255 := by
    simp [Lit.wf, IntKind.min, IntKind.max, IntKind.bits, IntKind.signed] at h
    omega
  exact ⟨z.toNat, by omega, by omega⟩
set_option maxHeartbeats 8000000 in
theorem posComments_calls (A : Option Addr) (cap : Nat) (ss : List ByteArray) (z : Int) (s : ByteArray) (w : World) (hl : Lies w w.heap.size 1 A ss.length (ss.map Value.string)) (hc : ss.length ≤ cap) (hm : cap ≤ maxLen) (hb : ss.length * 16 ≤ 140737488351232) (hs : ∀ s ∈ ss, s.size ≤ 140737488351232) (hz : (Lit.int .u8 z).wf = true) (hss : s.size ≤ 140737488351232) (he : Env w) :
    Calls Tryd.prog 7 #[.slice A ss.length cap, .int .u8 z, .string s] w fun e w' => e = .returned (.bool true) ∧ Below w.heap.size w w' := by
  obtain ⟨i0, hi, hz0, hz1, hz2⟩ := info_parts Tryd.info9
  obtain ⟨a, ha, rfl⟩ := u8_nat hz
  have HE := Lib.hid he
  have CW := Lib.hid works_calls
  have C1 := Lib.hid (few_calls A cap ss _ w hl (Nat.le_refl _) (by omega) hs)
  have C2 := Lib.hid fun (W : World) A' (h : Lies W W.heap.size 1 A' 1 [Value.string s]) => few_calls A' 1 [s] _ W h (Nat.le_refl _) (by simp [maxLen]) (fun x hx => by rw [List.mem_singleton] at hx; subst hx; exact hss)
  unfold FewPost at C1 C2
  clear hl he hc hm hs hz
  obtain ⟨n0, hn0⟩ : ∃ n0, n0 = ss.length := ⟨_, rfl⟩
  rw [← hn0] at C1 hb ⊢
  clear hn0
  go_enter Tryd.func7, Tryd.ntmps7
  go_wp2_with fail
  refine C1.out.mono ?_
  rintro e w1 ⟨v1, l, rfl, hfl, ho1, hb1⟩
  obtain ⟨A1, c1, rfl, hc1, hcm1⟩ := own_slice ho1
  obtain ⟨N, hN⟩ : ∃ N, N = l.length := ⟨_, rfl⟩
  have HN := Lib.hid hN
  rw [← hN] at ho1 hc1 ⊢
  clear hN
  have HO1 := Lib.hid ho1
  have HFL := Lib.hid hfl
  have hNb : N ≤ 524288 := by have h1 := sumB_len l; have h2 := hfl.2; have h3 := HN.out; omega
  clear ho1 hfl C1
  go_wp2_with fail
  have hlit : Lies (w1.alloc (.cells #[.string s] 9)) (w1.alloc (.cells #[.string s] 9)).heap.size 1 (some ⟨w1.heap.size, 0, none⟩) 1 [Value.string s] :=
    Lies.of_addr rfl (by omega) (by simp) (cells_new w1 [.string s] 9)
  have hb2 : Below w.heap.size w (w1.alloc (.cells #[.string s] 9)) := hb1.alloc hb1.size _
  refine (C2.out _ _ hlit).mono ?_
  rintro e w3 ⟨v3, more, rfl, hfm, ho3, hb3⟩
  obtain ⟨A3, c3, rfl, hc3, hcm3, k3⟩ := own_lies ho3
  have HO3 := Lib.hid (owns_below (HO1.out.alloc (.cells #[.string s] 9)) hb3)
  replace hb3 := qtrans hb2 hb3
  clear hb1 hb2 hlit ho3 HO1 C2
  obtain ⟨m, hmm⟩ : ∃ m, m = more.length := ⟨_, rfl⟩
  have HM := Lib.hid hmm
  have HFM := Lib.hid hfm
  have K3 := Lib.hid k3
  clear hmm hfm k3
  rw [← HM.out]
  have hcm : m ≤ c3 := by rw [HM.out]; exact hc3
  clear hc3
  go_upto_region 3 with fail
  iterate 8 go_step
  go_cut [8, 9] (fun u v wx => w3 = wx ∧ ∃ c : ByteArray, v = .string c ∧ Hid (isComment c.data.toList = true ∧ c.size ≤ 524288 ∧ ∀ x ∈ c.data.toList, x ≠ 10))
  case first =>
    rcases more with _ | ⟨y, r⟩
    · have hm0 : m = 0 := HM.out
      have HC : Hid (isComment (⟨#[]⟩ : ByteArray).data.toList = true ∧ (⟨#[]⟩ : ByteArray).size ≤ 524288 ∧ ∀ x ∈ (⟨#[]⟩ : ByteArray).data.toList, x ≠ 10) := ⟨rfl, by decide, fun x h => by simp at h⟩
      clear HM HFM K3
      subst hm0
      go_wp2_with fail
      go_meet
      case rel => exact ⟨rfl, _, rfl, HC⟩
    · have hys := y.size
      have hsy : y.size + 1 ≤ 524288 := by
        have := HFM.out.2
        rw [sumB_cons] at this
        omega
      have HYN := Lib.hid (HFM.out.1 y List.mem_cons_self)
      have hm1 : 0 < m := by rw [HM.out]; simp
      have k3 := K3.out
      rw [← HM.out] at k3
      obtain ⟨b3, o3, rfl, _, c0⟩ := k3.at1 (k := 0) hm1 (u := .string y) (by simp)
      simp only [Nat.add_zero] at c0
      clear HM HFM K3 k3 hys
      by_cases hy0 : y.size = 0
      · have qy : decide ((0 : Int) < (y.size : Int)) = false := decide_eq_false (by omega)
        have qyn : decide (0 < y.size) = false := decide_eq_false (by omega)
        have HC : Hid (isComment (⟨#[]⟩ : ByteArray).data.toList = true ∧ (⟨#[]⟩ : ByteArray).size ≤ 524288 ∧ ∀ x ∈ (⟨#[]⟩ : ByteArray).data.toList, x ≠ 10) := ⟨rfl, by decide, fun x h => by simp at h⟩
        clear hy0
        go_wp2_with fail
        go_meet
        case rel => exact ⟨rfl, _, rfl, HC⟩
      · have qy : decide ((0 : Int) < (y.size : Int)) = true := decide_eq_true (by omega)
        have qyn : decide (0 < y.size) = true := decide_eq_true (by omega)
        have HC : Hid (isComment ((⟨#[35]⟩ : ByteArray) ++ y).data.toList = true ∧ ((⟨#[35]⟩ : ByteArray) ++ y).size ≤ 524288 ∧ ∀ x ∈ ((⟨#[35]⟩ : ByteArray) ++ y).data.toList, x ≠ 10) := by
          refine ⟨comment_hash y, ?_, ?_⟩
          · rw [ByteArray.size_append, show (⟨#[35]⟩ : ByteArray).size = 1 from rfl]
            omega
          · rw [size_hash]
            intro x hx
            rcases List.mem_cons.1 hx with rfl | h
            · decide
            · exact HYN.out x h
        have hcs1 : (1 : Nat) + y.size ≤ 524288 := by omega
        clear hy0
        go_wp2_with fail
        go_meet
        case rel => exact ⟨rfl, _, rfl, HC⟩
  case rest =>
    obtain ⟨rfl, c, rfl, HC⟩ := hcut
    clear HM HFM K3 hcm hcm3
    rcases Nat.eq_zero_or_pos N with rfl | hN1
    · go_wp2_with fail
      refine (CW.out _ (HE.out.below hb3)).mono ?_
      rintro e w4 ⟨rfl, hb4⟩
      replace hb4 := qtrans hb3 hb4
      go_wp2_with fail
      go_ret
      exact ⟨rfl, hb4⟩
    · obtain ⟨g1, cp, hv, _, hlt1⟩ := HO3.out.form hN1
      obtain ⟨rfl, rfl⟩ : A1 = some ⟨g1, 0, none⟩ ∧ c1 = cp := by simpa using hv
      obtain ⟨k, hk⟩ : ∃ k, k = a % (N + 1) := ⟨_, rfl⟩
      have hkN : k ≤ N := by rw [hk]; exact Nat.le_of_lt_succ (Nat.mod_lt a (Nat.succ_pos N))
      have hki : (a : Int) % ((N : Int) + 1) = (k : Int) := by rw [hk]; push_cast; rfl
      have qN : ((N : Int) == 0) = false := by rw [beq_eq_false_iff_ne]; omega
      have K := Lib.hid (Lies.of_own HO3.out)
      have hkc : k ≤ c1 := by omega
      have hkcI : (k : Int) ≤ (c1 : Int) := by omega
      have hkNI : (k : Int) ≤ (N : Int) := by omega
      clear hv hk
      have KT := Lib.hid (lies_take K.out hkN)
      obtain ⟨xs, hxs⟩ : ∃ xs, xs = (l.map Value.string).take k := ⟨_, rfl⟩
      obtain ⟨ys, hys⟩ : ∃ ys, ys = (l.map Value.string).drop k := ⟨_, rfl⟩
      rw [← hxs] at KT
      have HXY : Hid (xs ++ [Value.string c] ++ ys = (l.take k ++ c :: l.drop k).map Value.string) := by
        show _ = _
        rw [hxs, hys]
        simp
      have HX1 : Hid (∀ u ∈ xs, u.oneCell' = true) := fun u hu => by
        rw [hxs] at hu
        obtain ⟨x, _, rfl⟩ := List.mem_map.1 (List.mem_of_mem_take hu)
        rfl
      have HY1 : Hid (∀ u ∈ ys, u.oneCell' = true) := fun u hu => by
        rw [hys] at hu
        obtain ⟨x, _, rfl⟩ := List.mem_map.1 (List.mem_of_mem_drop hu)
        rfl
      have HC1 : Hid (∀ u ∈ [Value.string c], u.oneCell' = true) := fun u hu => by
        simp at hu
        subst hu
        rfl
      have KY := Lib.hid (lies_tail K.out hkN hc1)
      rw [← hys] at KY
      have HNK : Hid (0 + k + 1 + (N - k) = N + 1) := by show _ = _; omega
      clear hxs hys
      have O1 : Hid ((w3.alloc (.cells #[] 9)).drew.ownsRow w3.heap.size 9 1 (.slice (some ⟨w3.heap.size, 0, none⟩) 0 0) 0 []) := World.ownsRow_made w3 #[] 0 (Nat.le_refl _) (by unfold maxLen; omega) (by simp)
      have B1 : Hid (Below w3.heap.size w3 (w3.alloc (.cells #[] 9)).drew) := ((Below.refl _ _).alloc (Nat.le_refl _) _).drew
      have O2 : Hid (((w3.alloc (.cells #[] 9)).alloc (.cells #[.string c] 9)).drew.ownsRow w3.heap.size 9 1 (.slice (some ⟨w3.heap.size, 0, none⟩) 0 0) 0 []) := (World.ownsRow_made w3 #[] 0 (Nat.le_refl _) (by unfold maxLen; omega) (by simp)).alloc _
      have B2 : Hid (Below w3.heap.size w3 ((w3.alloc (.cells #[] 9)).alloc (.cells #[.string c] 9)).drew) := (((Below.refl _ _).alloc (Nat.le_refl _) _).alloc (by simp) _).drew
      have L2 : Hid (LitAt ((w3.alloc (.cells #[] 9)).alloc (.cells #[.string c] 9)).drew (w3.heap.size + 1) c) := by
        have := LitAt.new (w3.alloc (.cells #[] 9)) c
        simp only [World.size_alloc] at this
        exact this
      have O3 : Hid (((w3.alloc (.cells #[.string c] 9)).alloc (.cells #[] 9)).drew.ownsRow w3.heap.size 9 1 (.slice (some ⟨w3.heap.size + 1, 0, none⟩) 0 0) 0 []) := by
        have := World.ownsRow_made (base := w3.heap.size) (size := 1) (e := 9) (w3.alloc (.cells #[.string c] 9)) #[] 0 (by simp) (by unfold maxLen; omega) (by simp)
        simp only [World.size_alloc] at this
        exact this
      have B3 : Hid (Below w3.heap.size w3 ((w3.alloc (.cells #[.string c] 9)).alloc (.cells #[] 9)).drew) := (((Below.refl _ _).alloc (Nat.le_refl _) _).alloc (by simp) _).drew
      have L3 : Hid (LitAt ((w3.alloc (.cells #[.string c] 9)).alloc (.cells #[] 9)).drew w3.heap.size c) := (LitAt.new w3 c).alloc _
      have n2 : some (w3.heap.size + 1) ≠ Value.ownBlock (.slice (some ⟨w3.heap.size, 0, none⟩) 0 0) := by simp [Value.ownBlock]
      have n3 : some w3.heap.size ≠ Value.ownBlock (.slice (some ⟨w3.heap.size + 1, 0, none⟩) 0 0) := by simp [Value.ownBlock]
      have N2 := Lib.hid n2
      have N3 := Lib.hid n3
      have M1 : Hid (0 + k ≤ maxLen ∧ (0 + k) * 16 ≤ 140737488355328 ∧ 0 + k + 1 ≤ maxLen ∧ (0 + k + 1) * 16 ≤ 140737488355328 ∧ 0 + k + 1 + (N - k) ≤ maxLen ∧ (0 + k + 1 + (N - k)) * 16 ≤ 140737488355328) := by
        show _ ∧ _
        unfold maxLen
        omega
      clear n2 n3
      go_upto_region 9 with fail
      go_cut [10, 11] (fun i v wx => i = .int .i64 (k : Int) ∧ Below w.heap.size w wx ∧ Hid (Lies wx wx.heap.size 1 (some ⟨g1, 0, none⟩) N (l.map Value.string)) ∧ ∃ A' c', v = .slice A' (N + 1) c' ∧ Hid (Lies wx wx.heap.size 1 A' (N + 1) ((l.take k ++ c :: l.drop k).map Value.string)))
      case first =>
        go_region_law (first
          | (refine step_append_in (by rfl) _ _ _ (by rfl) w3.heap.size 9 i0 (.string ⟨#[]⟩) 1 16 Tryd.underlying38 hi hz0 hz1 hz2 rfl (by decide) _ 0 [] (by rfl) O1.out w3.heap.size (some ⟨g1, 0, none⟩) k c1 xs (by rfl) (KT.out.below B1.out) HX1.out M1.out.1 M1.out.2.1 B1.out.size ?_
             intro v4 w4 ho4 hg4
             have HB4 := Lib.hid (below_in B1.out (Nat.le_refl _) O1.out hg4)
             have HO4 := Lib.hid ho4
             clear ho4 hg4)
          | (refine step_append_in (by rfl) _ _ _ (by rfl) w3.heap.size 9 i0 (.string ⟨#[]⟩) 1 16 Tryd.underlying38 hi hz0 hz1 hz2 rfl (by decide) _ 0 [] (by rfl) O2.out w3.heap.size (some ⟨g1, 0, none⟩) k c1 xs (by rfl) (KT.out.below B2.out) HX1.out M1.out.1 M1.out.2.1 B2.out.size ?_
             intro v4 w4 ho4 hg4
             have HB4 := Lib.hid (below_in B2.out (Nat.le_refl _) O2.out hg4)
             have HL4 := Lib.hid (L2.out.grown hg4 N2.out)
             have HO4 := Lib.hid ho4
             clear ho4 hg4)
          | (refine step_append_in (by rfl) _ _ _ (by rfl) w3.heap.size 9 i0 (.string ⟨#[]⟩) 1 16 Tryd.underlying38 hi hz0 hz1 hz2 rfl (by decide) _ 0 [] (by rfl) O3.out w3.heap.size (some ⟨g1, 0, none⟩) k c1 xs (by rfl) (KT.out.below B3.out) HX1.out M1.out.1 M1.out.2.1 B3.out.size ?_
             intro v4 w4 ho4 hg4
             have HB4 := Lib.hid (below_in B3.out (Nat.le_refl _) O3.out hg4)
             have HL4 := Lib.hid (L3.out.grown hg4 N3.out)
             have HO4 := Lib.hid ho4
             clear ho4 hg4)
          | (refine step_append_in (by rfl) _ _ _ (by rfl) w3.heap.size 9 i0 (.string ⟨#[]⟩) 1 16 Tryd.underlying38 hi hz0 hz1 hz2 rfl (by decide) v4 (0 + k) ([] ++ xs) (by rfl) (HO4.out.alloc _) _ _ 1 1 [.string c] (by rfl) (LitAt.new w4 c).lies HC1.out M1.out.2.2.1 M1.out.2.2.2.1 (Nat.le_trans HB4.out.size (by simp)) ?_
             intro v5 w5 ho5 hg5
             have HB5 := Lib.hid (below_in (HB4.out.alloc HB4.out.size _) (Nat.le_refl _) (HO4.out.alloc _) hg5)
             have HO5 := Lib.hid ho5
             clear ho5 hg5)
          | (refine step_append_in (by rfl) _ _ _ (by rfl) w3.heap.size 9 i0 (.string ⟨#[]⟩) 1 16 Tryd.underlying38 hi hz0 hz1 hz2 rfl (by decide) v4 (0 + k) ([] ++ xs) (by rfl) HO4.out _ _ 1 1 [.string c] (by rfl) HL4.out.lies HC1.out M1.out.2.2.1 M1.out.2.2.2.1 HB4.out.size ?_
             intro v5 w5 ho5 hg5
             have HB5 := Lib.hid (below_in HB4.out (Nat.le_refl _) HO4.out hg5)
             have HO5 := Lib.hid ho5
             clear ho5 hg5)
          | (refine step_append_in (by rfl) _ _ _ (by rfl) w3.heap.size 9 i0 (.string ⟨#[]⟩) 1 16 Tryd.underlying38 hi hz0 hz1 hz2 rfl (by decide) v5 (0 + k + 1) ([] ++ xs ++ [.string c]) (by rfl) HO5.out w3.heap.size _ (N - k) (c1 - k) ys (by rfl) (KY.out.below HB5.out) HY1.out M1.out.2.2.2.2.1 M1.out.2.2.2.2.2 HB5.out.size ?_
             intro v6 w6 ho6 hg6
             have HB6 := Lib.hid (below_in HB5.out (Nat.le_refl _) HO5.out hg6)
             rw [HNK.out] at ho6
             have HO6 := Lib.hid ho6
             clear ho6 hg6))
        all_goals
          obtain ⟨A6, c6, rfl, _, _, k6⟩ := own_lies HO6.out
          rw [List.nil_append, HXY.out] at k6
          have K6 := Lib.hid k6
          have HL6 := Lib.hid ((K.out.below HB6.out).up HB6.out.size)
          have HB7 := Lib.hid (qtrans hb3 HB6.out)
          clear k6 HO6 HO5 HB5 HB6 HO4 HB4
          generalize (if c1 = k then some (⟨g1, 0, none⟩ : Addr) else some ⟨g1, k, none⟩) = X
          go_wp2_with fail
          go_meet
        all_goals exact ⟨rfl, HB7.out, HL6, _, _, rfl, K6⟩
      case rest =>
        obtain ⟨rfl, hb4, HL4, A4, c4, rfl, HM4⟩ := hcut
        have hl0 : l ≠ [] := by
          rintro rfl
          have := HN.out
          simp at this
          omega
        have hk1 : k ≤ l.length := by rw [← HN.out]; exact hkN
        have hn1 : l.length ≤ 1048575 := by rw [← HN.out]; omega
        have hlen := more_len (c := c) hk1
        have hn2 : (l.take k ++ c :: l.drop k).length ≤ 1048576 := by rw [hlen]; omega
        have hpm := comments_plain hk1 hl0 HFL.out HC.out.1 HC.out.2.1 HC.out.2.2
        have CX1 := Lib.hid fun (W : World) (h : Lies W W.heap.size 1 (some ⟨g1, 0, none⟩) l.length (l.map Value.string)) => text_law _ c1 l _ W h (Nat.le_refl _) (by omega) (few_each HFL.out)
        have CX2 := Lib.hid fun (W : World) (h : Lies W W.heap.size 1 A4 (l.take k ++ c :: l.drop k).length ((l.take k ++ c :: l.drop k).map Value.string)) => text_law _ c4 (l.take k ++ c :: l.drop k) _ W h (Nat.le_refl _) hn2 (more_each HFL.out HC.out.2.1)
        have CP1 := Lib.hid fun (W : World) (h : Env W) => parse_calls (joinB l) W (join_int (few_each HFL.out) (by omega)) h
        have CP2 := Lib.hid fun (W : World) (h : Env W) => parse_calls (joinB (l.take k ++ c :: l.drop k)) W (join_int (more_each HFL.out HC.out.2.1) hn2) h
        have hnum := join_num hl0 HFL.out
        have hrl := parseD_len (joinB l)
        unfold ParsePost at CP1 CP2
        obtain ⟨⟨r, x, y⟩, hr⟩ : ∃ q, q = parseD (joinB l) := ⟨_, rfl⟩
        obtain ⟨x2, hx2, hxx⟩ := bump_at k r x y
        rw [hpm, ← hr, hx2] at CP2
        rw [← hr] at CP1 hnum hrl
        rw [hlen, ← HN.out] at CX2
        rw [← HN.out] at CX1
        simp only at CP1 CP2 hnum hrl
        obtain ⟨lm, hlm⟩ : ∃ lm, lm = l.take k ++ c :: l.drop k := ⟨_, rfl⟩
        rw [← hlm] at CX2 CP2 HM4
        obtain ⟨T1, hT1⟩ : ∃ T, T = joinB l := ⟨_, rfl⟩
        obtain ⟨T2, hT2⟩ : ∃ T, T = joinB lm := ⟨_, rfl⟩
        rw [← hT1] at CX1 CP1
        rw [← hT2] at CX2 CP2
        have CS := Lib.hid fun A c A2 c2 (W : World) (h1 : Lies W W.heap.size 2 A r.length (pcells r)) (h2 : Lies W W.heap.size 2 A2 r.length (pcells r)) => same_calls A A2 c c2 r W _ _ h1 h2 (by omega)
        obtain ⟨q, hq⟩ : ∃ q, q = r.length := ⟨_, rfl⟩
        rw [← hq] at CP1 CP2 CS hrl
        have HXX := Lib.hid hxx
        have s0 : (y != y) = false := by simp
        clear O1 B1 O2 B2 L2 O3 B3 L3 N2 N3 M1 HNK KY HC1 HY1 HX1 HXY KT K HO3 hki qN hkc hkcI hkNI hkN hlt1 hl0 hk1 hn1 hlen hn2 hpm hr hx2 hxx hlm hT1 hT2 hq hb3
        go_wp2_with fail
        refine (CX1.out _ HL4.out).mono ?_
        rintro e w5 ⟨rfl, hb5⟩
        replace HM4 := Lib.hid ((HM4.out.below hb5).up hb5.size)
        replace hb5 := qtrans hb4 hb5
        clear hb4 CX1 HL4
        go_wp2_with fail
        refine (CP1.out _ (HE.out.below hb5)).mono ?_
        rintro e w6 ⟨v6, rfl, ho6, hb6⟩
        obtain ⟨A6, c6, rfl, _, _, k6⟩ := own_lies ho6
        have K6 := Lib.hid k6
        replace HM4 := Lib.hid ((HM4.out.below hb6).up hb6.size)
        replace hb6 := qtrans hb5 hb6
        clear hb5 CP1 k6 ho6
        go_wp2_with fail
        refine (CX2.out _ HM4.out).mono ?_
        rintro e w7 ⟨rfl, hb7⟩
        replace K6 := Lib.hid ((K6.out.below hb7).up hb7.size)
        replace hb7 := qtrans hb6 hb7
        clear hb6 CX2 HM4
        go_wp2_with fail
        refine (CP2.out _ (HE.out.below hb7)).mono ?_
        rintro e w8 ⟨v8, rfl, ho8, hb8⟩
        obtain ⟨A8, c8, rfl, _, _, k8⟩ := own_lies ho8
        have K8 := Lib.hid k8
        replace K6 := Lib.hid ((K6.out.below hb8).up hb8.size)
        replace hb8 := qtrans hb7 hb8
        clear hb7 CP2 k8 ho8
        go_wp2_with fail
        refine (CS.out _ _ _ _ _ K6.out K8.out).mono ?_
        rintro e w9 ⟨rfl, hb9⟩
        replace hb9 := qtrans hb8 hb9
        clear hb8 CS K6 K8
        rcases HXX.out with ⟨hx, rfl⟩ | ⟨hx, rfl⟩
        · have qx : decide ((k : Int) < x) = true := decide_eq_true (by omega)
          have s1 : (x + 1 == x + 1) = true := by simp
          clear HXX
          go_wp2_with fail
          refine (CW.out _ (HE.out.below hb9)).mono ?_
          rintro e w10 ⟨rfl, hb10⟩
          replace hb10 := qtrans hb9 hb10
          go_wp2_with fail
          go_ret
          exact ⟨rfl, hb10⟩
        · have qx : decide ((k : Int) < x2) = false := decide_eq_false (by omega)
          have s1 : (x2 == x2) = true := by simp
          clear HXX
          go_wp2_with fail
          refine (CW.out _ (HE.out.below hb9)).mono ?_
          rintro e w10 ⟨rfl, hb10⟩
          replace hb10 := qtrans hb9 hb10
          go_wp2_with fail
          go_ret
          exact ⟨rfl, hb10⟩

theorem posComments_lifted (os : Os) (started : os.Started) (H : Type) (enc : TypeId × Value → H) :
    ReturnsInHanded {} Tryd.checked os 7 .any (fun w args => (Rows.posCommentsSpec.pre enc Tryd.prog Tryd.f7 Rows.posCommentsRow.domain false w args ∧ laidMetH Tryd.prog laidOf w) ∧ sizedMet enc Tryd.prog Tryd.f7 (OpenSpec.ofChange Rows.posCommentsSpec) false w args)
      (Rows.posCommentsSpec.post enc Tryd.prog Tryd.f7 false true false false) := by
  refine returns_shaped (C := Tryd.checked) (X := fun w _ => laidMetH Tryd.prog laidOf w) (fun _ _ _ hh h => h.of_heap hh) own started (by kernel_rfl) Tryd.func7
    (ChangeSpec.witness_shaped (enc := enc) (C := Tryd.checked) (os := os) (X := fun w _ => laidMetH Tryd.prog laidOf w) false (World.laidAll Tryd.prog os laidOf) #[.slice none 0 0, .int .u8 0, .string ⟨#[]⟩] 8 (World.laidAll_os _ _ _)
      (World.shaped_of_ZipB (by kernel_rfl) (by kernel_rfl)) (by kernel_rfl) (by kernel_rfl) (by kernel_rfl)
      (by rw [MakeChecks.laidMetH_plain _ _ _ laidOf_plain]; exact laidMet_laidAll _ (by kernel_rfl) (by kernel_rfl))) ?_
  intro W base args ds gs before hval0 hW hz hL hsh
  have hval : ∀ (j : Nat) t v, Tryd.f7.params[j]? = some t → args[j]? = some v → Value.okWide Tryd.prog W .any base t v := hval0
  have hW' := hW
  obtain ⟨p, q, hA0, hV, rfl, _, _⟩ := hW
  have hA : DataW.TrodAll enc Tryd.prog W 0 (fun _ => true) true Tryd.f7.params.toList args.toList ds p := hA0
  have hpar : Tryd.f7.params = #[38, 5, 9] := by kernel_rfl
  rw [hpar] at hA hval
  obtain ⟨v0, v1, v2, d0, d1, d2, p0, p1, p2, hargs, rfl, rfl, h0, h1, h2⟩ := trodAll_three hA
  obtain rfl : args = #[v0, v1, v2] := by first | exact hargs | (cases args; simp_all)
  obtain ⟨A0, cap0, ss0, rfl, hc0, hm0, hl0, hb0, he0⟩ := open_strsR (j := 0) Tryd.underlying38 Tryd.underlying9 (by kernel_rfl) (by kernel_rfl) (hval 0 38 v0 rfl rfl) h0 hz rfl rfl
  obtain ⟨x1, rfl, rfl, rfl, w1⟩ := open_int Tryd.underlying5 (hval 1 5 v1 rfl rfl) h1
  obtain ⟨x2, rfl, rfl, rfl, w2⟩ := open_string Tryd.underlying9 (hval 2 9 v2 rfl rfl) h2
  refine (posComments_calls A0 cap0 ss0 x1 x2 W hl0 hc0 hm0 hb0 he0 w1 (reach_le (sized_string hz (j := 2) (t := 9) rfl rfl)) (env_of hL hsh)).mono fun e W' ⟨he, hbl⟩ => ?_
  subst he
  exact ⟨_, rfl, law_post rfl rfl (by kernel_rfl) hW' rfl rfl rfl hbl⟩

theorem posComments_row : Rows.PosCommentsSaid :=
  OpenClaim.holds_of_wide 7 Tryd.f7 rfl rfl rfl rfl rfl rfl rfl ⟨rfl, rfl, rfl, rfl, rfl⟩ rfl rfl rfl rfl rfl (by kernel_rfl) Tryd.func7 (by kernel_rfl)
    (of_decide_eq_true (by kernel_rfl)) (by unfold Func.isWrapper; first | (rw [if_pos (by decide +kernel)]; kernel_rfl) | (rw [if_neg (by decide +kernel)]; exact ⟨rfl, rfl⟩))
    (fun os started H enc _ => posComments_lifted os started H enc)
theorem posComments_holds : Rows.PosCommentsCardSaid :=
  Claim7.holds_tied_plain_at .later [] [.data, .widerDeep, .pinned] true Rows.posCommentsCard.stood.harness true posComments_row (fun _ h => by cases h) (by kernel_rfl) (fun _ h => by cases h) posComments_row_tie rfl ⟨rfl, rfl⟩ (by kernel_rfl) rfl
    (fun f fn hf hfn => by
      obtain rfl : f = 7 := Option.some.inj ((show Tryd.prog.funcNamed Rows.posCommentsRow.func = some 7 by kernel_rfl).symm.trans hf) |>.symm
      obtain rfl : fn = Tryd.f7 := (Option.some.inj (Tryd.func7.symm.trans hfn)).symm
      exact ⟨by kernel_rfl, fun j t ht => by
        have hpar : Tryd.f7.params = #[38, 5, 9] := by kernel_rfl
        rw [hpar] at ht
        have hm : t ∈ [38, 5, 9] := by simpa using Array.mem_of_getElem? ht
        have hall : ([38, 5, 9].all fun u => !Tryd.prog.wantsStandIn u) = true := by kernel_rfl
        exact (show Tryd.prog.wantsStandIn t = false by simpa using List.all_eq_true.1 hall t hm)⟩)
    (by kernel_rfl)
#print axioms posComments_holds
end Go.Proofs.YtoihfmjnonanjaaDoor
