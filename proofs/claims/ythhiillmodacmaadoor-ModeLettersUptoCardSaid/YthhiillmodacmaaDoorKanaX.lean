/- What henkanref02.Full computes. -/
import Derived.Test.YthhiillmodacmaaDoorKanaV
namespace Go.Proofs.YthhiillmodacmaaDoor
open Go.RowKit Go.Lib Go.Shelf Hk
set_option linter.unusedSimpArgs false
set_option linter.unusedVariables false
set_option maxRecDepth 100000

/-- The loop of Full. -/
def RFullAt (w2 : World) (rs : List Nat) (v i : Value) (wr : World) : Prop :=
  ∃ (k : Nat) (acc : List Nat), k ≤ rs.length ∧ i = .int .i64 (k : Int) ∧ fullC rs = acc ++ fullC (rs.drop k) ∧ acc.length ≤ k ∧ wr.ownsRow w2.heap.size 21 1 v acc.length (runeCellsOf acc) ∧ Below w2.heap.size w2 wr
theorem bet_tab (c : Nat) : betB (c : Int) 65377 65437 = inTab c := by
  cases h : inTab c with
  | true => rw [inTab_iff] at h; exact (betB_iff _ _ _).2 (by omega)
  | false => rw [← Bool.not_eq_true, inTab_iff] at h; exact (betB_not _ _ _).2 (by omega)
theorem tab_at (c : Nat) (h : inTab c = true) : tableL[c - 65377]? = some (tabD c) ∧ c - 65377 < 61 ∧ 65377 ≤ c := by
  rw [inTab_iff] at h
  have hlt : c - 65377 < 61 := by omega
  refine ⟨?_, hlt, h.1⟩
  unfold tabD
  rw [List.getD_eq_getElem?_getD, List.getElem?_eq_getElem (by rw [table_len]; exact hlt)]
  rfl

set_option maxHeartbeats 8000000 in
theorem refFull_calls (s : ByteArray) (w : World) (hs : s.size ≤ 16777216) : Calls Tryd.prog 41 #[.string s] w fun e w' => e = .returned (.string (fullS s)) ∧ Below w.heap.size w w' := by
  obtain ⟨i0, hi, hz0, hz1, hz2⟩ := info_parts Tryd.info21
  have CR := Lib.hid (runes_calls s w (by omega))
  have CTB := Lib.hid refTable_calls
  have CB := Lib.hid between_calls
  have CM := Lib.hid refMarked_calls
  have CT := Lib.hid refText_calls
  go_enter Tryd.func41, Tryd.ntmps41
  go_wp2_with fail
  refine CR.out.mono ?_
  rintro e w1 ⟨hb1, ⟨hD, rfl⟩ | ⟨rs, v, hD, rfl, ho⟩⟩
  · have HX : Hid (fullS s = s) := strB_none hD
    clear hD
    go_wp2_with fail
    go_ret
    exact ⟨by rw [HX.out]; rfl, hb1⟩
  · have HX : Hid (fullS s = bstr (encT (fullC rs))) := strB_some hD
    have HRN := Lib.hid (runesD_are hD)
    have hl : rs.length ≤ s.size := by have := runesD_length _ _ _ (Nat.le_refl _) hD; simpa using this
    obtain ⟨A, c, rfl, hnc, hcm, hlies⟩ := own_lies ho
    obtain ⟨n, hn⟩ : ∃ n, rs.length = n := ⟨_, rfl⟩
    have HN := Lib.hid hn
    rw [hn] at hl hnc hlies ⊢
    clear hD hn ho
    go_wp2_with fail
    refine (CTB.out _).mono ?_
    rintro e w2 ⟨v2, rfl, ho2, hb2⟩
    obtain ⟨A2, c2, rfl, hnc2, hcm2, hlies2⟩ := own_lies ho2
    have HL := Lib.hid ((hlies.below hb2).up hb2.size)
    have HT2 : Hid (Lies w2 w2.heap.size 1 A2 61 (runeCellsOf tableL)) := hlies2
    obtain ⟨b2, off2, hA2, _, _⟩ := HT2.out.cells (by omega)
    subst hA2
    rw [table_len] at hnc2 ⊢
    have hbb := qtrans hb1 hb2
    clear hlies hlies2 ho2 hb2
    go_wp2_with fail
    go_loopw [6, 7] (fun v i wr => RFullAt w2 rs v i wr) (fun _ i _ => n - (intOf i).toNat)
    case atStart => exact ⟨0, [], Nat.zero_le _, rfl, rfl, Nat.le_refl _, World.ownsRow_nil _ _ _ _, Below.refl _ _⟩
    case round =>
      obtain ⟨k, acc, hk, rfl, hacc, hal, hown, hbw⟩ := hrel
      rw [HN.out] at hk
      have HACC := Lib.hid hacc
      clear hacc
      by_cases hlt : k < n
      · obtain ⟨c0, hc⟩ : ∃ c, rs[k]? = some c := ⟨_, List.getElem?_eq_getElem (by rw [HN.out]; exact hlt)⟩
        obtain ⟨b, off, rfl, hab, e0⟩ := rune_at HL.out hlt hc
        have hrr := HRN.out c0 (List.mem_of_getElem? hc)
        have hc11 : c0 ≤ 1114111 := by unfold isRune at hrr; omega
        have d0 := cell_later hbw e0
        have hsing := full_single rs k c0 hc
        have hbet := bet_tab c0
        have CB1 := Lib.hid fun W => CB.out (c0 : Int) 65377 65437 W
        cases hin : inTab c0 with
        | true =>
          rw [hbet, hin] at CB1
          rw [hin] at hsing
          simp only [if_true] at hsing
          obtain ⟨g1, g2, g3⟩ := tab_at c0 hin
          have htl := tabD_ok hin
          obtain ⟨b', off', hA', _, t0⟩ := rune_at HT2.out g2 g1
          injection hA' with hA'
          injection hA' with hA1 hA2
          subst hA1 hA2
          have t1 := cell_later hbw t0
          obtain ⟨t, ht⟩ : ∃ t, tabD c0 = t := ⟨_, rfl⟩
          rw [ht] at hsing htl t1
          by_cases hnx : k + 1 < n
          · obtain ⟨m, hm⟩ : ∃ m, rs[k + 1]? = some m := ⟨_, List.getElem?_eq_getElem (by rw [HN.out]; exact hnx)⟩
            obtain ⟨b', off', hA', _, e1⟩ := rune_at HL.out hnx hm
            injection hA' with hA'
            injection hA' with hA1 hA2
            subst hA1 hA2
            have hmr := HRN.out m (List.mem_of_getElem? hm)
            have hm11 : m ≤ 1114111 := by unfold isRune at hmr; omega
            have d1 := cell_later hbw e1
            have HD1 := Lib.hid fun (W : World) (hW : Below wr.heap.size wr W) => cell_later hW d1
            have CM1 := Lib.hid fun W => CM.out t m W (by omega) hm11
            obtain ⟨x, hx⟩ : ∃ x, markedD t m = x := ⟨_, rfl⟩
            rw [hx] at CM1
            have hq1 : (k : Int) + 1 < (n : Int) := by omega
            have g5 : decide ((k : Int) + 1 < (n : Int)) = true := decide_eq_true hq1
            have g6 : decide (k + 1 < n) = true := decide_eq_true hnx
            by_cases hx0 : x = 0
            · have q1 : ((x : Int) != 0) = false := by simp; omega
              have HF : Hid (fullC (rs.drop k) = t :: fullC (rs.drop (k + 1))) := hsing fun m' hm' => by
                rw [hm] at hm'
                rw [← Option.some.inj hm', hx]
                exact fun e => e.2 hx0
              clear hc hm hx hx0 hsing hin hbet ht g1 e0 e1 t0 hmr hrr
              go_wp2_with fail
              refine (CB1.out _).mono ?_
              rintro e w3 ⟨rfl, rfl⟩
              go_wp2_with fail
              refine (CM1.out _).mono ?_
              rintro e w3 ⟨rfl, hb3⟩
              have hown3 := owns_below hown hb3
              have hbw3 := qtrans hbw hb3
              clear hown hbw hb3 d0 d1 t1
              go_wp2_with (at_builtin; refine wpList_append_own _ rfl _ _ 62 rfl w2.heap.size 21 i0 (.int .i32 0) 1 4 Tryd.underlying62 hi hz0 hz1 hz2 rfl (by decide) _ _ _ rfl (hown3.alloc _) ⟨w3.heap.size, 0, none⟩ 1 1 [.int .i32 (t : Int)] rfl rfl (cell_one_new _ _ _) (by intro u hu; simp at hu; subst hu; rfl) (by unfold maxLen; omega) (by omega) (by have := hbw3.size; simp; omega) ?_)
              intro v' w5 ho5 hg5 _
              have hbw5 := below_append hbw3 _ hown3 hg5
              have HO5 : Hid (w5.ownsRow w2.heap.size 21 1 v' (acc ++ [t]).length (runeCellsOf (acc ++ [t]))) := by show World.ownsRow _ _ _ _ _ _ _; rw [List.length_append, runeCellsOf_append]; exact ho5
              clear hg5 ho5 hown3 hbw3
              go_wp2_with fail
              go_roundw
              case rel => exact ⟨k + 1, acc ++ [t], by rw [HN.out]; omega, by go_num, by rw [HACC.out, HF.out]; simp, by simp; omega, HO5.out, hbw5⟩
              case measure => simp [intOf]; omega
            · have q1 : ((x : Int) != 0) = true := by simp; omega
              have hx11 : x ≤ 1114111 := by
                rcases marked_ok t m with e | e
                · omega
                · omega
              have HF : Hid (fullC (rs.drop k) = x :: fullC (rs.drop (k + 2))) := by show _ = _; rw [full_double rs k c0 m hc hm ⟨hin, by rw [ht, hx]; exact hx0⟩, ht, hx]
              clear hc hm hx hx0 hsing hin hbet ht g1 e0 e1 t0 hmr hrr
              go_wp2_with fail
              refine (CB1.out _).mono ?_
              rintro e w3 ⟨rfl, rfl⟩
              go_wp2_with fail
              refine (CM1.out _).mono ?_
              rintro e w3 ⟨rfl, hb3⟩
              have d3 := HD1.out w3 hb3
              have hown4 := owns_below hown hb3
              have hbw4 := qtrans hbw hb3
              clear hown hbw hb3 d0 d1 t1
              go_wp2_with fail
              refine (CM1.out _).mono ?_
              rintro e w4 ⟨rfl, hb4⟩
              have hown3 := owns_below hown4 hb4
              have hbw3 := qtrans hbw4 hb4
              clear hown4 hbw4 hb4 d3
              go_wp2_with (at_builtin; refine wpList_append_own _ rfl _ _ 62 rfl w2.heap.size 21 i0 (.int .i32 0) 1 4 Tryd.underlying62 hi hz0 hz1 hz2 rfl (by decide) _ _ _ rfl (hown3.alloc _) ⟨w4.heap.size, 0, none⟩ 1 1 [.int .i32 (x : Int)] rfl rfl (cell_one_new _ _ _) (by intro u hu; simp at hu; subst hu; rfl) (by unfold maxLen; omega) (by omega) (by have := hbw3.size; simp; omega) ?_)
              intro v' w5 ho5 hg5 _
              have hbw5 := below_append hbw3 _ hown3 hg5
              have HO5 : Hid (w5.ownsRow w2.heap.size 21 1 v' (acc ++ [x]).length (runeCellsOf (acc ++ [x]))) := by show World.ownsRow _ _ _ _ _ _ _; rw [List.length_append, runeCellsOf_append]; exact ho5
              clear hg5 ho5 hown3 hbw3
              go_wp2_with fail
              go_roundw
              case rel => exact ⟨k + 2, acc ++ [x], by rw [HN.out]; omega, by go_num, by rw [HACC.out, HF.out]; simp, by simp; omega, HO5.out, hbw5⟩
              case measure => simp [intOf]; omega
          · have HF : Hid (fullC (rs.drop k) = t :: fullC (rs.drop (k + 1))) := hsing fun m' hm' => by
              have := (List.getElem?_eq_some_iff.1 hm').1
              rw [HN.out] at this
              omega
            have hq1 : ¬ (k : Int) + 1 < (n : Int) := by omega
            have g5 : decide ((k : Int) + 1 < (n : Int)) = false := decide_eq_false hq1
            have g6 : decide (k + 1 < n) = false := decide_eq_false hnx
            have hown3 := hown
            have hbw3 := hbw
            clear hc hsing hin hbet ht g1 e0 t0 hrr hown hbw
            go_wp2_with fail
            refine (CB1.out _).mono ?_
            rintro e w3 ⟨rfl, rfl⟩
            go_wp2_with (at_builtin; refine wpList_append_own _ rfl _ _ 62 rfl w2.heap.size 21 i0 (.int .i32 0) 1 4 Tryd.underlying62 hi hz0 hz1 hz2 rfl (by decide) _ _ _ rfl (hown3.alloc _) ⟨wr.heap.size, 0, none⟩ 1 1 [.int .i32 (t : Int)] rfl rfl (cell_one_new _ _ _) (by intro u hu; simp at hu; subst hu; rfl) (by unfold maxLen; omega) (by omega) (by have := hbw3.size; simp; omega) ?_)
            intro v' w5 ho5 hg5 _
            have hbw5 := below_append hbw3 _ hown3 hg5
            have HO5 : Hid (w5.ownsRow w2.heap.size 21 1 v' (acc ++ [t]).length (runeCellsOf (acc ++ [t]))) := by show World.ownsRow _ _ _ _ _ _ _; rw [List.length_append, runeCellsOf_append]; exact ho5
            clear hg5 ho5 hown3 hbw3
            go_wp2_with fail
            go_roundw
            case rel => exact ⟨k + 1, acc ++ [t], by rw [HN.out]; omega, by go_num, by rw [HACC.out, HF.out]; simp, by simp; omega, HO5.out, hbw5⟩
            case measure => simp [intOf]; omega
        | false =>
          rw [hbet, hin] at CB1
          rw [hin] at hsing
          simp only [Bool.false_eq_true, if_false] at hsing
          have HF : Hid (fullC (rs.drop k) = markC c0 :: fullC (rs.drop (k + 1))) := hsing fun m' hm' => by simp
          have hown3 := hown
          have hbw3 := hbw
          by_cases h1 : c0 = 65438
          · have q1 : ((c0 : Int) == 65438) = true := by simp; omega
            have HM : Hid (markC c0 = 12443) := by show _ = _; unfold markC; rw [if_pos h1]
            clear hc hsing hin hbet e0 hrr hown hbw h1
            rw [HM.out] at HF
            go_wp2_with fail
            refine (CB1.out _).mono ?_
            rintro e w3 ⟨rfl, rfl⟩
            go_wp2_with (at_builtin; refine wpList_append_own _ rfl _ _ 62 rfl w2.heap.size 21 i0 (.int .i32 0) 1 4 Tryd.underlying62 hi hz0 hz1 hz2 rfl (by decide) _ _ _ rfl (hown3.alloc _) ⟨wr.heap.size, 0, none⟩ 1 1 [.int .i32 (12443)] rfl rfl (cell_one_new _ _ _) (by intro u hu; simp at hu; subst hu; rfl) (by unfold maxLen; omega) (by omega) (by have := hbw3.size; simp; omega) ?_)
            intro v' w5 ho5 hg5 _
            have hbw5 := below_append hbw3 _ hown3 hg5
            have HO5 : Hid (w5.ownsRow w2.heap.size 21 1 v' (acc ++ [12443]).length (runeCellsOf (acc ++ [12443]))) := by show World.ownsRow _ _ _ _ _ _ _; rw [List.length_append, runeCellsOf_append]; exact ho5
            clear hg5 ho5 hown3 hbw3
            go_wp2_with fail
            go_roundw
            case rel => exact ⟨k + 1, acc ++ [12443], by rw [HN.out]; omega, by go_num, by rw [HACC.out, HF.out]; simp, by simp; omega, HO5.out, hbw5⟩
            case measure => simp [intOf]; omega
          · have q1 : ((c0 : Int) == 65438) = false := by simp; omega
            by_cases h2 : c0 = 65439
            · have q2 : ((c0 : Int) == 65439) = true := by simp; omega
              have HM : Hid (markC c0 = 12444) := by show _ = _; unfold markC; rw [if_neg h1, if_pos h2]
              clear hc hsing hin hbet e0 hrr hown hbw h1 h2
              rw [HM.out] at HF
              go_wp2_with fail
              refine (CB1.out _).mono ?_
              rintro e w3 ⟨rfl, rfl⟩
              go_wp2_with (at_builtin; refine wpList_append_own _ rfl _ _ 62 rfl w2.heap.size 21 i0 (.int .i32 0) 1 4 Tryd.underlying62 hi hz0 hz1 hz2 rfl (by decide) _ _ _ rfl (hown3.alloc _) ⟨wr.heap.size, 0, none⟩ 1 1 [.int .i32 (12444)] rfl rfl (cell_one_new _ _ _) (by intro u hu; simp at hu; subst hu; rfl) (by unfold maxLen; omega) (by omega) (by have := hbw3.size; simp; omega) ?_)
              intro v' w5 ho5 hg5 _
              have hbw5 := below_append hbw3 _ hown3 hg5
              have HO5 : Hid (w5.ownsRow w2.heap.size 21 1 v' (acc ++ [12444]).length (runeCellsOf (acc ++ [12444]))) := by show World.ownsRow _ _ _ _ _ _ _; rw [List.length_append, runeCellsOf_append]; exact ho5
              clear hg5 ho5 hown3 hbw3
              go_wp2_with fail
              go_roundw
              case rel => exact ⟨k + 1, acc ++ [12444], by rw [HN.out]; omega, by go_num, by rw [HACC.out, HF.out]; simp, by simp; omega, HO5.out, hbw5⟩
              case measure => simp [intOf]; omega
            · have q2 : ((c0 : Int) == 65439) = false := by simp; omega
              have HM : Hid (markC c0 = c0) := by show _ = _; unfold markC; rw [if_neg h1, if_neg h2]
              clear hc hsing hin hbet e0 hrr hown hbw h1 h2
              rw [HM.out] at HF
              go_wp2_with fail
              refine (CB1.out _).mono ?_
              rintro e w3 ⟨rfl, rfl⟩
              go_wp2_with (at_builtin; refine wpList_append_own _ rfl _ _ 62 rfl w2.heap.size 21 i0 (.int .i32 0) 1 4 Tryd.underlying62 hi hz0 hz1 hz2 rfl (by decide) _ _ _ rfl (hown3.alloc _) ⟨wr.heap.size, 0, none⟩ 1 1 [.int .i32 (c0 : Int)] rfl rfl (cell_one_new _ _ _) (by intro u hu; simp at hu; subst hu; rfl) (by unfold maxLen; omega) (by omega) (by have := hbw3.size; simp; omega) ?_)
              intro v' w5 ho5 hg5 _
              have hbw5 := below_append hbw3 _ hown3 hg5
              have HO5 : Hid (w5.ownsRow w2.heap.size 21 1 v' (acc ++ [c0]).length (runeCellsOf (acc ++ [c0]))) := by show World.ownsRow _ _ _ _ _ _ _; rw [List.length_append, runeCellsOf_append]; exact ho5
              clear hg5 ho5 hown3 hbw3
              go_wp2_with fail
              go_roundw
              case rel => exact ⟨k + 1, acc ++ [c0], by rw [HN.out]; omega, by go_num, by rw [HACC.out, HF.out]; simp, by simp; omega, HO5.out, hbw5⟩
              case measure => simp [intOf]; omega
      · have HK : Hid (k = rs.length) := by show _ = _; rw [HN.out]; omega
        have HAC : Hid (fullC rs = acc) := by
          show _ = _
          have := HACC.out
          rw [HK.out, List.drop_length] at this
          simpa [fullC] using this
        obtain ⟨A3, c3, rfl, _, _, hl3⟩ := own_lies hown
        have CX := Lib.hid (CT.out A3 c3 acc _ wr _ rfl hl3 (Nat.le_refl _) (by rw [← HAC.out]; exact keeps_full rs HRN.out) (by omega))
        generalize acc.length = q at *
        clear hown hl3
        go_wp2_with fail
        refine CX.out.mono ?_
        rintro e w3 ⟨rfl, hb3⟩
        go_wp2_with fail
        go_ret
        exact ⟨by rw [HX.out, HAC.out]; rfl, qtrans hbb (qtrans hbw hb3)⟩
end Go.Proofs.YthhiillmodacmaaDoor
