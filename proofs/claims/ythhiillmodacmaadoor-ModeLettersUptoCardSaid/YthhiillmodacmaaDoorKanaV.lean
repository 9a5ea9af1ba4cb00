/- What henkanref02.Half and Full compute. -/
import Derived.Test.YthhiillmodacmaaDoorKanaQ
import Derived.Test.YthhiillmodacmaaDoorKanaU
import Derived.Outline
namespace Go.Proofs.YthhiillmodacmaaDoor
open Go.RowKit Go.Lib Go.Shelf Hk
set_option linter.unusedSimpArgs false
set_option linter.unusedVariables false
set_option maxRecDepth 100000

theorem rune_one (l : List Nat) : ∀ u ∈ runeCellsOf l, u.oneCell' = true := by
  intro u hu
  obtain ⟨c, _, rfl⟩ := List.mem_map.1 hu
  rfl
theorem runeCellsOf_append (a b : List Nat) : runeCellsOf (a ++ b) = runeCellsOf a ++ runeCellsOf b := List.map_append
theorem halfR_len (c : Nat) : (halfR c).length ≤ 2 := by
  unfold halfR
  split
  · simp
  · rcases halfK_shape c with e | ⟨⟨a, e, _⟩ | ⟨a, m, e, _⟩, _⟩ <;> rw [e] <;> simp
theorem halfC_zero : halfC 0 = [0] := by decide +kernel
theorem halfC_nil {r : Nat} (h : halfR (kataC r) = []) : halfC r = [r] := by
  unfold halfR at h
  unfold halfC
  split at h
  · cases h
  · rw [if_pos h]
theorem halfC_some {r : Nat} (h : halfR (kataC r) ≠ []) (h0 : r ≠ 0) : halfC r = halfR (kataC r) := by
  have hk : kataC r ≠ 0 := by unfold kataC; split <;> omega
  unfold halfR at h ⊢
  rw [if_neg hk] at h ⊢
  unfold halfC
  rw [if_neg h]

/-- The loop of Half. -/
def RHalfAt (w1 : World) (rs : List Nat) (v i : Value) (wr : World) : Prop :=
  ∃ k : Nat, k ≤ rs.length ∧ i = .int .i64 (k : Int) ∧ wr.ownsRow w1.heap.size 21 1 v ((rs.take k).flatMap halfC).length (runeCellsOf ((rs.take k).flatMap halfC)) ∧ Below w1.heap.size w1 wr
theorem half_flat (rs : List Nat) (k r : Nat) (h : rs[k]? = some r) : (rs.take (k + 1)).flatMap halfC = (rs.take k).flatMap halfC ++ halfC r := by
  obtain ⟨hlt, e⟩ := List.getElem?_eq_some_iff.1 h
  rw [List.take_succ_eq_append_getElem hlt, e, List.flatMap_append, List.flatMap_cons, List.flatMap_nil, List.append_nil]

set_option maxHeartbeats 4000000 in
theorem refHalf_calls (s : ByteArray) (w : World) (hs : s.size ≤ 16777216) : Calls Tryd.prog 38 #[.string s] w fun e w' => e = .returned (.string (halfS s)) ∧ Below w.heap.size w w' := by
  obtain ⟨i0, hi, hz0, hz1, hz2⟩ := info_parts Tryd.info21
  have CR := Lib.hid (runes_calls s w (by omega))
  have CK := Lib.hid refKataC_calls
  have CH := Lib.hid refHalfC_calls
  have CT := Lib.hid refText_calls
  go_enter Tryd.func38, Tryd.ntmps38
  go_wp2_with fail
  refine CR.out.mono ?_
  rintro e w1 ⟨hb1, ⟨hD, rfl⟩ | ⟨rs, v, hD, rfl, ho⟩⟩
  · have HX : Hid (halfS s = s) := strB_none hD
    clear hD
    go_wp2_with fail
    go_ret
    exact ⟨by rw [HX.out]; rfl, hb1⟩
  · have HX : Hid (halfS s = bstr (encT (rs.flatMap halfC))) := strB_some hD
    have HRN := Lib.hid (runesD_are hD)
    have hl : rs.length ≤ s.size := by have := runesD_length _ _ _ (Nat.le_refl _) hD; simpa using this
    obtain ⟨A, c, rfl, hnc, hcm, hlies⟩ := own_lies ho
    have HL := Lib.hid hlies
    obtain ⟨n, hn⟩ : ∃ n, rs.length = n := ⟨_, rfl⟩
    have HN := Lib.hid hn
    rw [hn] at hl hnc HL ⊢
    clear hD hn hlies ho
    go_wp2_with fail
    go_loopw [5, 6] (fun v i wr => RHalfAt w1 rs v i wr) (fun _ i _ => n - (intOf i).toNat)
    case atStart => exact ⟨0, Nat.zero_le _, rfl, World.ownsRow_nil _ _ _ _, Below.refl _ _⟩
    case round =>
      obtain ⟨k, hk, rfl, hown, hbw⟩ := hrel
      rw [HN.out] at hk
      have hlk : ((rs.take k).flatMap halfC).length ≤ 33554432 := Nat.le_trans (half_len _).2 (by rw [List.length_take]; omega)
      by_cases hlt : k < n
      · obtain ⟨r, hr⟩ : ∃ r, rs[k]? = some r := ⟨_, List.getElem?_eq_getElem (by rw [HN.out]; exact hlt)⟩
        obtain ⟨b, off, rfl, hab, c0⟩ := rune_at HL.out hlt hr
        have hrr := HRN.out r (List.mem_of_getElem? hr)
        have hr11 : r ≤ 1114111 := by unfold isRune at hrr; omega
        have hk11 := kata_small r hr11
        have d0 := cell_later hbw c0
        have HT := Lib.hid (half_flat rs k r hr)
        obtain ⟨acc, hacc⟩ : ∃ acc, (rs.take k).flatMap halfC = acc := ⟨_, rfl⟩
        rw [hacc] at HT hown hlk
        have CH1 := Lib.hid (CH.out (kataC r) wr hk11)
        obtain ⟨l, hll⟩ : ∃ l, halfR (kataC r) = l := ⟨_, rfl⟩
        rw [hll] at CH1
        have hl2 := halfR_len (kataC r)
        rw [hll] at hl2
        have HLL := Lib.hid hll
        clear hr hrr c0 hacc hll
        obtain ⟨m, hm⟩ : ∃ m, l.length = m := ⟨_, rfl⟩
        have HM := Lib.hid hm
        have hm2 : m ≤ 2 := by omega
        by_cases hnil : m = 0
        · have HC : Hid (halfC r = [r]) := by show _ = _; exact halfC_nil (HLL.out.trans (List.length_eq_zero_iff.1 (hm.trans hnil)))
          have q1 : ((m : Int) == 0) = true := by simp; omega
          clear hnil hl2
          go_wp2_with fail
          refine (CK.out r _ hr11).mono ?_
          rintro e w2 ⟨rfl, rfl⟩
          go_wp2_with fail
          refine CH1.out.mono ?_
          rintro e w2 ⟨v2, rfl, ho2, hb2⟩
          obtain ⟨A2, c2, rfl, _, _, hl3⟩ := own_lies ho2
          have d2 := cell_later hb2 d0
          have hown2 := owns_below hown hb2
          have hbw2 := qtrans hbw hb2
          rw [hm] at hl3 ⊢
          clear ho2 hb2 d0 hown hbw hm
          have ho3 := own_row1 (w := w2) (base := w1.heap.size) r hbw2.size
          have hl4 : Lies (w2.alloc (.cells #[.int .i32 (r : Int)] 21)) (w2.heap.size + 1) 1 (some ⟨w2.heap.size, 0, none⟩) 1 (runeCellsOf [r]) := Lies.of_addr rfl (by omega) (by show w2.heap.size < _; omega) (cells_new w2 (runeCellsOf [r]) _)
          have hown3 := hown2.alloc (.cells #[.int .i32 (r : Int)] 21)
          have hbw3 := hbw2.alloc hbw2.size (.cells #[.int .i32 (r : Int)] 21)
          clear hown2 hbw2 ho3 hl3
          go_wp2_with (at_builtin; refine wpList_append_lies _ rfl (.tmp 43) (.tmp 44) 62 rfl w1.heap.size 21 i0 (.int .i32 0) 1 4 Tryd.underlying62 hi hz0 hz1 hz2 rfl (by omega) _ acc.length (runeCellsOf acc) rfl hown3 (w2.heap.size + 1) (some ⟨w2.heap.size, 0, none⟩) 1 1 (runeCellsOf [r]) rfl hl4 (rune_one _) (by unfold maxLen; omega) (by omega) hbw3.size ?_)
          intro v4 w4 ho4 hg4
          have hbw4 := hbw3.grown hg4 hbw3.size fun g e => (hown3.lt g e).1
          have HO4 : Hid (w4.ownsRow w1.heap.size 21 1 v4 (acc ++ halfC r).length (runeCellsOf (acc ++ halfC r))) := by show World.ownsRow _ _ _ _ _ _ _; rw [HC.out, List.length_append, runeCellsOf_append]; exact ho4
          clear ho4 hg4 hown3 hl4 hbw3 d2
          go_wp2_with fail
          go_roundw
          case rel => exact ⟨k + 1, by rw [HN.out]; omega, by go_num, by rw [HT.out]; exact HO4.out, hbw4⟩
          case measure => simp [intOf]; omega
        · have q1 : ((m : Int) == 0) = false := by simp; omega
          by_cases hr0 : r = 0
          · have HC : Hid (halfC r = [r]) := by show _ = _; rw [hr0]; exact halfC_zero
            have q2 : ((r : Int) == 0) = true := by simp; omega
            clear hr0 hnil hl2
            go_wp2_with fail
            refine (CK.out r _ hr11).mono ?_
            rintro e w2 ⟨rfl, rfl⟩
            go_wp2_with fail
            refine CH1.out.mono ?_
            rintro e w2 ⟨v2, rfl, ho2, hb2⟩
            obtain ⟨A2, c2, rfl, _, _, hl3⟩ := own_lies ho2
            have d2 := cell_later hb2 d0
            have hown2 := owns_below hown hb2
            have hbw2 := qtrans hbw hb2
            rw [hm] at hl3 ⊢
            clear ho2 hb2 d0 hown hbw hm
            have ho3 := own_row1 (w := w2) (base := w1.heap.size) r hbw2.size
            have hl4 : Lies (w2.alloc (.cells #[.int .i32 (r : Int)] 21)) (w2.heap.size + 1) 1 (some ⟨w2.heap.size, 0, none⟩) 1 (runeCellsOf [r]) := Lies.of_addr rfl (by omega) (by show w2.heap.size < _; omega) (cells_new w2 (runeCellsOf [r]) _)
            have hown3 := hown2.alloc (.cells #[.int .i32 (r : Int)] 21)
            have hbw3 := hbw2.alloc hbw2.size (.cells #[.int .i32 (r : Int)] 21)
            clear hown2 hbw2 ho3 hl3
            go_wp2_with (at_builtin; refine wpList_append_lies _ rfl (.tmp 43) (.tmp 44) 62 rfl w1.heap.size 21 i0 (.int .i32 0) 1 4 Tryd.underlying62 hi hz0 hz1 hz2 rfl (by omega) _ acc.length (runeCellsOf acc) rfl hown3 (w2.heap.size + 1) (some ⟨w2.heap.size, 0, none⟩) 1 1 (runeCellsOf [r]) rfl hl4 (rune_one _) (by unfold maxLen; omega) (by omega) hbw3.size ?_)
            intro v4 w4 ho4 hg4
            have hbw4 := hbw3.grown hg4 hbw3.size fun g e => (hown3.lt g e).1
            have HO4 : Hid (w4.ownsRow w1.heap.size 21 1 v4 (acc ++ halfC r).length (runeCellsOf (acc ++ halfC r))) := by show World.ownsRow _ _ _ _ _ _ _; rw [HC.out, List.length_append, runeCellsOf_append]; exact ho4
            clear ho4 hg4 hown3 hl4 hbw3 d2
            go_wp2_with fail
            go_roundw
            case rel => exact ⟨k + 1, by rw [HN.out]; omega, by go_num, by rw [HT.out]; exact HO4.out, hbw4⟩
            case measure => simp [intOf]; omega
          · have HC : Hid (halfC r = l) := by
              show _ = _
              rw [halfC_some (by rw [HLL.out]; intro e; rw [e] at hm; exact hnil hm.symm) hr0]; exact HLL.out
            have q2 : ((r : Int) == 0) = false := by simp; omega
            clear hr0 hnil hl2
            go_wp2_with fail
            refine (CK.out r _ hr11).mono ?_
            rintro e w2 ⟨rfl, rfl⟩
            go_wp2_with fail
            refine CH1.out.mono ?_
            rintro e w2 ⟨v2, rfl, ho2, hb2⟩
            obtain ⟨A2, c2, rfl, _, _, hl3⟩ := own_lies ho2
            have d2 := cell_later hb2 d0
            have hown2 := owns_below hown hb2
            have hbw2 := qtrans hbw hb2
            rw [hm] at hl3 ⊢
            clear ho2 hb2 d0 hown hbw hm
            go_wp2_with (at_builtin; refine wpList_append_lies _ rfl (.tmp 43) (.tmp 44) 62 rfl w1.heap.size 21 i0 (.int .i32 0) 1 4 Tryd.underlying62 hi hz0 hz1 hz2 rfl (by omega) _ acc.length (runeCellsOf acc) rfl hown2 w2.heap.size A2 m c2 (runeCellsOf l) rfl hl3 (rune_one _) (by unfold maxLen; omega) (by omega) hbw2.size ?_)
            intro v4 w4 ho4 hg4
            have hbw4 := hbw2.grown hg4 hbw2.size fun g e => (hown2.lt g e).1
            have HO4 : Hid (w4.ownsRow w1.heap.size 21 1 v4 (acc ++ halfC r).length (runeCellsOf (acc ++ halfC r))) := by show World.ownsRow _ _ _ _ _ _ _; rw [HC.out, List.length_append, HM.out, runeCellsOf_append]; exact ho4
            clear ho4 hg4 hown2 hl3 hbw2 d2
            go_wp2_with fail
            go_roundw
            case rel => exact ⟨k + 1, by rw [HN.out]; omega, by go_num, by rw [HT.out]; exact HO4.out, hbw4⟩
            case measure => simp [intOf]; omega
      · have HT : Hid ((rs.take k).flatMap halfC = rs.flatMap halfC) := by show _ = _; rw [List.take_of_length_le (by rw [HN.out]; omega)]
        rw [HT.out] at hown hlk
        obtain ⟨A2, c2, rfl, _, _, hl2⟩ := own_lies hown
        have CX := Lib.hid (CT.out A2 c2 (rs.flatMap halfC) _ wr _ rfl hl2 (Nat.le_refl _) (keeps_half rs HRN.out) hlk)
        generalize (rs.flatMap halfC).length = q at *
        clear hown hl2 HT
        go_wp2_with fail
        refine CX.out.mono ?_
        rintro e w3 ⟨rfl, hb3⟩
        go_wp2_with fail
        go_ret
        exact ⟨by rw [HX.out]; rfl, qtrans hb1 (qtrans hbw hb3)⟩
end Go.Proofs.YthhiillmodacmaaDoor
