/- What kana.Half computes. -/
import Derived.Test.YthhiillmodacmaaDoorBld
namespace Go.Proofs.YthhiillmodacmaaDoor
open Go.RowKit Go.Lib Go.Shelf Hk Go.Maps
set_option linter.unusedSimpArgs false
set_option linter.unusedVariables false
set_option maxRecDepth 100000

/-- The loop of Half: k characters are behind it. -/
def HalfAt (w w2 : World) (s : ByteArray) (rs : List Nat) (m : Nat) (wr : World) : Prop :=
  ∃ k : Nat, k ≤ rs.length ∧ wr.heap[w2.heap.size + 1]? = some (.stringIter s (encT (rs.take k)).length) ∧ Bld w2.heap.size ((rs.take k).flatMap halfC) wr ∧ MapIs wr 21 9 m 87 (mapF formsL) ∧ Below w2.heap.size w2 wr
theorem half_snoc (rs : List Nat) (k r : Nat) (h : rs[k]? = some r) : (rs.take (k + 1)).flatMap halfC = (rs.take k).flatMap halfC ++ halfC r := by
  obtain ⟨hlt, e⟩ := List.getElem?_eq_some_iff.1 h
  rw [List.take_succ_eq_append_getElem hlt, e, List.flatMap_append, List.flatMap_cons, List.flatMap_nil, List.append_nil]

set_option maxHeartbeats 4000000 in
theorem half_calls (s : ByteArray) (w : World) (hs : s.size ≤ 16777216) (he : Env w) : Calls Tryd.prog 27 #[.string s] w fun e w' => e = .returned (.string (halfS s)) ∧ Below w.heap.size w w' := by
  have CV := Lib.hid (utfValid_calls s w (by omega) he)
  have CF := Lib.hid forms_calls
  have CK := Lib.hid katakana_calls
  clear he
  cases hr : runesD s.data.toList with
  | none =>
    have HX : Hid (halfS s = s) := strB_none hr
    rw [validD_eq, hr] at CV
    simp only [Option.isSome_none] at CV
    clear hr
    go_enter Tryd.func27, Tryd.ntmps27
    go_wp2_with fail
    refine CV.out.mono ?_
    rintro e w1 ⟨rfl, hb1⟩
    go_wp2_with fail
    go_ret
    exact ⟨by rw [HX.out]; rfl, hb1⟩
  | some rs =>
    have HX : Hid (halfS s = bstr (encT (rs.flatMap halfC))) := strB_some hr
    have HS : Hid (s = bstr (encT rs)) := by show _ = _; rw [← enc_of hr, bstr_eta]
    have hrn := Lib.hid (runesD_are hr)
    have hl : rs.length ≤ s.size := by have := runesD_length _ _ _ (Nat.le_refl _) hr; simpa using this
    rw [validD_eq, hr] at CV
    simp only [Option.isSome_some] at CV
    clear hr
    go_enter Tryd.func27, Tryd.ntmps27
    go_wp2_with fail
    refine CV.out.mono ?_
    rintro e w1 ⟨rfl, hb1⟩
    go_wp2_with fail
    refine (CF.out _).mono ?_
    rintro e w2 ⟨rfl, hM2, hb2⟩
    have hmlt := hM2.lt
    have HM2 := Lib.hid hM2
    have hb02 := qtrans hb1 hb2
    clear hM2 hb2
    go_wp2_with fail
    go_loopw [] (fun wr => HalfAt w w2 s rs w1.heap.size wr) (fun wr => s.size - wr.iterPos (w2.heap.size + 1))
    case atStart =>
      have h0 := World.iter_heap (w2.alloc (.cells #[.pointer none, .slice none 0 0] 54)) s 0
      simp only [World.size_alloc] at h0
      have hbx : Below w2.heap.size w2 ((w2.alloc (.cells #[.pointer none, .slice none 0 0] 54)).alloc (.stringIter s 0)) := ((Below.refl _ _).alloc (Nat.le_refl _) _).alloc (by simp) _
      exact ⟨0, Nat.zero_le _, h0, (bld_new w2).alloc _, HM2.out.low hbx hmlt, hbx⟩
    case round =>
      obtain ⟨k, hk, hit, hI, hM, hbw⟩ := hrel
      have hsz := heap_lt hit
      have hlk : ((rs.take k).flatMap halfC).length ≤ 33554432 := Nat.le_trans (half_len _).2 (by rw [List.length_take]; omega)
      by_cases hlt : k < rs.length
      · obtain ⟨r, hr⟩ : ∃ r, rs[k]? = some r := ⟨_, List.getElem?_eq_getElem hlt⟩
        obtain ⟨a1, a2, a3⟩ := at_char rs hrn.out k r hr
        rw [← HS.out] at a1 a2
        have hrr : isRune r := hrn.out r (List.mem_of_getElem? hr)
        have hrl := isRune_lt hrr
        have hr11 : r ≤ 1114111 := by unfold isRune at hrr; omega
        have hkr := isRune_lt (kata_rune hrr)
        have hl1 := (enc_len (r : Int)).1
        have HSN := Lib.hid (half_snoc rs k r hr)
        obtain ⟨pos, hpos⟩ : ∃ pos, (encT (rs.take k)).length = pos := ⟨_, rfl⟩
        rw [hpos] at hit a1 a2 a3
        obtain ⟨pos2, hpos2⟩ : ∃ pos2, (encT (rs.take (k + 1))).length = pos2 := ⟨_, rfl⟩
        rw [hpos2] at a3
        have HP2 := Lib.hid hpos2
        have hnx : ∀ ty, (Instr.next (.pointer (some ⟨w2.heap.size + 1, 0, none⟩)) true ty).run Tryd.prog wr = .ok (.tuple #[.bool true, .int .i64 pos, .int .i32 r]) (wr.iterAt (w2.heap.size + 1) s pos2) := fun ty => by
          have := Lib.run_next_any_at (P := Tryd.prog) wr (w2.heap.size + 1) s pos ty hit a1
          rw [a2] at this
          rw [a3]
          exact this
        have hM3 := mapIs_iterAt hM hit pos2
        have hit3 := Lib.iterAt_heap wr (w2.heap.size + 1) s pos pos2 hit
        have hI3 : Bld w2.heap.size ((rs.take k).flatMap halfC) (wr.iterAt (w2.heap.size + 1) s pos2) := Lib.IsBuilderF.iterAt hI hit pos2
        have hbw3 := Lib.below_iterAt hbw (k := w2.heap.size + 1) (by omega) s pos2
        have hsz3 : w2.heap.size ≤ (wr.iterAt (w2.heap.size + 1) s pos2).heap.size := by rw [Lib.iterAt_size]; omega
        have A1 := Lib.hid a1
        have A3 := Lib.hid a3
        have HIT := Lib.hid hit
        obtain ⟨acc, hacc⟩ : ∃ acc, (rs.take k).flatMap halfC = acc := ⟨_, rfl⟩
        rw [hacc] at HSN hI3 hlk
        have HIT3 := Lib.hid hit3
        have HM3 := Lib.hid hM3
        have HB3 := Lib.hid hbw3
        clear a1 a2 a3 hr hpos hpos2 hrr hit hM hbw hI hacc hit3 hM3 hbw3
        by_cases hz : halfK (kataC r) = []
        · have HH : Hid (halfC r = [r]) := by show _ = _; unfold halfC; rw [if_pos hz]
          have hlook := HM3.out.look_no (t := 50) law_i32 Tryd.underlying50 Tryd.underlying9 (zero_string _) (key_rune hkr) trivial (mapF_none hz)
          have CR := Lib.hid (bld_rune hI3 r hr11 hlk hsz3)
          clear hz hI3
          go_wp2_with fail
          refine (CK.out r _ hr11).mono ?_
          rintro e w4 ⟨rfl, rfl⟩
          go_wp2_with fail
          refine CR.out.mono ?_
          rintro e w4 ⟨rfl, hI4, hb4, hk4⟩
          have hit4 := hk4.iter HIT3.out (by omega)
          have hM4 := HM3.out.low hb4 hmlt
          have hbw4 := HB3.out.trans hb4
          rw [← HH.out] at hI4
          clear hnx hlook hk4 hb4 CR
          go_wp2_with fail
          go_roundw
          case rel => exact ⟨k + 1, by omega, by rw [HP2.out]; exact hit4, by rw [HSN.out]; exact hI4, hM4, hbw4⟩
          case measure =>
            rw [iterPos_of hit4, iterPos_of HIT.out, A3.out]
            have := A1.out
            omega
        · have HH : Hid (halfC r = halfK (kataC r)) := by show _ = _; unfold halfC; rw [if_neg hz]
          have hlook := HM3.out.look_yes (t := 50) law_i32 Tryd.underlying50 Tryd.underlying9 (zero_string _) (key_rune hkr) trivial (mapF_some hz)
          have hh2 := (halfC_len r).2
          rw [HH.out] at hh2
          have CR := Lib.hid (bld_string hI3 (halfK (kataC r)) (by omega) hlk hsz3)
          clear hz hI3 hh2
          go_wp2_with fail
          refine (CK.out r _ hr11).mono ?_
          rintro e w4 ⟨rfl, rfl⟩
          go_wp2_with fail
          refine CR.out.mono ?_
          rintro e w4 ⟨rfl, hI4, hb4, hk4⟩
          have hit4 := hk4.iter HIT3.out (by omega)
          have hM4 := HM3.out.low hb4 hmlt
          have hbw4 := HB3.out.trans hb4
          rw [← HH.out] at hI4
          clear hnx hlook hk4 hb4 CR
          go_wp2_with fail
          go_roundw
          case rel => exact ⟨k + 1, by omega, by rw [HP2.out]; exact hit4, by rw [HSN.out]; exact hI4, hM4, hbw4⟩
          case measure =>
            rw [iterPos_of hit4, iterPos_of HIT.out, A3.out]
            have := A1.out
            omega
      · have hke : k = rs.length := by omega
        have hnx : ∀ ty, (Instr.next (.pointer (some ⟨w2.heap.size + 1, 0, none⟩)) true ty).run Tryd.prog wr = .ok (.tuple #[.bool false]) wr := fun ty =>
          Lib.run_next_end_at (P := Tryd.prog) wr (w2.heap.size + 1) s _ ty hit (by rw [HS.out]; exact at_end rs k (by omega))
        have CD := Lib.hid (bld_done hI (by omega))
        have HT : Hid ((rs.take k).flatMap halfC = rs.flatMap halfC) := by show _ = _; rw [List.take_of_length_le (by omega)]
        have HB3 := Lib.hid hbw
        clear hit hI hM hbw hke hlk
        go_wp2_with fail
        refine CD.out.mono ?_
        rintro e w4 ⟨rfl, hb4⟩
        go_wp2_with fail
        go_ret
        exact ⟨by rw [HX.out, ← HT.out]; rfl, qtrans hb02 (HB3.out.trans hb4)⟩
end Go.Proofs.YthhiillmodacmaaDoor
