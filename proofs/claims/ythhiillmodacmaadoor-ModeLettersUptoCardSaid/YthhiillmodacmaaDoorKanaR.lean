/- What henkanref02.Hira, Kata, Wide and Narrow compute. -/
import Derived.Test.YthhiillmodacmaaDoorRef4
import Derived.Test.YthhiillmodacmaaDoorKana1
import Derived.Test.YthhiillmodacmaaDoorKanaS
import Derived.Outline
namespace Go.Proofs.YthhiillmodacmaaDoor
open Go.RowKit Go.Lib Go.Shelf Hk
set_option linter.unusedSimpArgs false
set_option linter.unusedVariables false
set_option maxRecDepth 100000

/-- The first k are changed. -/
def mixL (f : Nat → Nat) (rs : List Nat) (k : Nat) : List Nat := (rs.take k).map f ++ rs.drop k
theorem mix_len (f : Nat → Nat) (rs : List Nat) (k : Nat) : (mixL f rs k).length = rs.length := by
  unfold mixL
  rw [List.length_append, List.length_map, List.length_take, List.length_drop]
  omega
theorem mix_at (f : Nat → Nat) (rs : List Nat) (k r : Nat) (h : rs[k]? = some r) : (mixL f rs k)[k]? = some r := by
  obtain ⟨hlt, e⟩ := List.getElem?_eq_some_iff.1 h
  unfold mixL
  rw [List.getElem?_append_right (by rw [List.length_map, List.length_take]; omega), List.length_map, List.length_take, Nat.min_eq_left (by omega), Nat.sub_self]
  rw [List.getElem?_drop]
  exact h
theorem mix_set (f : Nat → Nat) (rs : List Nat) (k r : Nat) (h : rs[k]? = some r) : (mixL f rs k).set k (f r) = mixL f rs (k + 1) := by
  obtain ⟨hlt, e⟩ := List.getElem?_eq_some_iff.1 h
  unfold mixL
  rw [List.set_append_right _ _ (by rw [List.length_map, List.length_take]; omega), List.length_map, List.length_take, Nat.min_eq_left (by omega), Nat.sub_self, List.drop_eq_getElem_cons hlt, List.set_cons_zero, List.take_succ_eq_append_getElem hlt, e, List.map_append]
  simp
theorem mix_same (f : Nat → Nat) (rs : List Nat) (k r : Nat) (h : rs[k]? = some r) (hf : f r = r) : mixL f rs (k + 1) = mixL f rs k := by
  rw [← mix_set f rs k r h, hf]
  obtain ⟨hlt, e⟩ := List.getElem?_eq_some_iff.1 (mix_at f rs k r h)
  have := List.set_getElem_self hlt
  rw [e] at this
  exact this
theorem mix_zero (f : Nat → Nat) (rs : List Nat) : mixL f rs 0 = rs := by simp [mixL]
theorem mix_all (f : Nat → Nat) (rs : List Nat) (k : Nat) (h : rs.length ≤ k) : mixL f rs k = rs.map f := by
  unfold mixL
  rw [List.take_of_length_le h, List.drop_of_length_le h, List.append_nil]
theorem cells_set (l : List Nat) (k r : Nat) : (runeCellsOf l).set k (.int .i32 (r : Int)) = runeCellsOf (l.set k r) := by
  unfold runeCellsOf
  rw [List.map_set]

/-- The loop over the characters, each changed in its place. -/
def MixAt (w : World) (f : Nat → Nat) (rs : List Nat) (A : Option Addr) (n c : Nat) (i : Value) (wr : World) : Prop :=
  ∃ k : Nat, k ≤ n ∧ i = .int .i64 (k : Int) ∧ wr.ownsRow w.heap.size 21 1 (.slice A n c) n (runeCellsOf (mixL f rs k)) ∧ Below w.heap.size w wr

/-- A place of a row of the call's own that is written. -/
theorem mix_step {w wr : World} {f : Nat → Nat} {rs : List Nat} {A : Option Addr} {n c k r : Nat} (hn : rs.length = n) (hk : k < n) (hr : rs[k]? = some r) (ho : wr.ownsRow w.heap.size 21 1 (.slice A n c) n (runeCellsOf (mixL f rs k))) (hb : Below w.heap.size w wr) :
    ∃ g, A = some ⟨g, 0, none⟩ ∧ w.heap.size ≤ g ∧ wr.cell? ⟨g, k, none⟩ = some (.int .i32 (r : Int)) ∧ wr.frozen? ⟨g, k, none⟩ = false ∧
      (wr.setCell ⟨g, k, none⟩ (.int .i32 (f r : Int))).ownsRow w.heap.size 21 1 (.slice A n c) n (runeCellsOf (mixL f rs (k + 1))) ∧ Below w.heap.size w (wr.setCell ⟨g, k, none⟩ (.int .i32 (f r : Int))) ∧
      (f r = r → wr.ownsRow w.heap.size 21 1 (.slice A n c) n (runeCellsOf (mixL f rs (k + 1)))) := by
  obtain ⟨g, cp, hv, hge, _⟩ := ho.form (by omega)
  obtain ⟨rfl, rfl⟩ : A = some ⟨g, 0, none⟩ ∧ cp = c := by injection hv with e1 e2 e3; exact ⟨e1, e3.symm⟩
  refine ⟨g, rfl, hge, ?_, ho.frozenAt k, ?_, hb.setCell (p := ⟨g, k, none⟩) hge _, fun hf => by rw [mix_same f rs k r hr hf]; exact ho⟩
  · rw [ho.cellAt k (by omega)]
    unfold runeCellsOf
    rw [List.getElem?_map, mix_at f rs k r hr]; rfl
  · have := (ho.stored k (.int .i32 (f r : Int))).1
    rw [cells_set, mix_set f rs k r hr] at this
    exact this

theorem refKataC_calls (r : Nat) (w : World) (hr : r ≤ 1114111) : Calls Tryd.prog 56 #[.int .i32 (r : Int)] w fun e w' => e = .returned (.int .i32 (kataC r : Int)) ∧ w = w' := by
  have CC := Lib.hid refClass_calls
  have q := class_hira r
  by_cases h1 : 12353 ≤ r ∧ r ≤ 12438
  · have HX : Hid (kataC r = r + 96) := by show _ = _; unfold kataC; rw [if_pos h1]
    rw [decide_eq_true h1] at q
    obtain ⟨l1, l2⟩ := h1
    go_enter Tryd.func56, Tryd.ntmps56
    go_wp2_with fail
    refine (CC.out _ _).mono ?_
    rintro e w1 ⟨rfl, rfl⟩
    go_wp2_with fail
    go_ret
    exact ⟨by rw [HX.out]; exact ret_i32 (by omega), rfl⟩
  · have HX : Hid (kataC r = r) := by show _ = _; unfold kataC; rw [if_neg h1]
    rw [decide_eq_false h1] at q
    clear h1
    go_enter Tryd.func56, Tryd.ntmps56
    go_wp2_with fail
    refine (CC.out _ _).mono ?_
    rintro e w1 ⟨rfl, rfl⟩
    go_wp2_with fail
    go_ret
    exact ⟨by rw [HX.out]; rfl, rfl⟩

set_option maxHeartbeats 4000000 in
theorem refHira_calls (s : ByteArray) (w : World) (hs : s.size ≤ 16777216) : Calls Tryd.prog 40 #[.string s] w fun e w' => e = .returned (.string (hiraS s)) ∧ Below w.heap.size w w' := by
  have CR := Lib.hid (runes_calls s w (by omega))
  have CB := Lib.hid between_calls
  have CK := Lib.hid refKataC_calls
  have CT := Lib.hid refText_calls
  go_enter Tryd.func40, Tryd.ntmps40
  go_wp2_with fail
  refine CR.out.mono ?_
  rintro e w1 ⟨hb1, ⟨hD, rfl⟩ | ⟨rs, v, hD, rfl, ho⟩⟩
  · have HX : Hid (hiraS s = s) := strB_none hD
    clear hD
    go_wp2_with fail
    go_ret
    exact ⟨by rw [HX.out]; rfl, hb1⟩
  · have HX : Hid (hiraS s = bstr (encT (rs.map hiraC))) := strB_some hD
    have HRN := Lib.hid (runesD_are hD)
    have hl : rs.length ≤ s.size := by have := runesD_length _ _ _ (Nat.le_refl _) hD; simpa using this
    obtain ⟨A, c, rfl, hnc, hcm⟩ := own_slice ho
    obtain ⟨n, hn⟩ : ∃ n, rs.length = n := ⟨_, rfl⟩
    have HN := Lib.hid hn
    rw [hn] at hl hnc ho ⊢
    clear hD hn
    go_wp2_with fail
    go_loopw [5] (fun i wr => MixAt w hiraC rs A n c i wr) (fun i _ => n - (intOf i).toNat)
    case atStart => exact ⟨0, Nat.zero_le _, rfl, by rw [mix_zero]; exact ho, hb1⟩
    case round =>
      obtain ⟨k, hk, rfl, hown, hbw⟩ := hrel
      by_cases hlt : k < n
      · obtain ⟨r, hr⟩ : ∃ r, rs[k]? = some r := ⟨_, List.getElem?_eq_getElem (by rw [HN.out]; exact hlt)⟩
        obtain ⟨g, rfl, hge, d0, f0, ho2, hb2, hsame⟩ := mix_step HN.out hlt hr hown hbw
        have hrr := HRN.out r (List.mem_of_getElem? hr)
        have hr11 : r ≤ 1114111 := by unfold isRune at hrr; omega
        clear hr hown hrr ho
        by_cases h1 : 12449 ≤ r ∧ r ≤ 12534
        · have hq : betB (r : Int) 12449 12534 = true := (betB_iff _ _ _).2 (by omega)
          have hv : (hiraC r : Int) = (r : Int) - 96 := by unfold hiraC; rw [if_pos h1]; omega
          rw [hv] at ho2 hb2
          obtain ⟨l1, l2⟩ := h1
          have HO2 := Lib.hid ho2
          clear ho2 hsame hv 
          go_wp2_with fail
          refine (CB.out _ _ _ _).mono ?_
          rintro e w2 ⟨rfl, rfl⟩
          go_wp2_with fail
          go_roundw
          case rel => exact ⟨k + 1, by omega, by go_num, HO2.out, hb2⟩
          case measure => simp [intOf]; omega
        · have hq : betB (r : Int) 12449 12534 = false := (betB_not _ _ _).2 (by omega)
          have HO2 := Lib.hid (hsame (by show _ = _; unfold hiraC; rw [if_neg h1]))
          clear ho2 hb2 hsame h1
          go_wp2_with fail
          refine (CB.out _ _ _ _).mono ?_
          rintro e w2 ⟨rfl, rfl⟩
          go_wp2_with fail
          go_roundw
          case rel => exact ⟨k + 1, by omega, by go_num, HO2.out, hbw⟩
          case measure => simp [intOf]; omega
      · have HT : Hid (mixL hiraC rs k = rs.map hiraC) := mix_all _ _ _ (by rw [HN.out]; omega)
        rw [HT.out] at hown
        obtain ⟨_, _, he, _, _, hlies⟩ := own_lies hown
        injection he with e1 e2 e3
        subst e1 e3
        have CX := Lib.hid (CT.out A c (rs.map hiraC) n wr _ (by rw [List.length_map]; exact HN.out) hlies (Nat.le_refl _) (keeps_hira rs HRN.out) (by omega))
        clear hown hlies HT ho
        go_wp2_with fail
        refine CX.out.mono ?_
        rintro e w3 ⟨rfl, hb3⟩
        go_wp2_with fail
        go_ret
        exact ⟨by rw [HX.out]; rfl, qtrans hbw hb3⟩

set_option maxHeartbeats 4000000 in
theorem refKata_calls (s : ByteArray) (w : World) (hs : s.size ≤ 16777216) : Calls Tryd.prog 37 #[.string s] w fun e w' => e = .returned (.string (kataS s)) ∧ Below w.heap.size w w' := by
  have CR := Lib.hid (runes_calls s w (by omega))
  have CB := Lib.hid between_calls
  have CK := Lib.hid refKataC_calls
  have CT := Lib.hid refText_calls
  go_enter Tryd.func37, Tryd.ntmps37
  go_wp2_with fail
  refine CR.out.mono ?_
  rintro e w1 ⟨hb1, ⟨hD, rfl⟩ | ⟨rs, v, hD, rfl, ho⟩⟩
  · have HX : Hid (kataS s = s) := strB_none hD
    clear hD
    go_wp2_with fail
    go_ret
    exact ⟨by rw [HX.out]; rfl, hb1⟩
  · have HX : Hid (kataS s = bstr (encT (rs.map kataC))) := strB_some hD
    have HRN := Lib.hid (runesD_are hD)
    have hl : rs.length ≤ s.size := by have := runesD_length _ _ _ (Nat.le_refl _) hD; simpa using this
    obtain ⟨A, c, rfl, hnc, hcm⟩ := own_slice ho
    obtain ⟨n, hn⟩ : ∃ n, rs.length = n := ⟨_, rfl⟩
    have HN := Lib.hid hn
    rw [hn] at hl hnc ho ⊢
    clear hD hn
    go_wp2_with fail
    go_loopw [5] (fun i wr => MixAt w kataC rs A n c i wr) (fun i _ => n - (intOf i).toNat)
    case atStart => exact ⟨0, Nat.zero_le _, rfl, by rw [mix_zero]; exact ho, hb1⟩
    case round =>
      obtain ⟨k, hk, rfl, hown, hbw⟩ := hrel
      by_cases hlt : k < n
      · obtain ⟨r, hr⟩ : ∃ r, rs[k]? = some r := ⟨_, List.getElem?_eq_getElem (by rw [HN.out]; exact hlt)⟩
        obtain ⟨g, rfl, hge, d0, f0, ho2, hb2, hsame⟩ := mix_step HN.out hlt hr hown hbw
        have hrr := HRN.out r (List.mem_of_getElem? hr)
        have hr11 : r ≤ 1114111 := by unfold isRune at hrr; omega
        clear hr hown hrr ho
        have HO2 := Lib.hid ho2
        clear ho2 hsame
        go_wp2_with fail
        refine (CK.out r _ hr11).mono ?_
        rintro e w2 ⟨rfl, rfl⟩
        go_wp2_with fail
        go_roundw
        case rel => exact ⟨k + 1, by omega, by go_num, HO2.out, hb2⟩
        case measure => simp [intOf]; omega
      · have HT : Hid (mixL kataC rs k = rs.map kataC) := mix_all _ _ _ (by rw [HN.out]; omega)
        rw [HT.out] at hown
        obtain ⟨_, _, he, _, _, hlies⟩ := own_lies hown
        injection he with e1 e2 e3
        subst e1 e3
        have CX := Lib.hid (CT.out A c (rs.map kataC) n wr _ (by rw [List.length_map]; exact HN.out) hlies (Nat.le_refl _) (keeps_kata rs HRN.out) (by omega))
        clear hown hlies HT ho
        go_wp2_with fail
        refine CX.out.mono ?_
        rintro e w3 ⟨rfl, hb3⟩
        go_wp2_with fail
        go_ret
        exact ⟨by rw [HX.out]; rfl, qtrans hbw hb3⟩

set_option maxHeartbeats 4000000 in
theorem refWide_calls (s : ByteArray) (w : World) (hs : s.size ≤ 16777216) : Calls Tryd.prog 39 #[.string s] w fun e w' => e = .returned (.string (wideS s)) ∧ Below w.heap.size w w' := by
  have CR := Lib.hid (runes_calls s w (by omega))
  have CB := Lib.hid between_calls
  have CK := Lib.hid refKataC_calls
  have CT := Lib.hid refText_calls
  go_enter Tryd.func39, Tryd.ntmps39
  go_wp2_with fail
  refine CR.out.mono ?_
  rintro e w1 ⟨hb1, ⟨hD, rfl⟩ | ⟨rs, v, hD, rfl, ho⟩⟩
  · have HX : Hid (wideS s = s) := strB_none hD
    clear hD
    go_wp2_with fail
    go_ret
    exact ⟨by rw [HX.out]; rfl, hb1⟩
  · have HX : Hid (wideS s = bstr (encT (rs.map wideC))) := strB_some hD
    have HRN := Lib.hid (runesD_are hD)
    have hl : rs.length ≤ s.size := by have := runesD_length _ _ _ (Nat.le_refl _) hD; simpa using this
    obtain ⟨A, c, rfl, hnc, hcm⟩ := own_slice ho
    obtain ⟨n, hn⟩ : ∃ n, rs.length = n := ⟨_, rfl⟩
    have HN := Lib.hid hn
    rw [hn] at hl hnc ho ⊢
    clear hD hn
    go_wp2_with fail
    go_loopw [5] (fun i wr => MixAt w wideC rs A n c i wr) (fun i _ => n - (intOf i).toNat)
    case atStart => exact ⟨0, Nat.zero_le _, rfl, by rw [mix_zero]; exact ho, hb1⟩
    case round =>
      obtain ⟨k, hk, rfl, hown, hbw⟩ := hrel
      by_cases hlt : k < n
      · obtain ⟨r, hr⟩ : ∃ r, rs[k]? = some r := ⟨_, List.getElem?_eq_getElem (by rw [HN.out]; exact hlt)⟩
        obtain ⟨g, rfl, hge, d0, f0, ho2, hb2, hsame⟩ := mix_step HN.out hlt hr hown hbw
        have hrr := HRN.out r (List.mem_of_getElem? hr)
        have hr11 : r ≤ 1114111 := by unfold isRune at hrr; omega
        clear hr hown hrr ho
        by_cases h0 : r = 32
        · have hq0 : ((r : Int) == 32) = true := by simp; omega
          have hv : (wideC r : Int) = 12288 := by unfold wideC; rw [if_pos h0]; rfl
          rw [hv] at ho2 hb2
          have HO2 := Lib.hid ho2
          clear ho2 hsame hv h0
          go_wp2_with fail
          skip
          go_roundw
          case rel => exact ⟨k + 1, by omega, by go_num, HO2.out, hb2⟩
          case measure => simp [intOf]; omega
        · have hq0 : ((r : Int) == 32) = false := by simp; omega
          by_cases h1 : 33 ≤ r ∧ r ≤ 126
          · have hq : betB (r : Int) 33 126 = true := (betB_iff _ _ _).2 (by omega)
            have hv : (wideC r : Int) = (r : Int) + 65248 := by unfold wideC; rw [if_neg h0, if_pos h1]; omega
            rw [hv] at ho2 hb2
            obtain ⟨l1, l2⟩ := h1
            have HO2 := Lib.hid ho2
            clear ho2 hsame hv h0
            go_wp2_with fail
            refine (CB.out _ _ _ _).mono ?_
            rintro e w2 ⟨rfl, rfl⟩
            go_wp2_with fail
            go_roundw
            case rel => exact ⟨k + 1, by omega, by go_num, HO2.out, hb2⟩
            case measure => simp [intOf]; omega
          · have hq : betB (r : Int) 33 126 = false := (betB_not _ _ _).2 (by omega)
            have HO2 := Lib.hid (hsame (by show _ = _; unfold wideC; rw [if_neg h0, if_neg h1]))
            clear ho2 hb2 hsame h1 h0
            go_wp2_with fail
            refine (CB.out _ _ _ _).mono ?_
            rintro e w2 ⟨rfl, rfl⟩
            go_wp2_with fail
            go_roundw
            case rel => exact ⟨k + 1, by omega, by go_num, HO2.out, hbw⟩
            case measure => simp [intOf]; omega
      · have HT : Hid (mixL wideC rs k = rs.map wideC) := mix_all _ _ _ (by rw [HN.out]; omega)
        rw [HT.out] at hown
        obtain ⟨_, _, he, _, _, hlies⟩ := own_lies hown
        injection he with e1 e2 e3
        subst e1 e3
        have CX := Lib.hid (CT.out A c (rs.map wideC) n wr _ (by rw [List.length_map]; exact HN.out) hlies (Nat.le_refl _) (keeps_wide rs HRN.out) (by omega))
        clear hown hlies HT ho
        go_wp2_with fail
        refine CX.out.mono ?_
        rintro e w3 ⟨rfl, hb3⟩
        go_wp2_with fail
        go_ret
        exact ⟨by rw [HX.out]; rfl, qtrans hbw hb3⟩

set_option maxHeartbeats 4000000 in
theorem refNarrow_calls (s : ByteArray) (w : World) (hs : s.size ≤ 16777216) : Calls Tryd.prog 42 #[.string s] w fun e w' => e = .returned (.string (narrowS s)) ∧ Below w.heap.size w w' := by
  have CR := Lib.hid (runes_calls s w (by omega))
  have CB := Lib.hid between_calls
  have CK := Lib.hid refKataC_calls
  have CT := Lib.hid refText_calls
  go_enter Tryd.func42, Tryd.ntmps42
  go_wp2_with fail
  refine CR.out.mono ?_
  rintro e w1 ⟨hb1, ⟨hD, rfl⟩ | ⟨rs, v, hD, rfl, ho⟩⟩
  · have HX : Hid (narrowS s = s) := strB_none hD
    clear hD
    go_wp2_with fail
    go_ret
    exact ⟨by rw [HX.out]; rfl, hb1⟩
  · have HX : Hid (narrowS s = bstr (encT (rs.map narrowC))) := strB_some hD
    have HRN := Lib.hid (runesD_are hD)
    have hl : rs.length ≤ s.size := by have := runesD_length _ _ _ (Nat.le_refl _) hD; simpa using this
    obtain ⟨A, c, rfl, hnc, hcm⟩ := own_slice ho
    obtain ⟨n, hn⟩ : ∃ n, rs.length = n := ⟨_, rfl⟩
    have HN := Lib.hid hn
    rw [hn] at hl hnc ho ⊢
    clear hD hn
    go_wp2_with fail
    go_loopw [5] (fun i wr => MixAt w narrowC rs A n c i wr) (fun i _ => n - (intOf i).toNat)
    case atStart => exact ⟨0, Nat.zero_le _, rfl, by rw [mix_zero]; exact ho, hb1⟩
    case round =>
      obtain ⟨k, hk, rfl, hown, hbw⟩ := hrel
      by_cases hlt : k < n
      · obtain ⟨r, hr⟩ : ∃ r, rs[k]? = some r := ⟨_, List.getElem?_eq_getElem (by rw [HN.out]; exact hlt)⟩
        obtain ⟨g, rfl, hge, d0, f0, ho2, hb2, hsame⟩ := mix_step HN.out hlt hr hown hbw
        have hrr := HRN.out r (List.mem_of_getElem? hr)
        have hr11 : r ≤ 1114111 := by unfold isRune at hrr; omega
        clear hr hown hrr ho
        by_cases h0 : r = 12288
        · have hq0 : ((r : Int) == 12288) = true := by simp; omega
          have hv : (narrowC r : Int) = 32 := by unfold narrowC; rw [if_pos h0]; rfl
          rw [hv] at ho2 hb2
          have HO2 := Lib.hid ho2
          clear ho2 hsame hv h0
          go_wp2_with fail
          skip
          go_roundw
          case rel => exact ⟨k + 1, by omega, by go_num, HO2.out, hb2⟩
          case measure => simp [intOf]; omega
        · have hq0 : ((r : Int) == 12288) = false := by simp; omega
          by_cases h1 : 65281 ≤ r ∧ r ≤ 65374
          · have hq : betB (r : Int) 65281 65374 = true := (betB_iff _ _ _).2 (by omega)
            have hv : (narrowC r : Int) = (r : Int) - 65248 := by unfold narrowC; rw [if_neg h0, if_pos h1]; omega
            rw [hv] at ho2 hb2
            obtain ⟨l1, l2⟩ := h1
            have HO2 := Lib.hid ho2
            clear ho2 hsame hv h0
            go_wp2_with fail
            refine (CB.out _ _ _ _).mono ?_
            rintro e w2 ⟨rfl, rfl⟩
            go_wp2_with fail
            go_roundw
            case rel => exact ⟨k + 1, by omega, by go_num, HO2.out, hb2⟩
            case measure => simp [intOf]; omega
          · have hq : betB (r : Int) 65281 65374 = false := (betB_not _ _ _).2 (by omega)
            have HO2 := Lib.hid (hsame (by show _ = _; unfold narrowC; rw [if_neg h0, if_neg h1]))
            clear ho2 hb2 hsame h1 h0
            go_wp2_with fail
            refine (CB.out _ _ _ _).mono ?_
            rintro e w2 ⟨rfl, rfl⟩
            go_wp2_with fail
            go_roundw
            case rel => exact ⟨k + 1, by omega, by go_num, HO2.out, hbw⟩
            case measure => simp [intOf]; omega
      · have HT : Hid (mixL narrowC rs k = rs.map narrowC) := mix_all _ _ _ (by rw [HN.out]; omega)
        rw [HT.out] at hown
        obtain ⟨_, _, he, _, _, hlies⟩ := own_lies hown
        injection he with e1 e2 e3
        subst e1 e3
        have CX := Lib.hid (CT.out A c (rs.map narrowC) n wr _ (by rw [List.length_map]; exact HN.out) hlies (Nat.le_refl _) (keeps_narrow rs HRN.out) (by omega))
        clear hown hlies HT ho
        go_wp2_with fail
        refine CX.out.mono ?_
        rintro e w3 ⟨rfl, hb3⟩
        go_wp2_with fail
        go_ret
        exact ⟨by rw [HX.out]; rfl, qtrans hbw hb3⟩
end Go.Proofs.YthhiillmodacmaaDoor
