/- What Parse of henkanref15 computes. -/
import Derived.Test.YtoihfmjnonanjaaDoorPosBB
import Derived.Deep.Onto
namespace Go.Proofs.YtoihfmjnonanjaaDoor
open Go.RowKit Go.Lib Go.Shelf Hk
set_option linter.unusedSimpArgs false
set_option linter.unusedVariables false
set_option maxRecDepth 100000
attribute [local go_sem] Oper.semAt_some

theorem glueL_mem {pre : List UInt8} {ls : List (List UInt8)} {n : Nat} (h : ∀ a ∈ ls, a.length ≤ n) {a : List UInt8} (ha : a ∈ glueL pre ls) : a.length ≤ pre.length + n := by
  cases ls with
  | nil =>
    rw [glueL, List.mem_singleton] at ha
    subst ha
    omega
  | cons b r =>
    rw [glueL, List.mem_cons] at ha
    rcases ha with rfl | ha
    · have := h b List.mem_cons_self
      rw [List.length_append]
      omega
    · have := h a (List.mem_cons_of_mem _ ha)
      omega
theorem linesL_each : ∀ (l a : List UInt8), a ∈ linesL l → a.length ≤ l.length
  | [], a, h => by
    rw [linesL, List.mem_singleton] at h
    subst h
    exact Nat.le_refl _
  | c :: t, a, h => by
    have ih := linesL_each t
    rw [linesL] at h
    split at h
    · rw [List.mem_cons] at h
      rcases h with rfl | h
      · exact Nat.zero_le _
      · have := ih a h
        rw [List.length_cons]; omega
    · have := glueL_mem (fun b hb => ih b hb) h
      simp at this ⊢
      omega
/-- What Parse of the reference returns. -/
def RParsePost (r : List P2 × Int × Int) (w : World) (e : Ending) (w' : World) : Prop :=
  ∃ v, e = .returned (.tuple #[v, .int .i64 r.2.1, .int .i64 r.2.2]) ∧ w'.ownsRow w.heap.size 86 2 v r.1.length (pcells r.1) ∧ Below w.heap.size w w'
/-- The lines up to i have been read. -/
def RpS (l : List UInt8) (i : Nat) (acc : List P2) : Prop := parseI [] (itemsL 0 (linesL l)) = parseI acc (itemsL i ((linesL l).drop i))
theorem RpS.start (l : List UInt8) : RpS l 0 [] := by unfold RpS; rw [List.drop_zero]
theorem rp_drop {l : List UInt8} {i : Nat} {x : List UInt8} (hx : (linesL l)[i]? = some x) : (linesL l).drop i = x :: (linesL l).drop (i + 1) := by
  obtain ⟨hlt, rfl⟩ := List.getElem?_eq_some_iff.1 hx
  exact List.drop_eq_getElem_cons hlt
theorem RpS.skip {l : List UInt8} {i : Nat} {acc : List P2} {x : List UInt8} (h : RpS l i acc) (hx : (linesL l)[i]? = some x) (hc : isComment x = true) : RpS l (i + 1) acc := by
  unfold RpS at h ⊢
  rw [h, rp_drop hx, itemsL, if_pos hc]
theorem RpS.err {l : List UInt8} {i : Nat} {acc : List P2} {x : List UInt8} {e : Int} (h : RpS l i acc) (hx : (linesL l)[i]? = some x) (hc : isComment x = false) (hs : stepL acc x = .error e) : parseI [] (itemsL 0 (linesL l)) = ([], ((i + 1 : Nat) : Int), e) := by
  unfold RpS at h
  rw [h, rp_drop hx, itemsL, if_neg (by simp [hc]), parseI_err hs]
theorem RpS.ok {l : List UInt8} {i : Nat} {acc acc' : List P2} {x : List UInt8} (h : RpS l i acc) (hx : (linesL l)[i]? = some x) (hc : isComment x = false) (hs : stepL acc x = .ok acc') : RpS l (i + 1) acc' := by
  unfold RpS at h ⊢
  rw [h, rp_drop hx, itemsL, if_neg (by simp [hc]), parseI_step hs]
theorem RpS.end {l : List UInt8} {i : Nat} {acc : List P2} (h : RpS l i acc) (hi : (linesL l).length ≤ i) : parseI [] (itemsL 0 (linesL l)) = if acc.length = 0 then ([], 0, 5) else (acc, 0, 0) := by
  unfold RpS at h
  rw [h, List.drop_of_length_le hi, itemsL, parseI]
theorem rparse_err {r : List P2 × Int × Int} {w w' : World} {n e : Int} (h : r = ([], n, e)) (hb : Below w.heap.size w w') : RParsePost r w (.returned (.tuple #[.slice none 0 0, .int .i64 n, .int .i64 e])) w' := by
  subst h
  exact ⟨_, rfl, World.ownsRow_nil _ _ _ _, hb⟩
def RpLo (l : List UInt8) (w : World) (n : Nat) (v a : Value) (wr : World) : Prop :=
  ∃ (i : Nat) (acc : List P2), i ≤ n ∧ acc.length ≤ 64 ∧ a = .int .i64 (i : Int) ∧ Hid (RpS l i acc) ∧ wr.ownsRow w.heap.size 86 2 v acc.length (pcells acc) ∧ Below w.heap.size w wr

set_option maxHeartbeats 8000000 in
theorem refParse_calls (s : ByteArray) (w : World) (hs : s.size ≤ 9223372036854775807) : Calls Tryd.prog 22 #[.string s] w (RParsePost (parseD s) w) := by
  obtain ⟨i0, hi, hz0, hz1, hz2⟩ := info_parts Tryd.info86
  have h2 : s.size = s.data.toList.length := by simp
  by_cases hbig : 1048576 < s.size
  · have HX : Hid (parseD s = ([], 0, 2)) := by
      show _ = _
      unfold parseD parseL
      rw [if_pos (by omega)]
    clear h2
    go_enter Tryd.func22, Tryd.ntmps22
    go_wp2_with fail
    go_ret3
    exact rparse_err HX.out (Below.refl _ _)
  · have HX : Hid (parseD s = parseI [] (itemsL 0 (linesL s.data.toList))) := by
      show _ = _
      unfold parseD parseL
      rw [if_neg (by omega)]
    have C1 := Lib.hid (refLines_calls s w (by omega))
    have hls : ∀ a ∈ linesL s.data.toList, a.length ≤ 1048576 := fun a ha => by have := linesL_each _ a ha; omega
    have HLS := Lib.hid hls
    have q : decide ((1048576 : Int) < (s.size : Int)) = false := decide_eq_false (by omega)
    unfold NewStrs at C1
    clear h2 hls hbig
    have hlen : (linesA s.data.toList).length = (linesL s.data.toList).length := List.length_map _
    obtain ⟨n, hn⟩ : ∃ n, n = (linesL s.data.toList).length := ⟨_, rfl⟩
    have HN := Lib.hid hn
    rw [hlen, ← hn] at C1
    clear hlen hn
    go_enter Tryd.func22, Tryd.ntmps22
    go_wp2_with fail
    refine C1.out.mono ?_
    rintro e w1 ⟨v1, rfl, ho1, hb1⟩
    obtain ⟨A1, c1, rfl, hc1, hcm1, k1⟩ := own_lies ho1
    have K1 := Lib.hid k1
    have HB1 := Lib.hid hb1
    unfold maxLen at hcm1
    clear ho1 k1 C1 hb1
    go_wp2_with fail
    go_loopw [6, 7] (fun v a wr => RpLo s.data.toList w1 n v a wr) (fun _ a _ => n - (intOf a).toNat)
    case atStart => exact ⟨0, [], Nat.zero_le _, by decide, rfl, RpS.start _, World.ownsRow_nil _ _ _ _, Below.refl _ _⟩
    case round =>
      obtain ⟨i, acc, hin, hal, rfl, HS, hown, hbw⟩ := hrel
      obtain ⟨m, hmm⟩ : ∃ m, m = acc.length := ⟨_, rfl⟩
      have HMM := Lib.hid hmm
      rw [← hmm] at hal hown
      clear hmm
      by_cases hlt : i < n
      · obtain ⟨x, hx⟩ : ∃ x, (linesL s.data.toList)[i]? = some x := ⟨_, List.getElem?_eq_getElem (by rw [← HN.out]; exact hlt)⟩
        have hxl := HLS.out x (List.mem_of_getElem? hx)
        obtain ⟨X, hX⟩ : ∃ X : ByteArray, X = ⟨x.toArray⟩ := ⟨_, rfl⟩
        have hXx : X.data.toList = x := by rw [hX]
        have hXs : X.size = x.length := by rw [size_list, hXx]
        obtain ⟨b, off, rfl, _, c0⟩ := (K1.out.below hbw).at1 hlt (u := .string X) (by simp [linesA, hx, hX])
        by_cases hcm : isComment x = true
        · have HS2 := Lib.hid (HS.out.skip hx hcm)
          by_cases hx0 : x = []
          · have q1 : ((X.size : Int) == 0) = true := by rw [beq_iff_eq, hXs, hx0]; rfl
            clear hcm hx hX hXx hXs hx0 HS hxl
            go_wp2_with fail
            go_roundw
            case rel => exact ⟨i + 1, acc, by omega, by rw [← HMM.out]; exact hal, by go_num, HS2, by rw [← HMM.out]; exact hown, hbw⟩
            case measure => simp [intOf]; omega
          · have hpos : 0 < X.size := by rw [hXs]; exact List.length_pos_iff.2 hx0
            have q1 : ((X.size : Int) == 0) = false := by rw [beq_eq_false_iff_ne]; omega
            have h0 := bytes_get X 0 hpos
            rw [hXx] at h0
            have h35 : X[0] = 35 := by
              unfold isComment at hcm
              rw [h0] at hcm
              simpa [hx0] using hcm
            have q2 : ((X[0].toNat : Int) == 35) = true := by rw [h35]; rfl
            clear hcm hx hX hXx hXs hx0 HS hxl h0 h35
            go_wp2_with fail
            go_roundw
            case rel => exact ⟨i + 1, acc, by omega, by rw [← HMM.out]; exact hal, by go_num, HS2, by rw [← HMM.out]; exact hown, hbw⟩
            case measure => simp [intOf]; omega
        · have hcf : isComment x = false := by simpa using hcm
          have hx0 : x ≠ [] := by
            rintro rfl
            exact hcm rfl
          have hpos : 0 < X.size := by rw [hXs]; exact List.length_pos_iff.2 hx0
          have q1 : ((X.size : Int) == 0) = false := by rw [beq_eq_false_iff_ne]; omega
          have h0 := bytes_get X 0 hpos
          rw [hXx] at h0
          have h35 : X[0] ≠ 35 := by
            intro h
            rw [h] at h0
            unfold isComment at hcf
            rw [h0] at hcf
            simp at hcf
          have q2 : ((X[0].toNat : Int) == 35) = false := by
            rw [beq_eq_false_iff_ne]
            intro h
            exact h35 (UInt8.toNat_inj.1 (by rw [show (35 : UInt8).toNat = 35 from rfl]; omega))
          have CL := Lib.hid fun W => line_calls X W (by omega)
          rw [hXx] at CL
          unfold LinePost at CL
          have HERR := Lib.hid fun e (hs : stepL acc x = .error e) => HX.out.trans (HS.out.err hx hcf hs)
          have HOK := Lib.hid fun acc' (hs : stepL acc x = .ok acc') => HS.out.ok hx hcf hs
          have CF : Hid (∀ A c (W : World) s (h : Lies W W.heap.size 2 A m (pcells acc)), Calls Tryd.prog 26 #[.slice A m c, .string s] W fun e w' => e = .returned (.tuple #[.int .i64 (findI acc s), .bool (findB acc s)]) ∧ W = w') := by
            intro A c W s h
            have := HMM.out
            rw [this] at h hal ⊢
            exact refFind_calls A c acc s _ W h (by unfold maxLen; omega)
          obtain ⟨A2, c2, rfl, _, _, k2⟩ := own_lies hown
          have K2 := Lib.hid k2
          clear hcm hx hX hXx hXs hx0 HS hxl h0 h35 hcf k2 HX
          go_wp2_with fail
          refine (CL.out _).mono ?_
          rintro e w3 ⟨nm, kd, ok, rfl, hln, hb3⟩
          have HLN := Lib.hid hln
          have hbw3 := qtrans hbw hb3
          have hown3 := owns_below hown hb3
          have K3 := Lib.hid (((K2.out.below hb3).up hb3.size).alloc (Nat.le_refl _) (.cells #[.string nm, .int .i64 kd] 86))
          have hb4 : Below w1.heap.size w1 (w3.alloc (.cells #[.string nm, .int .i64 kd] 86)) := hbw3.alloc hbw3.size _
          clear CL hln c0 K2 hown hbw hb3
          cases ok with
          | false =>
            have HE := Lib.hid (HERR.out 5 (step_none (by rw [HLN.out]; rfl)))
            clear HERR HOK CF HLN K3
            go_wp2_with fail
            go_ret3
            exact rparse_err HE.out (qtrans HB1.out hb4)
          | true =>
            have hl2 : lineL x = some (nm, kd) := by rw [HLN.out]; rfl
            have HL2 := Lib.hid hl2
            clear hl2 HLN
            have hq := eq_toList nm bosB
            rw [bos_list] at hq
            by_cases hbos : acc.length = 0 ∧ ((nm, kd) : P2) ≠ (bosB, 0)
            · have HE := Lib.hid (HERR.out 5 (step_bos HL2.out hbos.1 hbos.2))
              obtain ⟨g0, g1⟩ := hbos
              have q0 : m = 0 := by rw [HMM.out]; exact g0
              subst q0
              by_cases hn : nm = bosB
              · have q2 : (kd == 0) = false := by
                  rw [beq_eq_false_iff_ne]
                  rintro rfl
                  exact g1 (by rw [hn])
                rw [decide_eq_true hn] at hq
                clear g1 hn HERR HOK CF K3 HL2 g0
                go_wp2_with fail
                go_ret3
                exact rparse_err HE.out (qtrans HB1.out hb4)
              · rw [decide_eq_false hn] at hq
                clear g1 hn HERR HOK CF K3 HL2 g0
                go_wp2_with fail
                go_ret3
                exact rparse_err HE.out (qtrans HB1.out hb4)
            · have C2 := Lib.hid (CF.out A2 c2 _ nm (K3.out.up (by simp)))
              obtain ⟨fb, hfb⟩ : ∃ fb, fb = findB acc nm := ⟨_, rfl⟩
              have HFB := Lib.hid hfb
              rw [← hfb] at C2
              generalize findI acc nm = fi at *
              clear hfb CF K3
              have hcase : (m = 0 ∧ (nm.toList == [66, 79, 83]) = true ∧ (kd == 0) = true) ∨ ((m : Int) == 0) = false := by
                by_cases h0 : acc.length = 0
                · have hp : ((nm, kd) : P2) = (bosB, 0) := Classical.byContradiction fun h => hbos ⟨h0, h⟩
                  refine .inl ⟨by rw [HMM.out]; exact h0, ?_, ?_⟩
                  · rw [hq]
                    exact decide_eq_true (congrArg Prod.fst hp : nm = bosB)
                  · rw [beq_iff_eq]
                    exact congrArg Prod.snd hp
                · exact .inr (by rw [beq_eq_false_iff_ne]; have := HMM.out; omega)
              have HBOS := Lib.hid hbos
              clear hbos hq
              cases fb with
              | true =>
                have HE := Lib.hid (HERR.out 4 (step_twice HL2.out HBOS.out (of_decide_eq_true HFB.out.symm)))
                clear HERR HOK HL2 HBOS HFB
                rcases hcase with ⟨rfl, q1, q2⟩ | q0
                all_goals
                  go_wp2_with fail
                  refine C2.out.mono ?_
                  rintro e w5 ⟨rfl, rfl⟩
                  go_wp2_with fail
                  go_ret3
                  exact rparse_err HE.out (qtrans HB1.out hb4)
              | false =>
                have hnf : ¬ findN acc nm < acc.length := of_decide_eq_false HFB.out.symm
                by_cases h64 : acc.length = 64
                · have HE := Lib.hid (HERR.out 2 (step_long HL2.out HBOS.out hnf h64))
                  have q64 : m = 64 := by rw [HMM.out]; exact h64
                  subst q64
                  clear HERR HOK HL2 HBOS HFB hcase hnf
                  go_wp2_with fail
                  refine C2.out.mono ?_
                  rintro e w5 ⟨rfl, rfl⟩
                  go_wp2_with fail
                  go_ret3
                  exact rparse_err HE.out (qtrans HB1.out hb4)
                · have HS2 := Lib.hid (HOK.out _ (step_ok HL2.out HBOS.out hnf h64))
                  have q64 : ((m : Int) == 64) = false := by rw [beq_eq_false_iff_ne]; have := HMM.out; omega
                  have hm64 : m < 64 := by have := HMM.out; omega
                  have hpc : pcells (acc ++ [(nm, kd)]) = pcells acc ++ [.string nm, .int .i64 kd] := pcells_one _ _
                  have HPC := Lib.hid hpc
                  have hl24 : (m + 1) * 24 ≤ 140737488355328 := by omega
                  have hown4 := hown3.alloc (.cells #[.string nm, .int .i64 kd] 86)
                  clear HERR HOK HL2 HBOS HFB hnf hpc hown3
                  rcases hcase with ⟨rfl, q1, q2⟩ | q0
                  all_goals
                    go_wp2_with fail
                    refine C2.out.mono ?_
                    rintro e w5 ⟨rfl, rfl⟩
                    go_wp2_with (at_builtin; refine wpList_append_own _ rfl _ _ 40 rfl w1.heap.size 86 i0 (.agg #[.string ⟨#[]⟩, .int .i64 0]) 2 24 Tryd.underlying40 hi hz0 hz1 hz2 rfl (by decide) _ _ _ rfl (hown4.alloc _) ⟨w3.heap.size + 1, 0, none⟩ 1 1 [.string nm, .int .i64 kd] rfl rfl ?c1 ?c2 ?c3 ?c4 ?c5 ?_)
                    (case c1 => have := cells_new (w3.alloc (.cells #[.string nm, .int .i64 kd] 86)) [.string nm, .int .i64 kd] 86; rw [World.size_alloc] at this; exact this)
                    (case c2 => intro u hu; simp at hu; rcases hu with rfl | rfl <;> rfl)
                    (case c3 => unfold maxLen; omega)
                    (case c4 => exact hl24)
                    (case c5 => have := hb4.size; simp at this ⊢; omega)
                    intro v' w6 hown6 hgrow6 _
                    have hbw6 := below_append hb4 _ hown4 hgrow6
                    clear hgrow6 hown4 hb4
                    go_wp2_with fail
                    go_roundw
                    (case rel => exact ⟨i + 1, acc ++ [(nm, kd)], by omega, by rw [List.length_append, ← HMM.out]; simp; try omega, by go_num, HS2, by rw [HPC.out, List.length_append, ← HMM.out]; exact hown6, hbw6⟩)
                    (case measure => simp [intOf]; omega)
      · have HE := Lib.hid (HX.out.trans (HS.out.end (by rw [← HN.out]; omega)))
        obtain ⟨A2, c2, rfl, _, _⟩ := own_slice hown
        clear HS HX
        by_cases h0 : acc.length = 0
        · have HE2 : Hid (parseD s = ([], 0, 5)) := by show _ = _; rw [HE.out, if_pos h0]
          obtain rfl : m = 0 := by rw [HMM.out]; exact h0
          clear h0
          go_wp2_with fail
          go_ret3
          exact rparse_err HE2.out (qtrans HB1.out hbw)
        · have q0 : ((m : Int) == 0) = false := by rw [beq_eq_false_iff_ne]; have := HMM.out; omega
          have HE2 : Hid (parseD s = (acc, 0, 0)) := by show _ = _; rw [HE.out, if_neg h0]
          clear h0
          go_wp2_with fail
          go_ret3
          rw [HE2.out]
          refine ⟨_, rfl, ?_, qtrans HB1.out hbw⟩
          rw [← HMM.out]
          exact hown.mono HB1.out.size
end Go.Proofs.YtoihfmjnonanjaaDoor
