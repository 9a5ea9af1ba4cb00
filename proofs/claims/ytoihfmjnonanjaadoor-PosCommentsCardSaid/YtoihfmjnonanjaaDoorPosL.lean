/- What pos.Parse computes. -/
import Derived.Test.YtoihfmjnonanjaaDoorPosK
import Derived.Maps.AppendAt
namespace Go.Proofs.YtoihfmjnonanjaaDoor
open Go.RowKit Go.Lib Go.Shelf Hk
set_option linter.unusedSimpArgs false
set_option linter.unusedVariables false
set_option maxRecDepth 100000
attribute [local go_sem] Oper.semAt_some

theorem Tryd.info33 : (Tryd.prog.info? 33).map (fun i => (i.zero, i.size, i.bytes)) = some (some (.agg #[.string ⟨#[]⟩, .int .i64 0]), 2, 24) := by kernel_rfl

/-- What Parse returns. -/
def ParsePost (r : List P2 × Int × Int) (w : World) (e : Ending) (w' : World) : Prop :=
  ∃ v, e = .returned (.tuple #[v, .int .i64 r.2.1, .int .i64 r.2.2]) ∧ w'.ownsRow w.heap.size 33 2 v r.1.length (pcells r.1) ∧ Below w.heap.size w w'

set_option maxHeartbeats 8000000 in
theorem parse_calls (s : ByteArray) (w : World) (hs : s.size ≤ 9223372036854775807) (he : Env w) : Calls Tryd.prog 15 #[.string s] w (ParsePost (parseD s) w) := by
  obtain ⟨i0, hi, hz0, hz1, hz2⟩ := info_parts Tryd.info33
  have h2 : s.size = s.data.toList.length := by simp
  by_cases hbig : 1048576 < s.size
  · have HX : Hid (parseD s = ([], 0, 2)) := by
      show _ = _
      unfold parseD parseL
      rw [if_pos (by omega)]
    clear h2 he
    refine (callsIn_wide (n := 6)).1 ?_
    refine callsIn_of_wp_marks Tryd.func15 rfl trivial ?_ rfl
    simp only [Tryd.ntmps15, List.size_toArray, List.length_cons, List.length_nil, Nat.reduceAdd, Nat.reduceSub, Array.replicate_succ, Array.replicate_zero, List.push_toArray, List.append_toArray, List.nil_append, List.cons_append]
    gi_wp2
    refine ⟨.tuple #[.slice none 0 0, .int .i64 0, .int .i64 2], by simp [results, Tryd.f15, go_sem], ?_⟩
    rw [HX.out]
    exact ⟨_, rfl, World.ownsRow_nil _ _ _ _, (((Below.refl _ w).alloc (Nat.le_refl _) _).alloc (by simp) _).alloc (by simp; omega) _⟩
  · have hs2 : s.size < 4294967281 := by omega
    have HX : Hid (parseD s = parseI [] ((itemsB 0 (linesB s)).map fun x => (x.1, x.2.data.toList))) := by
      show _ = _
      unfold parseD parseL
      rw [if_neg (by omega), ← linesB_data, ← itemsB_data]
    clear h2
    have q : decide ((1048576 : Int) < (s.size : Int)) = false := decide_eq_false (by omega)
    have HE := Lib.hid he
    have HT := Lib.hid (lines_stops 5 (by omega) (w.heap.size + 1 + 1 + 1 + 1) s (parW w s) (by rw [parW_size]; omega) (parW_at w s).2.2.2.2.cell hs2 (he.below (parW_below w s)))
    clear he
    refine (callsIn_wide (n := 6)).1 ?_
    refine callsIn_of_wp_marks Tryd.func15 rfl trivial ?_ rfl
    simp only [Tryd.ntmps15, List.size_toArray, List.length_cons, List.length_nil, Nat.reduceAdd, Nat.reduceSub, Array.replicate_succ, Array.replicate_zero, List.push_toArray, List.append_toArray, List.nil_append, List.cons_append]
    gi_wp2_with (refine ⟨trivial, ?_⟩; gi_at_call 35; refine (callsIn_wide.2 (lines_calls s _)).mono ?_; rintro e w' ⟨rfl, rfl⟩)
    refine wpIn_rangeFunc_ownG (w := parW w s) rfl (by omega) (gf := 55) (lb := #[.pointer (some ⟨w.heap.size + 1 + 1 + 1 + 1, 0, none⟩)]) rfl trivial (enters_of Tryd.func55 (by kernel_rfl) rfl)
      HT.out kpT_t kpT_b (Below.refl _ _) (fun _ => rfl)
      (fun pre W => ParAt w pre W ∧ Below w.heap.size w W)
      (fun c pre W => (c = .ret ∧ ParEnd w pre W) ∧ Below w.heap.size w W)
      (OwnFrom.and (Own.from (parAt_own w) _) (ownFrom_below (Nat.le_refl _) (by rw [parW_size]; omega)))
      (fun c => OwnFrom.and (Own.from (fun s A B row hs hg hr => ⟨hs.1, parEnd_own w s A B row hs.2 hg hr⟩) _) (ownFrom_below (Nat.le_refl _) (by rw [parW_size]; omega)))
      ⟨parW_par w s, parW_below w s⟩
      (fun x => { tmps := #[.string s, undef, .pointer (some ⟨w.heap.size, 0, none⟩), .pointer (some ⟨w.heap.size + 1, 0, none⟩), .pointer (some ⟨w.heap.size + 1 + 1, 0, none⟩), .pointer (some ⟨w.heap.size + 1 + 1 + 1, 0, none⟩), .int .i64 (x.1.1 : Int), .string x.1.2, undef, undef, undef, undef, undef, undef, .string s, .int .i64 s.size, .bool false, .string s, .func (.func 55) #[] #[.pointer (some ⟨w.heap.size + 1 + 1 + 1 + 1, 0, none⟩)], .int .i64 (x.1.1 : Int), .string x.1.2, undef, undef, undef, undef, undef, undef, undef, undef, undef, undef, undef, undef, undef, undef, undef, undef, undef, undef, undef, undef, undef, undef, undef, undef, undef, undef, undef, undef, undef, undef, undef, undef, undef, undef, undef, undef, undef, undef, undef, undef, undef, undef, undef, undef, undef, undef, undef, undef, undef, undef, undef, undef, undef], defers := [] }) ?assign ?body ?done ?stop
    case assign =>
      intro l x W K hK
      gi_wp2
      exact hK
    case body =>
      rintro l pre ⟨⟨xn, x⟩, hx⟩ W ⟨⟨⟨acc, v, hG, hlen, hv, hrow⟩, r0, r1, r2⟩, hB⟩ hlt
      simp only at hx
      have CC := Lib.hid (cut_calls x W hx (HE.out.below hB))
      have CI := Lib.hid (index_calls (cutW x))
      have CF := Lib.hid fun A c (W : World) (h : Lies W W.heap.size 2 A acc.length (pcells acc)) => find_calls A c acc (cutN x) W h (by unfold maxLen; omega)
      have CN := Lib.hid (named_calls (cutN x))
      have hst := line_cut x
      have HG := Lib.hid hG
      clear hG HT HX q hlt
      have hkr := kindI_range (cutW x)
      obtain ⟨A, c, rfl, _, _⟩ := own_slice hrow
      generalize cutN x = nm at *
      generalize kindI (cutW x) = kd at *
      generalize cutW x = wd at *
      have HST := Lib.hid hst
      clear hst
      gi_wp2_with fail
      refine ⟨trivial, ?_⟩
      refine (CallsIn.inRound l (callsIn_wide.2 CC.out)).mono ?_
      rintro e w1 ⟨bb, rfl, hb1⟩
      gi_wp2_with fail
      refine ⟨trivial, ?_⟩
      refine (CallsIn.inRound l (callsIn_wide.2 (CI.out w1 (HE.out.below (qtrans hB hb1))))).mono ?_
      rintro e w1' ⟨rfl, rfl⟩
      have hb2 : Below W.heap.size W (w1.alloc (.cells #[.string nm, .int .i64 kd] 33)) := hb1.alloc hb1.size _
      have hc := (boxed_below hv hb2).cell
      have hl2 := Lies.of_own (owns_below hrow hb2)
      have e0 : (w1.alloc (.cells #[.string nm, .int .i64 kd] 33)).cell? ⟨w1.heap.size, 0, none⟩ = some (.string nm) := by simp
      have e1 : (w1.alloc (.cells #[.string nm, .int .i64 kd] 33)).cell? ⟨w1.heap.size, 1, none⟩ = some (.int .i64 kd) := by simp
      have E0 := Lib.hid e0
      have E1 := Lib.hid e1
      have C2 := Lib.hid (CF.out A c _ hl2)
      clear e0 e1 CF CC CI hl2 hb1
      gi_wp2_with fail
      refine ⟨trivial, ?_⟩
      refine (CallsIn.inRound l (callsIn_wide.2 C2.out)).mono ?_
      rintro e w3 ⟨rfl, hb3⟩
      have e0 := cell_later hb3 E0.out
      have e1 := cell_later hb3 E1.out
      replace hb3 := qtrans hb2 hb3
      clear C2 E0 E1 hb2 hc
      have hc := (boxed_below hv hb3).cell
      by_cases hkd : kd < 0
      · have HS : Hid (stepL acc x.data.toList = .error 5) := by
          show _ = _
          refine step_none ?_
          rw [HST.out, if_pos hkd]
        have hP := Lib.hid (par_err (x := ⟨(xn, x), hx⟩) (parW w s).heap.size hB hb3 HG.out HS.out r0 r1 r2)
        have k0 := (boxed_below r0 hb3).cell
        have f0 := (boxed_below r0 hb3).frozen
        have k1 := (boxed_below r1 hb3).cell
        have f1 := (boxed_below r1 hb3).frozen
        have k2 := (boxed_below r2 hb3).cell
        have f2 := (boxed_below r2 hb3).frozen
        clear HST HS HG
        gi_wp2
        refine ⟨trivial, ?_⟩
        gi_wp2
        exact ⟨hP.out.1, ⟨rfl, hP.out.2.1.2⟩, hP.out.2.2⟩
      · have hkd0 : 0 ≤ kd := by omega
        have qkd : decide (kd < 0) = false := decide_eq_false hkd
        obtain ⟨ok, hok⟩ : ∃ ok, ok = nameD nm := ⟨_, rfl⟩
        have HOK := Lib.hid hok
        rw [← hok] at CN
        have hst := HST.out
        rw [if_neg hkd, ← hok] at hst
        clear HST hok
        gi_wp2_with fail
        refine ⟨trivial, ?_⟩
        refine (CallsIn.inRound l (callsIn_wide.2 (CN.out w3))).mono ?_
        rintro e w4 ⟨rfl, hb4⟩
        replace e0 := cell_later hb4 e0
        replace e1 := cell_later hb4 e1
        replace hb4 := qtrans hb3 hb4
        clear hb3 hc qkd CN
        have hc := (boxed_below hv hb4).cell
        cases ok with
        | false =>
          have HST := Lib.hid hst
          have HS : Hid (stepL acc x.data.toList = .error 5) := by
            show _ = _
            exact step_none (by rw [HST.out]; rfl)
          clear hst
          have hP := Lib.hid (par_err (x := ⟨(xn, x), hx⟩) (parW w s).heap.size hB hb4 HG.out HS.out r0 r1 r2)
          have k0 := (boxed_below r0 hb4).cell
          have f0 := (boxed_below r0 hb4).frozen
          have k1 := (boxed_below r1 hb4).cell
          have f1 := (boxed_below r1 hb4).frozen
          have k2 := (boxed_below r2 hb4).cell
          have f2 := (boxed_below r2 hb4).frozen
          clear HST HS HG
          gi_wp2
          exact ⟨hP.out.1, ⟨rfl, hP.out.2.1.2⟩, hP.out.2.2⟩
        | true =>
          rw [if_pos rfl] at hst
          have HST := Lib.hid hst
          clear hst
          by_cases hbos : acc.length = 0 ∧ ((nm, kd) : P2) ≠ (bosB, 0)
          · have HS := Lib.hid (step_bos HST.out hbos.1 hbos.2)
            obtain ⟨g0, g1⟩ := hbos
            have hq := eq_toList nm bosB
            rw [bos_list] at hq
            rw [g0] at hc
            by_cases hn : nm = bosB
            · have q2 : (kd == 0) = false := by
                rw [beq_eq_false_iff_ne]
                rintro rfl
                exact g1 (by rw [hn])
              rw [decide_eq_true hn] at hq
              clear g1 hn
              have hP := Lib.hid (par_err (x := ⟨(xn, x), hx⟩) (parW w s).heap.size hB hb4 HG.out HS.out r0 r1 r2)
              have k0 := (boxed_below r0 hb4).cell
              have f0 := (boxed_below r0 hb4).frozen
              have k1 := (boxed_below r1 hb4).cell
              have f1 := (boxed_below r1 hb4).frozen
              have k2 := (boxed_below r2 hb4).cell
              have f2 := (boxed_below r2 hb4).frozen
              clear HST HS HG
              gi_wp2
              exact ⟨hP.out.1, ⟨rfl, hP.out.2.1.2⟩, hP.out.2.2⟩
            · rw [decide_eq_false hn] at hq
              clear g1 hn
              have hP := Lib.hid (par_err (x := ⟨(xn, x), hx⟩) (parW w s).heap.size hB hb4 HG.out HS.out r0 r1 r2)
              have k0 := (boxed_below r0 hb4).cell
              have f0 := (boxed_below r0 hb4).frozen
              have k1 := (boxed_below r1 hb4).cell
              have f1 := (boxed_below r1 hb4).frozen
              have k2 := (boxed_below r2 hb4).cell
              have f2 := (boxed_below r2 hb4).frozen
              clear HST HS HG
              gi_wp2
              exact ⟨hP.out.1, ⟨rfl, hP.out.2.1.2⟩, hP.out.2.2⟩
          · by_cases htw : findN acc nm < acc.length
            · have HS := Lib.hid (step_twice HST.out hbos htw)
              have hfb : findB acc nm = true := decide_eq_true htw
              have q0 : ((acc.length : Int) == 0) = false := by rw [beq_eq_false_iff_ne]; omega
              rw [hfb]
              clear hbos htw hfb
              have hP := Lib.hid (par_err (x := ⟨(xn, x), hx⟩) (parW w s).heap.size hB hb4 HG.out HS.out r0 r1 r2)
              have k0 := (boxed_below r0 hb4).cell
              have f0 := (boxed_below r0 hb4).frozen
              have k1 := (boxed_below r1 hb4).cell
              have f1 := (boxed_below r1 hb4).frozen
              have k2 := (boxed_below r2 hb4).cell
              have f2 := (boxed_below r2 hb4).frozen
              clear HST HS HG
              gi_wp2
              exact ⟨hP.out.1, ⟨rfl, hP.out.2.1.2⟩, hP.out.2.2⟩
            · have hfb : findB acc nm = false := decide_eq_false htw
              rw [hfb]
              clear hfb
              by_cases h64 : acc.length = 64
              · have HS := Lib.hid (step_long HST.out hbos htw h64)
                rw [h64] at hc
                clear hbos htw
                have hP := Lib.hid (par_err (x := ⟨(xn, x), hx⟩) (parW w s).heap.size hB hb4 HG.out HS.out r0 r1 r2)
                have k0 := (boxed_below r0 hb4).cell
                have f0 := (boxed_below r0 hb4).frozen
                have k1 := (boxed_below r1 hb4).cell
                have f1 := (boxed_below r1 hb4).frozen
                have k2 := (boxed_below r2 hb4).cell
                have f2 := (boxed_below r2 hb4).frozen
                clear HST HS HG
                gi_wp2
                exact ⟨hP.out.1, ⟨rfl, hP.out.2.1.2⟩, hP.out.2.2⟩
              · have HS := Lib.hid (step_ok HST.out hbos htw h64)
                have q64 : ((acc.length : Int) == 64) = false := by rw [beq_eq_false_iff_ne]; omega
                have hrow4 := owns_below hrow hb4
                have hv4 := boxed_below hv hb4
                have hn0 : w.heap.size ≤ w4.heap.size := Nat.le_trans hB.size hb4.size
                have hl1 : acc.length + 1 ≤ maxLen := by unfold maxLen; omega
                have hl2 : (acc.length + 1) * 24 ≤ 140737488355328 := by omega
                have hl3 : acc.length + 1 ≤ 64 := by omega
                by_cases h0 : acc.length = 0
                · have q0 : ((acc.length : Int) == 0) = true := by rw [beq_iff_eq]; exact_mod_cast h0
                  have hp : ((nm, kd) : P2) = (bosB, 0) := Classical.byContradiction fun h => hbos ⟨h0, h⟩
                  have hq := eq_toList nm bosB
                  rw [bos_list, decide_eq_true (congrArg Prod.fst hp : nm = bosB)] at hq
                  have q2 : (kd == 0) = true := by rw [beq_iff_eq]; exact congrArg Prod.snd hp
                  clear hp htw hbos h64 h0 HST hlen
                  gi_wp2_with (gi_at_builtin; refine wpListIn_append_own _ rfl _ _ 24 rfl w.heap.size 33 i0 (.agg #[.string ⟨#[]⟩, .int .i64 0]) 2 24 Tryd.underlying24 hi hz0 hz1 hz2 rfl (by decide) _ _ _ rfl (hrow4.alloc _) ⟨w4.heap.size, 0, none⟩ 1 1 [.string nm, .int .i64 kd] rfl rfl (cells_new _ [_, _] _) (by simp [Value.oneCell']) hl1 hl2 (by simp; omega) ?_; intro v' w5 hown' hgrow _; obtain ⟨g', cap', rfl⟩ := ownsRow_succ hown'; obtain ⟨hv1, hv2, hr2, hk2, hb2⟩ := hv4.appended (by decide) hrow4 hn0 (by omega) hown' hgrow; have hc1 := hv1.cell; have hf1 := hv1.frozen)
                  have r0' := boxed_appended (v' := .slice (some ⟨g', 0, none⟩) (acc.length + 1) cap') (boxed_below r0 hb4) (by decide) (by omega : w.heap.size ≠ w.heap.size + 1 + 1 + 1) hrow4 hgrow
                  have r1' := boxed_appended (v' := .slice (some ⟨g', 0, none⟩) (acc.length + 1) cap') (boxed_below r1 hb4) (by decide) (by omega : w.heap.size + 1 ≠ w.heap.size + 1 + 1 + 1) hrow4 hgrow
                  have r2' := boxed_appended (v' := .slice (some ⟨g', 0, none⟩) (acc.length + 1) cap') (boxed_below r2 hb4) (by decide) (by omega : w.heap.size + 1 + 1 ≠ w.heap.size + 1 + 1 + 1) hrow4 hgrow
                  exact ⟨(keepsFrom_below _ hb4).trans (hk2.from _), kpT_t (kpT_below hb4) (kpT_appended hv4 (by decide) (by decide) hrow4 hgrow),
                    ⟨⟨acc ++ [(nm, kd)], _, par_ok (x := ⟨(xn, x), hx⟩) HG.out HS.out, by rw [List.length_append]; exact hl3, hv2, by rw [List.length_append, pcells_one]; exact hr2⟩, r0', r1', r2'⟩, (qtrans hB hb4).trans hb2⟩
                · have q0 : ((acc.length : Int) == 0) = false := by rw [beq_eq_false_iff_ne]; exact_mod_cast h0
                  clear htw hbos h64 h0 HST hlen
                  gi_wp2_with (gi_at_builtin; refine wpListIn_append_own _ rfl _ _ 24 rfl w.heap.size 33 i0 (.agg #[.string ⟨#[]⟩, .int .i64 0]) 2 24 Tryd.underlying24 hi hz0 hz1 hz2 rfl (by decide) _ _ _ rfl (hrow4.alloc _) ⟨w4.heap.size, 0, none⟩ 1 1 [.string nm, .int .i64 kd] rfl rfl (cells_new _ [_, _] _) (by simp [Value.oneCell']) hl1 hl2 (by simp; omega) ?_; intro v' w5 hown' hgrow _; obtain ⟨g', cap', rfl⟩ := ownsRow_succ hown'; obtain ⟨hv1, hv2, hr2, hk2, hb2⟩ := hv4.appended (by decide) hrow4 hn0 (by omega) hown' hgrow; have hc1 := hv1.cell; have hf1 := hv1.frozen)
                  have r0' := boxed_appended (v' := .slice (some ⟨g', 0, none⟩) (acc.length + 1) cap') (boxed_below r0 hb4) (by decide) (by omega : w.heap.size ≠ w.heap.size + 1 + 1 + 1) hrow4 hgrow
                  have r1' := boxed_appended (v' := .slice (some ⟨g', 0, none⟩) (acc.length + 1) cap') (boxed_below r1 hb4) (by decide) (by omega : w.heap.size + 1 ≠ w.heap.size + 1 + 1 + 1) hrow4 hgrow
                  have r2' := boxed_appended (v' := .slice (some ⟨g', 0, none⟩) (acc.length + 1) cap') (boxed_below r2 hb4) (by decide) (by omega : w.heap.size + 1 + 1 ≠ w.heap.size + 1 + 1 + 1) hrow4 hgrow
                  exact ⟨(keepsFrom_below _ hb4).trans (hk2.from _), kpT_t (kpT_below hb4) (kpT_appended hv4 (by decide) (by decide) hrow4 hgrow),
                    ⟨⟨acc ++ [(nm, kd)], _, par_ok (x := ⟨(xn, x), hx⟩) HG.out HS.out, by rw [List.length_append]; exact hl3, hv2, by rw [List.length_append, pcells_one]; exact hr2⟩, r0', r1', r2'⟩, (qtrans hB hb4).trans hb2⟩
    case done =>
      rintro D ys W hD hS ⟨⟨⟨acc, v, hG, hlen, hv, hrow⟩, r0, r1, r2⟩, hB⟩ hK
      have hpar : parseD s = parseI acc [] := by
        rw [HX.out, ← hS, ← itD_map]
        have := hG []
        rw [List.append_nil] at this
        exact this
      have HP := Lib.hid hpar
      rw [parW_size] at hD
      clear hpar hG hS HX HT q
      obtain ⟨A, c, rfl, _, _⟩ := own_slice hrow
      have hc := hv.cell
      by_cases h0 : acc.length = 0
      · have HR : Hid (parseD s = ([], 0, 5)) := by show _ = _; rw [HP.out, parseI, if_pos h0]
        rw [h0] at hc
        clear HP
        have k0 := r0.cell
        have f0 := r0.frozen
        have k1 := r1.cell
        have f1 := r1.frozen
        have k2 := r2.cell
        have f2 := r2.frozen
        gi_wp2
        clear k0 f0 k1 f1 k2 f2 hc
        obtain ⟨b0, b1, b2, hk⟩ := stores3 (.slice none 0 0) (.int .i64 0) (.int .i64 5) r0 r1 r2 (by omega) (by omega) (by omega)
        have hb := below_stores3 (.slice none 0 0) (.int .i64 0) (.int .i64 5) hB (Nat.le_refl _) (Nat.le_add_right w.heap.size 1) (by omega : w.heap.size ≤ w.heap.size + 1 + 1)
        have hK2 := hk.same D _ hK rfl
        refine ⟨by simp, .inl ⟨_, _, rfl, run_takeDeferred hK2, ?_⟩⟩
        have c0 := (boxed_put b0 hK2 rfl (.deferred none)).cell
        have c1 := (boxed_put b1 hK2 rfl (.deferred none)).cell
        have c2 := (boxed_put b2 hK2 rfl (.deferred none)).cell
        refine ⟨.tuple #[.slice none 0 0, .int .i64 0, .int .i64 5], by simp [results, Tryd.f15, go_sem, c0, c1, c2], ?_⟩
        rw [HR.out]
        exact ⟨_, rfl, World.ownsRow_nil _ _ _ _, hb.trans (belowK_b (w := w) (Nat.le_refl _) _ D _ _ (by omega) hK2 rfl rfl)⟩
      · have HR : Hid (parseD s = (acc, 0, 0)) := by show _ = _; rw [HP.out, parseI, if_neg h0]
        have q0 : ((acc.length : Int) == 0) = false := by rw [beq_eq_false_iff_ne]; omega
        clear HP
        have k0 := r0.cell
        have f0 := r0.frozen
        have k1 := r1.cell
        have f1 := r1.frozen
        have k2 := r2.cell
        have f2 := r2.frozen
        gi_wp2
        clear k0 f0 k1 f1 k2 f2 hc
        obtain ⟨b0, b1, b2, hk⟩ := stores3 (.slice A acc.length c) (.int .i64 0) (.int .i64 0) r0 r1 r2 (by omega) (by omega) (by omega)
        have hb := below_stores3 (.slice A acc.length c) (.int .i64 0) (.int .i64 0) hB (Nat.le_refl _) (Nat.le_add_right w.heap.size 1) (by omega : w.heap.size ≤ w.heap.size + 1 + 1)
        have hown := owns_set (owns_set (owns_set hrow r0 (by decide) (.slice A acc.length c)) (r1.other (by omega) _) (by decide) (.int .i64 0)) ((r2.other (by omega) _).other (by omega) _) (by decide) (.int .i64 0)
        have hK2 := hk.same D _ hK rfl
        refine ⟨by simp, .inl ⟨_, _, rfl, run_takeDeferred hK2, ?_⟩⟩
        have c0 := (boxed_put b0 hK2 rfl (.deferred none)).cell
        have c1 := (boxed_put b1 hK2 rfl (.deferred none)).cell
        have c2 := (boxed_put b2 hK2 rfl (.deferred none)).cell
        refine ⟨.tuple #[.slice A acc.length c, .int .i64 0, .int .i64 0], by simp [results, Tryd.f15, go_sem, c0, c1, c2], ?_⟩
        rw [HR.out]
        exact ⟨_, rfl, ownsRow_putObj hown _ hK2 rfl, hb.trans (belowK_b (w := w) (Nat.le_refl _) _ D _ _ (by omega) hK2 rfl rfl)⟩
    case stop =>
      rintro D c pre W hD ⟨rest, hrest⟩ ⟨⟨rfl, n, er, hG, r0, r1, r2⟩, hB⟩ hK
      have hpar : parseD s = ([], n, er) := by
        rw [HX.out, ← hrest]
        have hall : ∀ r ∈ rest, r.2.size < 4294967281 := by
          intro r hr
          have hm : r ∈ itemsB 0 (linesB s) := by rw [← hrest]; exact List.mem_append_right _ hr
          exact Nat.lt_of_le_of_lt (items_size s r hm) hs2
        have := hG (rest.attach.map fun r => ⟨r.1, hall r.1 r.2⟩)
        have hv : (rest.attach.map fun r => (⟨r.1, hall r.1 r.2⟩ : It)).map (·.1) = rest := by
          rw [List.map_map]
          exact List.attach_map_subtype_val rest
        rw [itD_map, List.map_append, hv] at this
        exact this
      have HR := Lib.hid hpar
      rw [parW_size] at hD
      clear hpar hG HX HT q
      gi_wp2
      refine ⟨by simp, .inl ⟨_, _, rfl, run_takeDeferred hK, ?_⟩⟩
      have c0 := (boxed_put r0 hK rfl (.deferred none)).cell
      have c1 := (boxed_put r1 hK rfl (.deferred none)).cell
      have c2 := (boxed_put r2 hK rfl (.deferred none)).cell
      refine ⟨.tuple #[.slice none 0 0, .int .i64 n, .int .i64 er], by simp [results, Tryd.f15, go_sem, c0, c1, c2], ?_⟩
      rw [HR.out]
      exact ⟨_, rfl, World.ownsRow_nil _ _ _ _, hB.trans (belowK_b (w := w) (Nat.le_refl _) _ D _ _ (by omega) hK rfl rfl)⟩
end Go.Proofs.YtoihfmjnonanjaaDoor
