/- Proved: henkanlaw32.BoostJoins returns true for every two lists of counts of bulk at most 1048576 together (the second form): the lists of counts that follow each other follow each other; a count is in at most one of them. No condition of ours. -/
import Derived.Test.YtipocnkaemkegaaDoorBulk
import Derived.Test.YtipocnkaemkegaaDoorBoostR
namespace Go.Proofs.YtipocnkaemkegaaDoor
open Go.ChangeShapes Go.WideShapes Go.ChangeAt Go.RowKit Go.Lib Go.Shelf Hk
open Go.ChangeMaps (open_string shut_string)
set_option linter.unusedSimpArgs false
set_option linter.unusedVariables false
set_option maxRecDepth 100000

theorem Tryd.info39 : (Tryd.prog.info? 39).map (fun i => (i.zero, i.size, i.bytes)) = some (some (.agg #[.string ⟨#[]⟩, .int .i64 0]), 2, 24) := by kernel_rfl
theorem cnt_one (cs : List Cnt) : ∀ u ∈ cntCells cs, u.oneCell' = true := by
  intro u hu
  obtain ⟨c, _, hc⟩ := List.mem_flatMap.1 hu
  simp at hc
  rcases hc with rfl | rfl <;> rfl
theorem lrn_one (cs : List Lrn) : ∀ u ∈ lrnCells cs, u.oneCell' = true := by
  intro u hu
  obtain ⟨c, _, hc⟩ := List.mem_flatMap.1 hu
  simp at hc
  rcases hc with rfl | rfl | rfl <;> rfl
theorem cnt_app (cs ds : List Cnt) : cntCells (cs ++ ds) = cntCells cs ++ cntCells ds := by simp [cntCells]
theorem lrn_app (cs ds : List Lrn) : lrnCells (cs ++ ds) = lrnCells cs ++ lrnCells ds := by simp [lrnCells]
theorem learned_at (A : Option Addr) (n cap : Nat) (cs : List Cnt) (w : World) (hn0 : cs.length = n) (hl : Lies w w.heap.size 2 A n (cntCells cs)) (hn : n ≤ 2097152) (hcs : Light cs) (he : Env w) :
    Calls Tryd.prog 14 #[.slice A n cap] w (ListPost 41 w cs 1) := by
  subst hn0
  exact learned_calls A cap cs w hl (by omega) hcs he
theorem pairs_at (A : Option Addr) (n cap : Nat) (cs : List Cnt) (w : World) (hn0 : cs.length = n) (hl : Lies w w.heap.size 2 A n (cntCells cs)) (hn : n ≤ 2097152) (hcs : Light cs) (he : Env w) :
    Calls Tryd.prog 17 #[.slice A n cap] w (ListPost 43 w cs 2) := by
  subst hn0
  exact pairs_calls A cap cs w hl (by omega) hcs he

/-- A slice of N elements came back, and memory that was there is as it was. -/
def LenPost (N : Nat) (w0 : World) (e : Ending) (w' : World) : Prop := ∃ A c, e = .returned (.slice A N c) ∧ Below w0.heap.size w0 w'
theorem len_post {t : TypeId} {w0 W : World} {cs : List Cnt} {kind : Int} (hW : Below w0.heap.size w0 W) {e : Ending} {w' : World} (h : ListPost t W cs kind e w') : LenPost (many kind cs).length w0 e w' := by
  obtain ⟨v, rfl, ho, hb⟩ := h
  obtain ⟨A, c, rfl, _⟩ := own_slice ho
  exact ⟨A, c, rfl, qtrans hW hb⟩

set_option maxHeartbeats 4000000 in
theorem boostJoins_calls (A : Option Addr) (cap : Nat) (cs : List Cnt) (A' : Option Addr) (cap' : Nat) (ds : List Cnt) (w : World) (hl : Lies w w.heap.size 2 A cs.length (cntCells cs)) (hc : cs.length ≤ cap) (hm : cap ≤ maxLen) (hn : cs.length ≤ 1048576) (hcs : Light cs)
    (hl' : Lies w w.heap.size 2 A' ds.length (cntCells ds)) (hc' : ds.length ≤ cap') (hm' : cap' ≤ maxLen) (hn' : ds.length ≤ 1048576) (hds : Light ds) (he : Env w) :
    Calls Tryd.prog 8 #[.slice A cs.length cap, .slice A' ds.length cap'] w fun e w' => e = .returned (.bool true) ∧ Below w.heap.size w w' := by
  obtain ⟨i0, hi, hz0, hz1, hz2⟩ := info_parts Tryd.info39
  obtain ⟨i1, gi, gz0, gz1, gz2⟩ := info_parts Tryd.info41
  obtain ⟨i2, ki, kz0, kz1, kz2⟩ := info_parts Tryd.info43
  have HE := Lib.hid he
  have CL := Lib.hid learned_at
  have CP := Lib.hid pairs_at
  have SL := Lib.hid sameL_calls
  have SP := Lib.hid sameP_calls
  have CW := Lib.hid works_calls
  have HL := Lib.hid hl
  have HL' := Lib.hid hl'
  have HC := Lib.hid hcs
  have HC' := Lib.hid hds
  have HJ : Hid (Light (cs ++ ds)) := fun c h => (List.mem_append.1 h).elim (hcs c) (hds c)
  obtain ⟨n, e1⟩ : ∃ n, cs.length = n := ⟨_, rfl⟩
  obtain ⟨m, e2⟩ : ∃ m, ds.length = m := ⟨_, rfl⟩
  rw [e1] at HL hn hc ⊢
  rw [e2] at HL' hn' hc' ⊢
  have E1 := Lib.hid e1
  have E2 := Lib.hid e2
  clear hl hl' hcs hds e1 e2
  have hb0 : Below w.heap.size w (w.alloc (.cells #[] 39)) := (Below.refl _ _).alloc (Nat.le_refl _) _
  have ho0 : (w.alloc (.cells #[] 39)).ownsRow w.heap.size 39 2 (.slice (some ⟨w.heap.size, 0, none⟩) 0 0) 0 [] := World.ownsRow_made w #[] 0 (Nat.le_refl _) (by unfold maxLen; omega) (by simp)
  go_enter Tryd.func8, Tryd.ntmps8
  go_wp2_with (at_builtin; refine wpList_append_lies _ rfl (.tmp 7) (.tmp 8) 25 rfl w.heap.size 39 i0 (.agg #[.string ⟨#[]⟩, .int .i64 0]) 2 24 Tryd.underlying25 hi hz0 hz1 hz2 rfl (by omega) _ 0 [] rfl ho0 w.heap.size A n cap (cntCells cs) rfl ?l1 (cnt_one cs) ?l2 ?l3 ?l4 ?_)
  case l1 => exact HL.out.below hb0
  case l2 => unfold maxLen; omega
  case l3 => omega
  case l4 => simp
  intro v1 w1 ho1 hg1
  have hb1 : Below w.heap.size w w1 := hb0.grown hg1 (by simp) fun k hk => (ho0.lt k hk).1
  clear ho0 hb0 hg1
  go_wp2_with (at_builtin; refine wpList_append_lies _ rfl (.tmp 9) (.tmp 10) 25 rfl w.heap.size 39 i0 (.agg #[.string ⟨#[]⟩, .int .i64 0]) 2 24 Tryd.underlying25 hi hz0 hz1 hz2 rfl (by omega) v1 n (cntCells cs) rfl ho1 w.heap.size A' m cap' (cntCells ds) rfl ?m21 (cnt_one ds) ?m22 ?m23 ?m24 ?_)
  case m21 => exact HL'.out.below hb1
  case m22 => unfold maxLen; omega
  case m23 => omega
  case m24 => exact hb1.size
  intro v2 w2 ho2 hg2
  have hb2 : Below w.heap.size w w2 := hb1.grown hg2 hb1.size fun k hk => (ho1.lt k hk).1
  rw [← cnt_app] at ho2
  obtain ⟨J, capJ, rfl, hJ1, hJ2, HLJ⟩ := own_lies ho2
  clear ho1 hb1 hg2 ho2
  go_wp2_with fail
  refine (CL.out _ _ _ (cs ++ ds) _ (by rw [List.length_append, E1.out, E2.out]) HLJ (by omega) HJ.out (HE.out.below hb2)).mono ?_
  rintro e w3 ⟨v3, rfl, ho3, hb3⟩
  have HLJ3 := (HLJ.below hb3).up hb3.size
  obtain ⟨R3, c3, rfl, _, _, k3⟩ := own_lies ho3
  replace hb3 := qtrans hb2 hb3
  clear ho3 hb2 HLJ
  go_wp2_with fail
  refine (CL.out _ _ _ cs _ E1.out ((HL.out.below hb3).up hb3.size) (by omega) HC.out (HE.out.below hb3)).mono ?_
  rintro e w4 ⟨v4, rfl, ho4, hb4⟩
  have HLJ4 := HLJ3.below hb4
  have k4 := (k3.below hb4)
  have hz34 := hb4.size
  replace hb4 := qtrans hb3 hb4
  clear HLJ3 k3
  go_wp2_with fail
  refine (CL.out _ _ _ ds _ E2.out ((HL'.out.below hb4).up hb4.size) (by omega) HC'.out (HE.out.below hb4)).mono ?_
  rintro e w5 ⟨v5, rfl, ho5, hb5⟩
  have HLJ5 := HLJ4.below (hb5.mono hz34)
  have k5 := (k4.below (hb5.mono hz34))
  have ho45 := owns_below ho4 hb5
  obtain ⟨R5, c5, rfl, _, _, r5⟩ := own_lies ho5
  have hb5' := qtrans hb4 hb5
  have hlA := many_length 1 cs
  have hlB := many_length 1 ds
  rw [E1.out] at hlA
  rw [E2.out] at hlB
  go_wp2_with (at_builtin; refine wpList_append_lies _ rfl (.tmp 15) (.tmp 17) 27 rfl w3.heap.size 41 i1 (.agg #[.string ⟨#[]⟩, .string ⟨#[]⟩, .int .i64 0]) 3 40 Tryd.underlying27 gi gz0 gz1 gz2 rfl (by omega) v4 _ _ rfl ho45 w5.heap.size R5 _ c5 _ rfl r5 (lrn_one _) ?m31 ?m32 ?m33 ?_)
  case m31 => unfold maxLen; omega
  case m32 => omega
  case m33 => have := hb5.size; omega
  intro v6 w6 ho6 hg6
  have hb6 : Below w.heap.size w w6 := hb5'.grown hg6 hb5'.size fun k hk => Nat.le_trans hb3.size (ho45.lt k hk).1
  have hz35 : w3.heap.size ≤ w5.heap.size := Nat.le_trans hz34 hb5.size
  have k6 := k5.grown hg6 hz35 fun k hk => (ho45.lt k hk).1
  have HLJ6 := HLJ5.grown hg6 hz35 fun k hk => (ho45.lt k hk).1
  have ho6' : w6.ownsRow w3.heap.size 41 3 v6 (many 1 (cs ++ ds)).length (lrnCells (many 1 (cs ++ ds))) := by
    rw [many_append, List.length_append, lrn_app]
    exact ho6
  have hz6 := Nat.le_trans hz35 hg6.size
  have hlJ : (many 1 (cs ++ ds)).length ≤ n + m := by have := many_length 1 (cs ++ ds); rw [List.length_append, E1.out, E2.out] at this; exact this
  obtain ⟨R6, c6, rfl, _, _, r6⟩ := own_lies ho6'
  clear ho6 ho6' hg6 hb5' hb5 HLJ5 k5 ho45 ho5 r5 hb4 HLJ4 k4 hz34 hz35 hb3 ho4
  go_wp2_with fail
  refine (SL.out _ _ _ _ _ _ _ _ k6 r6 (by omega)).mono ?_
  rintro e w7 ⟨rfl, hb7⟩
  have HLJ7 := (HLJ6.below (hb7.mono hz6)).up (Nat.le_trans hz6 hb7.size)
  replace hb7 := qtrans hb6 hb7
  clear k6 r6 hb6 HLJ6 hz6 hlJ hlA hlB
  go_wp2_with fail
  refine (CP.out _ _ _ (cs ++ ds) _ (by rw [List.length_append, E1.out, E2.out]) HLJ7 (by omega) HJ.out (HE.out.below hb7)).mono ?_
  rintro e x3 ⟨v3, rfl, ho3, hb3⟩
  have HLJ3 := (HLJ7.below hb3).up hb3.size
  obtain ⟨R3', c3', rfl, _, _, k3⟩ := own_lies ho3
  replace hb3 := qtrans hb7 hb3
  clear ho3 hb7 HLJ7
  go_wp2_with fail
  refine (CP.out _ _ _ cs _ E1.out ((HL.out.below hb3).up hb3.size) (by omega) HC.out (HE.out.below hb3)).mono ?_
  rintro e x4 ⟨v4, rfl, ho4, hb4⟩
  have HLJ4 := HLJ3.below hb4
  have k4 := (k3.below hb4)
  have hz34 := hb4.size
  replace hb4 := qtrans hb3 hb4
  clear HLJ3 k3
  go_wp2_with fail
  refine (CP.out _ _ _ ds _ E2.out ((HL'.out.below hb4).up hb4.size) (by omega) HC'.out (HE.out.below hb4)).mono ?_
  rintro e x5 ⟨v5, rfl, ho5, hb5⟩
  have HLJ5 := HLJ4.below (hb5.mono hz34)
  have k5 := (k4.below (hb5.mono hz34))
  have ho45 := owns_below ho4 hb5
  obtain ⟨R5', c5', rfl, _, _, r5⟩ := own_lies ho5
  have hb5' := qtrans hb4 hb5
  have hlA := many_length 2 cs
  have hlB := many_length 2 ds
  rw [E1.out] at hlA
  rw [E2.out] at hlB
  go_wp2_with (at_builtin; refine wpList_append_liesG _ rfl (.tmp 25) (.tmp 27) 31 rfl x3.heap.size 43 i2 (.agg #[.string ⟨#[]⟩, .string ⟨#[]⟩, .int .i64 0]) 3 40 Tryd.underlying31 ki kz0 kz1 kz2 rfl (by omega) v4 _ _ rfl ho45 x5.heap.size R5' _ c5' _ rfl r5 (lrn_one _) ?m41 ?m42 ?m43 ?_)
  case m41 => unfold maxLen; omega
  case m42 => omega
  case m43 => have := hb5.size; omega
  intro v6 x6 ho6 hg6
  have hb6 : Below w.heap.size w x6 := hb5'.grown hg6 hb5'.size fun k hk => Nat.le_trans hb3.size (ho45.lt k hk).1
  have hz35 : x3.heap.size ≤ x5.heap.size := Nat.le_trans hz34 hb5.size
  have k6 := k5.grown hg6 hz35 fun k hk => (ho45.lt k hk).1
  have HLJ6 := HLJ5.grown hg6 hz35 fun k hk => (ho45.lt k hk).1
  have ho6' : x6.ownsRow x3.heap.size 43 3 v6 (many 2 (cs ++ ds)).length (lrnCells (many 2 (cs ++ ds))) := by
    rw [many_append, List.length_append, lrn_app]
    exact ho6
  have hz6 := Nat.le_trans hz35 hg6.size
  have hlJ : (many 2 (cs ++ ds)).length ≤ n + m := by have := many_length 2 (cs ++ ds); rw [List.length_append, E1.out, E2.out] at this; exact this
  obtain ⟨R6', c6', rfl, _, _, r6⟩ := own_lies ho6'
  clear ho6 ho6' hg6 hb5' hb5 HLJ5 k5 ho45 ho5 r5 hb4 HLJ4 k4 hz34 hz35 hb3 ho4
  go_wp2_with fail
  refine (SP.out _ _ _ _ _ _ _ _ k6 r6 (by omega)).mono ?_
  rintro e x7 ⟨rfl, hb7⟩
  have hzz := hb7.size
  have HLJ7 := (HLJ6.below (hb7.mono hz6))
  replace hb7 := qtrans hb6 hb7
  clear k6 r6 hb6 HLJ6 hlJ hlA hlB
  go_wp2_with fail
  have hz7 : x3.heap.size ≤ x7.heap.size := Nat.le_trans hz6 (Nat.le_trans (Nat.le_refl _) hzz)
  clear hz6
  go_loopw [6] (fun i wr => ∃ k : Nat, k ≤ n + m ∧ i = .int .i64 (k : Int) ∧ Lies wr x3.heap.size 2 J (n + m) (cntCells (cs ++ ds)) ∧ Below w.heap.size w wr ∧ x3.heap.size ≤ wr.heap.size) (fun i _ => n + m - (intOf i).toNat)
  case atStart => exact ⟨0, Nat.zero_le _, rfl, HLJ7, hb7, hz7⟩
  case round =>
    clear HLJ7 hb7 hz7
    obtain ⟨k, hk, rfl, hlj, hbw, hzw⟩ := hrel
    by_cases hlt : k < n + m
    · obtain ⟨c, hck⟩ : ∃ c, (cs ++ ds)[k]? = some c := ⟨_, List.getElem?_eq_getElem (by rw [List.length_append, E1.out, E2.out]; exact hlt)⟩
      obtain ⟨q0, q1⟩ := cntCells_at _ k c hck
      have hlig : Light [c] := fun d hd => by
        have : d = c := by simpa using hd
        subst this
        exact HJ.out d (List.mem_of_getElem? hck)
      obtain ⟨b, off, rfl, hb, c0, c1⟩ := hlj.at2 hlt q0 q1
      have hsum := one_once c
      have HK := Lib.hid (show ∀ W : World, Below wr.heap.size wr W → Lies W W.heap.size 2 (some ⟨b, off + k * 2, none⟩) 1 (cntCells [c]) from fun W hW => by
        refine ⟨rfl, fun _ => ⟨b, off + k * 2, rfl, Nat.lt_of_lt_of_le hb (Nat.le_trans hzw hW.size), fun j u hu => ?_⟩⟩
        match j, hu with
        | 0, hu => obtain rfl : Value.string c.1 = u := by simpa [cntCells] using hu
                   exact cell_later hW c0
        | 1, hu => obtain rfl : Value.int .i64 c.2 = u := by simpa [cntCells] using hu
                   exact cell_later hW c1
        | j + 2, hu => simp [cntCells] at hu)
      have C1 := Lib.hid fun W (hW : Below wr.heap.size wr W) => Calls.mono (R' := LenPost (many 1 [c]).length wr) (CL.out (some ⟨b, off + k * 2, none⟩) 1 (capJ - k) [c] W rfl (HK.out W hW) (by omega) hlig (HE.out.below (qtrans hbw hW))) fun _ _ h => len_post hW h
      have C2 := Lib.hid fun W (hW : Below wr.heap.size wr W) => Calls.mono (R' := LenPost (many 2 [c]).length wr) (CP.out (some ⟨b, off + k * 2, none⟩) 1 (capJ - k) [c] W rfl (HK.out W hW) (by omega) hlig (HE.out.below (qtrans hbw hW))) fun _ _ h => len_post hW h
      have HLJ := Lib.hid hlj
      have hck' : ¬ capJ = k := by omega
      unfold maxLen at hJ2
      clear q0 q1 hck c0 c1 hlj hlig HK hm hm'
      generalize hN1 : (many 1 [c]).length = N1 at *
      generalize hN2 : (many 2 [c]).length = N2 at *
      have H1 := Lib.hid hN1
      have H2 := Lib.hid hN2
      clear hN1 hN2
      go_wp2_with fail
      have g1 : IntKind.i64.wrap ((k : Int) + 1) = (k : Int) + 1 := IntWalk.i64_in _ (by omega)
      have g2 : (0 : Int) ≤ (k : Int) + 1 := by omega
      have g3 : ((k : Int) + 1).toNat = k + 1 := by omega
      have g4 : (k : Int) ≤ (k : Int) + 1 := by omega
      have g5 : (k : Int) + 1 ≤ (capJ : Int) := by omega
      have g6 : k + 1 ≤ capJ := by omega
      have g7 : k + 1 - k = 1 := by omega
      have g8 : k ≤ capJ := by omega
      have g9 : IntKind.i64.wrap ((N1 : Int) + (N2 : Int)) = (N1 : Int) + (N2 : Int) := IntWalk.i64_in _ (by omega)
      have g10 : decide ((1 : Int) < (N1 : Int) + (N2 : Int)) = false := decide_eq_false (by omega)
      have g11 : decide (1 < N1 + N2) = false := decide_eq_false (by omega)
      go_region_with (first | (go_at_call 14; refine (C1.out _ (by exact (Below.refl _ _).drew)).mono ?_; rintro e w8 ⟨A8, c8, rfl, hb8⟩) | (go_at_call 17; refine (C2.out _ (by exact hb8)).mono ?_; rintro e w9 ⟨A9, c9, rfl, hb9⟩))
      all_goals
        clear g1 g2 g3 g4 g5 g6 g7 g8 g9
        go_wp2_with fail
        go_roundw
        case rel => exact ⟨k + 1, by omega, by go_num, HLJ.out.below (hb9.mono hzw), qtrans hbw hb9, Nat.le_trans hzw hb9.size⟩
        case measure => simp [intOf]; omega
    · go_wp2_with fail
      refine (CW.out _ (HE.out.below hbw)).mono ?_
      rintro e w8 ⟨rfl, hb8⟩
      go_wp2_with fail
      go_ret
      exact ⟨rfl, qtrans hbw hb8⟩

theorem boostJoins_lifted (os : Os) (started : os.Started) (H : Type) (enc : TypeId × Value → H) (F : Stop.Interp) :
    ReturnsInHanded {} Tryd.checked os 8 .any ((Rows.OpenSpec.upto Rows.boostJoinsSpec).preRow enc Tryd.prog Tryd.f8 Rows.boostJoinsUptoRow.domain false Rows.boostJoinsUptoRow.laid) (((Rows.OpenSpec.upto Rows.boostJoinsSpec).at F).post enc Tryd.prog Tryd.f8 false true false false) := by
  have hx : ∃ ps, DataW.whole enc Tryd.prog ((World.laidAll Tryd.prog os laidOf).forCall (fun _ _ => 0) ⟨#[], #[.slice none 0 0, .slice none 0 0], []⟩).memory Tryd.f8.params.toList Rows.boostJoinsSpec.vars false #[.slice none 0 0, .slice none 0 0].toList 8 = some ([.nil, .nil], [], ps) := ⟨[], by kernel_rfl⟩
  obtain ⟨ps, hx⟩ := hx
  refine returnsInHanded_of_row (C := Tryd.checked) (s := Rows.OpenSpec.upto Rows.boostJoinsSpec) own started (by kernel_rfl) Tryd.func8
    (witness_row_shaped (enc := enc) (C := Tryd.checked) (os := os) false (World.laidAll Tryd.prog os laidOf) #[.slice none 0 0, .slice none 0 0] (World.laidAll_os _ _ _)
      (World.shaped_of_ZipB (by kernel_rfl) (by kernel_rfl)) (by kernel_rfl)
      (OpenSpec.preRow_of_cond 8 hx (by kernel_rfl) (fun k hk => by cases hk; kernel_rfl) (by kernel_rfl)
        (show laidMetH Tryd.prog laidOf _ by rw [MakeChecks.laidMetH_plain _ _ _ laidOf_plain]; exact laidMet_laidAll _ (by kernel_rfl) (by kernel_rfl)))) ?_
  intro W base args ds gs before hval0 hW _ hcond hz hL hsh _
  have hval : ∀ (j : Nat) t v, Tryd.f8.params[j]? = some t → args[j]? = some v → Value.okWide Tryd.prog W .any base t v := hval0
  have hW' := hW
  obtain ⟨p, q, hA0, hV, rfl, _, _⟩ := hW
  obtain ⟨rfl, rfl⟩ := trodVars_none hV
  have hA : DataW.TrodAll enc Tryd.prog W 0 (fun _ => true) true Tryd.f8.params.toList args.toList ds p := hA0
  have hpar : Tryd.f8.params = #[25, 25] := by kernel_rfl
  rw [hpar] at hA hval
  obtain ⟨v0, v1, d0, d1, p0, p1, hargs, rfl, rfl, h0, h1⟩ := trodAll_two hA
  obtain rfl : args = #[v0, v1] := by first | exact hargs | (cases args; simp_all)
  have hbulk := bulk_bound (hcond _ rfl)
  have K0 : Rows.uptoBulk d0 ≤ 1048576 := Nat.le_trans (bulk_part (by simp)) hbulk
  have K1 : Rows.uptoBulk d1 ≤ 1048576 := Nat.le_trans (bulk_part (by simp)) hbulk
  obtain ⟨A0, cap0, ss0, rfl, hc0, hm0, hl0, hb0, he0⟩ := open_pairs Tryd.underlying25 Tryd.underlying39 (by kernel_rfl) rfl rfl (by kernel_rfl) (by kernel_rfl) Tryd.underlying9 Tryd.underlying3 (hval 0 25 v0 rfl rfl) h0
  obtain ⟨A1, cap1, ss1, rfl, hc1, hm1, hl1, hb1, he1⟩ := open_pairs Tryd.underlying25 Tryd.underlying39 (by kernel_rfl) rfl rfl (by kernel_rfl) (by kernel_rfl) Tryd.underlying9 Tryd.underlying3 (hval 1 25 v1 rfl rfl) h1
  refine (boostJoins_calls A0 cap0 ss0 A1 cap1 ss1 W hl0 hc0 hm0 (Nat.le_trans hb0 K0) (fun s hs => ⟨Nat.le_trans (he0 s hs).1 K0, (he0 s hs).2.2⟩) hl1 hc1 hm1 (Nat.le_trans hb1 K1) (fun s hs => ⟨Nat.le_trans (he1 s hs).1 K1, (he1 s hs).2.2⟩) (env_of hL hsh)).mono fun e W' ⟨he, hbl⟩ => ?_
  subst he
  exact ⟨_, rfl, law_post (s := Rows.boostJoinsSpec) rfl rfl (by kernel_rfl) hW' rfl rfl rfl hbl⟩

theorem boostJoins_row : Rows.BoostJoinsUptoSaid :=
  OpenClaim.holds_of_cond 8 Tryd.f8 rfl rfl rfl rfl rfl rfl rfl ⟨rfl, rfl, rfl, rfl, rfl⟩ rfl rfl rfl rfl rfl (by kernel_rfl) Tryd.func8 (by kernel_rfl)
    (of_decide_eq_true (by kernel_rfl)) (by unfold Func.isWrapper; first | (rw [if_pos (by decide +kernel)]; kernel_rfl) | (rw [if_neg (by decide +kernel)]; exact ⟨rfl, rfl⟩))
    (fun os started H enc _ F => by rw [OpenClaim.pre_eq_preRow]; exact boostJoins_lifted os started H enc F)
theorem boostJoins_holds : Rows.BoostJoinsUptoCardSaid :=
  Claim7.holds_tied_plain_at .later [] [.data, .pinned] true Rows.boostJoinsUptoCard.stood.harness false boostJoins_row (fun _ h => by cases h) (by kernel_rfl) (fun _ h => by cases h) boostJoinsUpto_row_tie rfl ⟨rfl, rfl⟩ (by kernel_rfl) rfl
    (fun f fn hf hfn => by
      obtain rfl : f = 8 := Option.some.inj ((show Tryd.prog.funcNamed Rows.boostJoinsUptoRow.func = some 8 by kernel_rfl).symm.trans hf) |>.symm
      obtain rfl : fn = Tryd.f8 := (Option.some.inj (Tryd.func8.symm.trans hfn)).symm
      exact ⟨by kernel_rfl, fun j t ht => by
        have hpar : Tryd.f8.params = #[25, 25] := by kernel_rfl
        rw [hpar] at ht
        have hm : t ∈ [25, 25] := by simpa using Array.mem_of_getElem? ht
        have hall : ([25, 25].all fun u => !Tryd.prog.wantsStandIn u) = true := by kernel_rfl
        exact (show Tryd.prog.wantsStandIn t = false by simpa using List.all_eq_true.1 hall t hm)⟩)
    (by kernel_rfl)
#print axioms boostJoins_holds
end Go.Proofs.YtipocnkaemkegaaDoor
