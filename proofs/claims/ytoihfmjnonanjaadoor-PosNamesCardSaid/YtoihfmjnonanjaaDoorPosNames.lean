/- Proved: henkanlaw15.PosNames returns true for every list: in a valid list each name is found at its place. No condition of ours. -/
import Derived.Test.YtoihfmjnonanjaaDoorPosAI
namespace Go.Proofs.YtoihfmjnonanjaaDoor
open Go.ChangeShapes Go.WideShapes Go.ChangeAt Go.RowKit Go.Lib Go.Shelf Hk
open Go.ChangeMaps (open_string shut_string)
set_option linter.unusedSimpArgs false
set_option linter.unusedVariables false
set_option maxRecDepth 100000

theorem findN_place {l : List P2} {k : Nat} {p : P2} (h : l[k]? = some p) : findN l p.1 ≤ k := by
  obtain ⟨hlt, rfl⟩ := List.getElem?_eq_some_iff.1 h
  by_cases hh : findN l l[k].1 ≤ k
  · exact hh
  · exfalso
    have := List.not_of_lt_findIdx (xs := l) (p := fun q : P2 => decide (q.1 = l[k].1)) (i := k) (by unfold findN at hh; omega)
    simp at this
theorem findN_ok {l : List P2} {k : Nat} {p : P2} (h : l[k]? = some p) (ho : okB l = true) : findN l p.1 = k := by
  obtain ⟨hlt, rfl⟩ := List.getElem?_eq_some_iff.1 h
  exact (nodup_find l).1 (of_decide_eq_true ho).2.2.2.2 k hlt
set_option maxHeartbeats 4000000 in
theorem posNames_calls (A : Option Addr) (cap : Nat) (l : List P2) (w : World) (hl : Lies w w.heap.size 2 A l.length (pcells l)) (hc : l.length ≤ cap) (hm : cap ≤ maxLen) (hr : l.length * 24 ≤ 140737488351232) (hf : Fit l) (he : Env w) :
    Calls Tryd.prog 8 #[.slice A l.length cap] w fun e w' => e = .returned (.bool true) ∧ Below w.heap.size w w' := by
  have hn : l.length ≤ maxLen := by omega
  have HE := Lib.hid he
  have CW := Lib.hid works_calls
  have HL := Lib.hid hl
  have CF := Lib.hid fun (W : World) s (h : Lies W W.heap.size 2 A l.length (pcells l)) => find_calls A cap l s W h hn
  have CC := Lib.hid fun (W : World) (h : Lies W W.heap.size 2 A l.length (pcells l)) => check_calls A cap l W h hn
  clear he hl hf hc hm
  obtain ⟨n, hnn⟩ : ∃ n, n = l.length := ⟨_, rfl⟩
  have HN := Lib.hid hnn
  rw [← hnn] at CF CC HL hn hr ⊢
  unfold maxLen at hn
  clear hnn
  go_enter Tryd.func8, Tryd.ntmps8
  go_wp2_with fail
  go_loopw [8] (fun i wr => ∃ k : Nat, k ≤ n ∧ i = .int .i64 (k : Int) ∧ Below w.heap.size w wr) (fun i _ => n - (intOf i).toNat)
  case atStart => exact ⟨0, Nat.zero_le _, rfl, Below.refl _ _⟩
  case round =>
    obtain ⟨k, hk, rfl, hbw⟩ := hrel
    by_cases hlt : k < n
    · obtain ⟨x, hx⟩ : ∃ x, l[k]? = some x := ⟨_, List.getElem?_eq_getElem (by rw [← HN.out]; exact hlt)⟩
      obtain ⟨q0, q1⟩ := pcells_at l k x hx
      have hlw := HL.out.below hbw
      obtain ⟨b, off, rfl, _, c0, c1⟩ := hlw.at2 hlt q0 q1
      have hfi := findI_mem hx
      have hfb : findB l x.1 = true := decide_eq_true hfi.2
      have hpl := findN_place hx
      have hok := fun h => findN_ok hx h
      have hat := findN_at l x.1 hfi.2
      obtain ⟨y, hy⟩ : ∃ y, l[findN l x.1]? = some y := ⟨_, List.getElem?_eq_getElem hfi.2⟩
      have hy1 : y.1 = x.1 := by
        rw [List.getElem?_eq_getElem hfi.2] at hy
        rw [← Option.some.inj hy]
        exact hat
      have hfl : findN l x.1 < n := by rw [HN.out]; exact hfi.2
      obtain ⟨d0, d1⟩ := pcells_at l (findN l x.1) y hy
      obtain ⟨b', off', hbo, _, d0, d1⟩ := hlw.at2 hfl d0 d1
      obtain ⟨rfl, rfl⟩ : b = b' ∧ off = off' := by simp at hbo; exact hbo
      have C1 := Lib.hid (CF.out wr x.1 (hlw.up hbw.size))
      rw [hfi.1, hfb] at C1
      rw [hy1] at d0
      obtain ⟨xn, xk⟩ := x
      simp only at c0 c1 d0 d1 C1 hpl hok hfl
      have HK := Lib.hid hok
      have HLW := Lib.hid (hlw.up hbw.size)
      clear q0 q1 hlw hx hfi hfb hat hy hy1 hbo hok CF
      generalize findN l xn = fk at *
      have s0 : (xn.toList == xn.toList) = true := by simp
      have s2 : (xn.toList != xn.toList) = false := by simp
      go_wp2_with fail
      refine C1.out.mono ?_
      rintro e w1 ⟨rfl, hb1⟩
      replace c0 := cell_later hb1 c0
      replace d0 := cell_later hb1 d0
      have hbd : Below wr.heap.size wr w1.drew := hb1.trans ⟨rfl, rfl, rfl, Nat.le_refl _, fun _ _ => rfl⟩
      have C2 := Lib.hid (CC.out w1.drew ((HLW.out.below hbd).up hbd.size))
      have hbw1 := qtrans hbw hbd
      clear c1 d1 hb1 C1 HLW hbd hbw
      cases hok : okB l with
      | true =>
        have h0 := checkI_yes hok
        obtain rfl := HK.out hok
        have s1 : ((fk : Int) != (fk : Int)) = false := by simp
        have qd : decide ((fk : Int) < (fk : Int)) = false := by simp
        rw [h0] at C2
        clear h0 hok HK d0
        go_wp2_with fail
        go_region_held3 (fun w' => w'.cell? ⟨b, off + fk * 2, none⟩ = some (.string xn)) (first | go_keep | exact cell_later hb2 c0) (first | (go_at_call 19; refine C2.out.mono ?_; rintro e w2 ⟨rfl, hb2⟩))
        all_goals
          go_wp2_with fail
          go_roundw
          (case rel => exact ⟨fk + 1, by omega, by go_num, qtrans hbw1 hb2⟩)
          (case measure => simp [intOf]; omega)
      | false =>
        have h0 := checkI_no hok
        have qd : decide ((k : Int) < (fk : Int)) = false := decide_eq_false (by omega)
        have qdn : decide (k < fk) = false := decide_eq_false (by omega)
        rw [h0] at C2
        clear h0 hok HK
        go_wp2_with fail
        first | (go_region_held (fun w' => w'.cell? ⟨b, off + k * 2, none⟩ = some (.string xn) ∧ w'.cell? ⟨b, off + fk * 2, none⟩ = some (.string xn)) (first | go_keep | exact ⟨cell_later hb2 c0, cell_later hb2 d0⟩) (first | (go_at_call 19; refine C2.out.mono ?_; rintro e w2 ⟨rfl, hb2⟩))) | trace_state
        all_goals
          go_wp2_with fail
          go_roundw
          (case rel => exact ⟨k + 1, by omega, by go_num, qtrans hbw1 hb2⟩)
          (case measure => simp [intOf]; omega)
    · go_wp2_with fail
      refine (CW.out _ (HE.out.below hbw)).mono ?_
      rintro e w2 ⟨rfl, hb2⟩
      replace hb2 := qtrans hbw hb2
      go_wp2_with fail
      go_ret
      exact ⟨rfl, hb2⟩

theorem posNames_lifted (os : Os) (started : os.Started) (H : Type) (enc : TypeId × Value → H) :
    ReturnsInHanded {} Tryd.checked os 8 .any (fun w args => (Rows.posNamesSpec.pre enc Tryd.prog Tryd.f8 Rows.posNamesRow.domain false w args ∧ laidMetH Tryd.prog laidOf w) ∧ sizedMet enc Tryd.prog Tryd.f8 (OpenSpec.ofChange Rows.posNamesSpec) false w args)
      (Rows.posNamesSpec.post enc Tryd.prog Tryd.f8 false true false false) := by
  refine returns_shaped (C := Tryd.checked) (X := fun w _ => laidMetH Tryd.prog laidOf w) (fun _ _ _ hh h => h.of_heap hh) own started (by kernel_rfl) Tryd.func8
    (ChangeSpec.witness_shaped (enc := enc) (C := Tryd.checked) (os := os) (X := fun w _ => laidMetH Tryd.prog laidOf w) false (World.laidAll Tryd.prog os laidOf) #[.slice none 0 0] 8 (World.laidAll_os _ _ _)
      (World.shaped_of_ZipB (by kernel_rfl) (by kernel_rfl)) (by kernel_rfl) (by kernel_rfl) (by kernel_rfl)
      (by rw [MakeChecks.laidMetH_plain _ _ _ laidOf_plain]; exact laidMet_laidAll _ (by kernel_rfl) (by kernel_rfl))) ?_
  intro W base args ds gs before hval0 hW hz hL hsh
  have hval : ∀ (j : Nat) t v, Tryd.f8.params[j]? = some t → args[j]? = some v → Value.okWide Tryd.prog W .any base t v := hval0
  have hW' := hW
  obtain ⟨p, q, hA0, hV, rfl, _, _⟩ := hW
  have hA : DataW.TrodAll enc Tryd.prog W 0 (fun _ => true) true Tryd.f8.params.toList args.toList ds p := hA0
  have hpar : Tryd.f8.params = #[24] := by kernel_rfl
  rw [hpar] at hA hval
  obtain ⟨v0, d0, hargs, rfl, h0⟩ := trodAll_one hA
  obtain rfl : args = #[v0] := by first | exact hargs | (cases args; simp_all)
  obtain ⟨A0, cap0, ss0, rfl, hc0, hm0, hl0, hb0, he0⟩ := open_pos (j := 0) (hval 0 24 v0 rfl rfl) h0 hz rfl rfl
  refine (posNames_calls A0 cap0 ss0 W hl0 hc0 hm0 hb0 he0 (env_of hL hsh)).mono fun e W' ⟨he, hbl⟩ => ?_
  subst he
  exact ⟨_, rfl, law_post rfl rfl (by kernel_rfl) hW' rfl rfl rfl hbl⟩

theorem posNames_row : Rows.PosNamesSaid :=
  OpenClaim.holds_of_wide 8 Tryd.f8 rfl rfl rfl rfl rfl rfl rfl ⟨rfl, rfl, rfl, rfl, rfl⟩ rfl rfl rfl rfl rfl (by kernel_rfl) Tryd.func8 (by kernel_rfl)
    (of_decide_eq_true (by kernel_rfl)) (by unfold Func.isWrapper; first | (rw [if_pos (by decide +kernel)]; kernel_rfl) | (rw [if_neg (by decide +kernel)]; exact ⟨rfl, rfl⟩))
    (fun os started H enc _ => posNames_lifted os started H enc)
theorem posNames_holds : Rows.PosNamesCardSaid :=
  Claim7.holds_tied_plain_at .later [] [.data, .widerDeep, .pinned] true Rows.posNamesCard.stood.harness true posNames_row (fun _ h => by cases h) (by kernel_rfl) (fun _ h => by cases h) posNames_row_tie rfl ⟨rfl, rfl⟩ (by kernel_rfl) rfl
    (fun f fn hf hfn => by
      obtain rfl : f = 8 := Option.some.inj ((show Tryd.prog.funcNamed Rows.posNamesRow.func = some 8 by kernel_rfl).symm.trans hf) |>.symm
      obtain rfl : fn = Tryd.f8 := (Option.some.inj (Tryd.func8.symm.trans hfn)).symm
      exact ⟨by kernel_rfl, fun j t ht => by
        have hpar : Tryd.f8.params = #[24] := by kernel_rfl
        rw [hpar] at ht
        have hm : t ∈ [24] := by simpa using Array.mem_of_getElem? ht
        have hall : ([24].all fun u => !Tryd.prog.wantsStandIn u) = true := by kernel_rfl
        exact (show Tryd.prog.wantsStandIn t = false by simpa using List.all_eq_true.1 hall t hm)⟩)
    (by kernel_rfl)
#print axioms posNames_holds
end Go.Proofs.YtoihfmjnonanjaaDoor
