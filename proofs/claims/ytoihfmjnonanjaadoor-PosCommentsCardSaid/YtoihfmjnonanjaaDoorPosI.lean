/- What pos.Check computes. -/
import Derived.Test.YtoihfmjnonanjaaDoorPosH
import Derived.Laws.StructEq
namespace Go.Proofs.YtoihfmjnonanjaaDoor
open Go.RowKit Go.Lib Go.Shelf Hk
set_option linter.unusedSimpArgs false
set_option linter.unusedVariables false
set_option maxRecDepth 100000

/-- What Check returns. -/
def checkI (l : List P2) : Int := if okB l = true then 0 else 5
theorem checkI_no {l : List P2} (h : okB l = false) : checkI l = 5 := by unfold checkI; rw [h]; rfl
theorem checkI_yes {l : List P2} (h : okB l = true) : checkI l = 0 := by unfold checkI; rw [if_pos h]

set_option maxHeartbeats 4000000 in
theorem check_calls (A : Option Addr) (cap : Nat) (l : List P2) (w : World) (hl : Lies w w.heap.size 2 A l.length (pcells l)) (hn : l.length ≤ maxLen) :
    Calls Tryd.prog 19 #[.slice A l.length cap] w fun e w' => e = .returned (.int .i64 (checkI l)) ∧ Below w.heap.size w w' := by
  have CF := Lib.hid fun W s (h : Lies W W.heap.size 2 A l.length (pcells l)) => find_calls A cap l s W h hn
  have CN := Lib.hid named_calls
  unfold maxLen at hn
  by_cases h0 : l.length = 0
  · have HX := Lib.hid (checkI_no (okB_head l (by omega)))
    rw [h0]
    clear h0 hl CF CN
    go_enter Tryd.func19, Tryd.ntmps19
    go_wp2_with fail
    go_ret
    exact ⟨ret_i64 HX.out.symm, Below.refl _ _⟩
  · by_cases h64 : 64 < l.length
    · have HX := Lib.hid (checkI_no (okB_head l (by omega)))
      have h1 : 1 ≤ l.length := by omega
      have q : ((l.length : Int) == 0) = false := by rw [beq_eq_false_iff_ne]; omega
      clear h0 hl CF CN
      generalize l.length = n at *
      go_enter Tryd.func19, Tryd.ntmps19
      go_wp2_with fail
      go_ret
      exact ⟨ret_i64 HX.out.symm, Below.refl _ _⟩
    · have h1 : 1 ≤ l.length := by omega
      have h2 : l.length ≤ 64 := by omega
      obtain ⟨p, hp⟩ : ∃ p, l[0]? = some p := ⟨_, List.getElem?_eq_getElem (by omega)⟩
      obtain ⟨q0, q1⟩ := pcells_at l 0 p hp
      obtain ⟨b, off, rfl, hab, c0, c1⟩ := hl.at2 (by omega) q0 q1
      simp only [Nat.zero_mul, Nat.add_zero] at c0 c1
      have HL := Lib.hid hl
      have q : ((l.length : Int) == 0) = false := by rw [beq_eq_false_iff_ne]; omega
      clear hl q0 q1 h0 h64
      have hq := eq_toList p.1 bosB
      rw [bos_list] at hq
      obtain ⟨n, hnn⟩ : ∃ n, n = l.length := ⟨_, rfl⟩
      have HN := Lib.hid hnn
      rw [← hnn] at h1 h2 hn CF q ⊢
      clear hnn
      by_cases hb : p.1 = bosB
      · rw [decide_eq_true hb] at hq
        by_cases hk : p.2 = 0
        · have HH : Hid (1 ≤ l.length ∧ l.length ≤ 64 ∧ l[0]? = some (bosB, 0)) := by
            show _ ∧ _
            obtain ⟨pn, pk⟩ := p
            simp only at hb hk
            subst hb hk
            rw [← HN.out]
            exact ⟨h1, h2, hp⟩
          rw [hk] at c1
          rw [hb] at c0
          unfold bosB at c0
          clear hp hb hq hk
          go_enter Tryd.func19, Tryd.ntmps19
          go_wp2_with fail
          clear q
          go_loopw [24] (fun i wr => ∃ k : Nat, k ≤ n ∧ i = .int .i64 (k : Int) ∧ Hid (OkFrom l k) ∧ Below w.heap.size w wr) (fun i _ => n - (intOf i).toNat)
          case atStart => exact ⟨0, Nat.zero_le _, rfl, fun j hj h => by omega, Below.refl _ _⟩
          case round =>
            obtain ⟨k, hk, rfl, HT, hbw⟩ := hrel
            clear c0 c1
            by_cases hlt : k < n
            · obtain ⟨x, hx⟩ : ∃ x, l[k]? = some x := ⟨_, List.getElem?_eq_getElem (by rw [← HN.out]; exact hlt)⟩
              obtain ⟨q0, q1⟩ := pcells_at l k x hx
              have hlw := HL.out.below hbw
              rw [← HN.out] at hlw
              obtain ⟨b', off', hbo, _, c0, c1⟩ := hlw.at2 hlt q0 q1
              obtain ⟨rfl, rfl⟩ : b = b' ∧ off = off' := by simp at hbo; exact hbo
              have HXX := Lib.hid hx
              have hfi := findI_mem hx
              have HB := Lib.hid (@okAt_bad l k x hx)
              have HG := Lib.hid (@okAt_good l k x)
              have hb1 : Below wr.heap.size wr (wr.alloc (.cells #[.string x.1, .int .i64 x.2] 33)) := (Below.refl _ _).alloc (Nat.le_refl _) _
              have hlf := ((hlw.up hbw.size).below hb1).up hb1.size
              have hbw1 := qtrans hbw hb1
              clear q0 q1 hlw hx hbo hb1
              obtain ⟨xn, xk⟩ := x
              simp only at c0 c1 hlf hbw1
              have C1 := Lib.hid (CF.out _ xn hlf)
              have C2 := Lib.hid fun W => CN.out xn W
              simp only [hfi.1] at C1
              have hfl : findN l xn < n := by rw [HN.out]; exact hfi.2
              clear hfi hlf
              simp only at HB HG
              generalize findN l xn = fk at *
              generalize nameD xn = nm at *
              generalize findB l xn = fb at *
              have e0 : (wr.alloc (.cells #[.string xn, .int .i64 xk] 33)).cell? ⟨wr.heap.size, 0, none⟩ = some (.string xn) := by simp
              have e1 : (wr.alloc (.cells #[.string xn, .int .i64 xk] 33)).cell? ⟨wr.heap.size, 1, none⟩ = some (.int .i64 xk) := by simp
              have E0 := Lib.hid e0
              have E1 := Lib.hid e1
              clear e0 e1
              by_cases hfk : fk = k
              · subst hfk
                have qk : ((fk : Int) != (fk : Int)) = false := by simp
                cases nm with
                | false =>
                  have HR := Lib.hid (checkI_no (HB.out (.inr (.inl rfl))))
                  clear HB HG HT
                  go_wp2_with fail
                  refine C1.out.mono ?_
                  rintro e w1 ⟨rfl, hb1⟩
                  have d0 := cell_later hb1 E0.out
                  have d1 := cell_later hb1 E1.out
                  have hbw2 := qtrans hbw1 hb1
                  clear hb1 hbw hbw1 c0 c1 C1
                  go_wp2_with fail
                  refine (C2.out _).mono ?_
                  rintro e w2 ⟨rfl, hb2⟩
                  have hbw3 := qtrans hbw2 hb2
                  clear hb2 hbw2 d0 d1
                  go_wp2_with fail
                  go_ret
                  exact ⟨ret_i64 HR.out.symm, hbw3⟩
                | true =>
                  by_cases hc : 0 ≤ xk ∧ xk ≤ 2
                  · obtain ⟨hc1, hc2⟩ := hc
                    have HT2 := Lib.hid (HT.out.next HXX.out (HG.out rfl rfl hc1 hc2))
                    clear HB HG HT
                    go_wp2_with fail
                    refine C1.out.mono ?_
                    rintro e w1 ⟨rfl, hb1⟩
                    have d0 := cell_later hb1 E0.out
                    have d1 := cell_later hb1 E1.out
                    have hbw2 := qtrans hbw1 hb1
                    clear hb1 hbw hbw1 c0 c1 C1
                    go_wp2_with fail
                    refine (C2.out _).mono ?_
                    rintro e w2 ⟨rfl, hb2⟩
                    have d1' := cell_later hb2 d1
                    have hbw3 := qtrans hbw2 hb2
                    clear hb2 hbw2 d0 d1
                    go_wp2_with fail
                    go_roundw
                    case rel => exact ⟨fk + 1, by omega, by go_num, HT2, hbw3⟩
                    case measure => simp [intOf]; omega
                  · have HR := Lib.hid (checkI_no (HB.out (by simp; omega)))
                    have HC := Lib.hid hc
                    clear HB HG HT hc
                    go_wp2_with fail
                    refine C1.out.mono ?_
                    rintro e w1 ⟨rfl, hb1⟩
                    have d0 := cell_later hb1 E0.out
                    have d1 := cell_later hb1 E1.out
                    have hbw2 := qtrans hbw1 hb1
                    clear hb1 hbw hbw1 c0 c1 C1
                    go_wp2_with fail
                    refine (C2.out _).mono ?_
                    rintro e w2 ⟨rfl, hb2⟩
                    have d1' := cell_later hb2 d1
                    have hbw3 := qtrans hbw2 hb2
                    clear hb2 hbw2 d0 d1
                    go_wp2_with fail
                    all_goals first
                      | (go_ret; exact ⟨ret_i64 HR.out.symm, hbw3⟩)
                      | (exfalso; have := HC.out; simp_all; omega)
              · have HR := Lib.hid (checkI_no (HB.out (.inl hfk)))
                have qk : ((fk : Int) != (k : Int)) = true := by rw [bne_iff_ne]; omega
                clear HB HG HT hfk
                go_wp2_with fail
                refine C1.out.mono ?_
                rintro e w1 ⟨rfl, hb1⟩
                have d0 := cell_later hb1 E0.out
                have d1 := cell_later hb1 E1.out
                have hbw2 := qtrans hbw1 hb1
                clear hb1 hbw hbw1 c0 c1 C1
                go_wp2_with fail
                go_ret
                exact ⟨ret_i64 HR.out.symm, hbw2⟩
            · obtain rfl : k = n := by omega
              have HR : Hid (okB l = true) := okB_true l HH.out fun j hj => HT.out j hj (by rw [HN.out]; exact hj)
              clear HT
              go_wp2_with fail
              go_ret
              exact ⟨ret_i64 (checkI_yes HR.out).symm, hbw⟩
        · have HX : Hid (okB l = false) := okB_head l (by rintro ⟨_, _, h⟩; rw [hp] at h; simp at h; rw [h] at hk; exact hk rfl)
          have hk2 : (p.2 == 0) = false := by simpa using hk
          obtain ⟨pn, pk⟩ := p
          simp only at hb c0 c1 hk2 hq
          subst hb
          unfold bosB at c0
          clear hp CF CN hk hq
          go_enter Tryd.func19, Tryd.ntmps19
          go_wp2_with fail
          go_ret
          exact ⟨ret_i64 (checkI_no HX.out).symm, Below.refl _ _⟩
      · have HX : Hid (okB l = false) := okB_head l (by rintro ⟨_, _, h⟩; rw [hp] at h; simp at h; rw [h] at hb; exact hb rfl)
        rw [decide_eq_false hb] at hq
        obtain ⟨pn, pk⟩ := p
        simp only at c0 c1 hq
        clear hp CF CN hb
        go_enter Tryd.func19, Tryd.ntmps19
        go_wp2_with fail
        go_ret
        exact ⟨ret_i64 (checkI_no HX.out).symm, Below.refl _ _⟩
end Go.Proofs.YtoihfmjnonanjaaDoor
