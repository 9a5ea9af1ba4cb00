/- What the reference's Valid and pos.Check compute. -/
import Derived.Test.YtoihfmjnonanjaaDoorPosG
namespace Go.Proofs.YtoihfmjnonanjaaDoor
open Go.RowKit Go.Lib Go.Shelf Hk
set_option linter.unusedSimpArgs false
set_option linter.unusedVariables false
set_option maxRecDepth 100000

theorem findI_mem {l : List P2} {k : Nat} {p : P2} (h : l[k]? = some p) : findI l p.1 = (findN l p.1 : Int) ∧ findN l p.1 < l.length := by
  have hlt : findN l p.1 < l.length := (findN_lt_iff l p.1).2 (List.mem_map.2 ⟨p, List.mem_of_getElem? h, rfl⟩)
  unfold findI
  rw [if_pos hlt]
  exact ⟨rfl, hlt⟩
def OkFrom (l : List P2) (k : Nat) : Prop := ∀ j (hj : j < l.length), j < k → okAt l j l[j] = true
theorem OkFrom.next {l : List P2} {k : Nat} {p : P2} (h : OkFrom l k) (hk : l[k]? = some p) (ho : okAt l k p = true) : OkFrom l (k + 1) := by
  intro j hj hjk
  obtain ⟨hlt, rfl⟩ := List.getElem?_eq_some_iff.1 hk
  by_cases e : j = k
  · subst e; exact ho
  · exact h j hj (by omega)
theorem okAt_bad {l : List P2} {k : Nat} {p : P2} (hk : l[k]? = some p) (h : findN l p.1 ≠ k ∨ nameD p.1 = false ∨ p.2 < 0 ∨ 2 < p.2) : okB l = false := by
  obtain ⟨hlt, rfl⟩ := List.getElem?_eq_some_iff.1 hk
  refine okB_at l k hlt ?_
  unfold okAt
  rcases h with h | h | h | h
  · have : (findN l l[k].1 == k) = false := by simpa using h
    simp [this]
  · simp [h]
  · have : decide (0 ≤ l[k].2) = false := decide_eq_false (by omega)
    simp [this]
  · have : decide (l[k].2 ≤ 2) = false := decide_eq_false (by omega)
    simp [this]
theorem okAt_good {l : List P2} {k : Nat} {p : P2} (h1 : findN l p.1 = k) (h2 : nameD p.1 = true) (h3 : 0 ≤ p.2) (h4 : p.2 ≤ 2) : okAt l k p = true := by
  unfold okAt
  simp [h1, h2, h3, h4]

theorem bos_list : bosB.toList = [66, 79, 83] := by rw [ByteArray.toList_eq]; rfl
/-- Names that are no longer than strings are. -/
def Fit (l : List P2) : Prop := ∀ c ∈ l, c.1.size ≤ maxLen

set_option maxHeartbeats 4000000 in
theorem refValid_calls (A : Option Addr) (cap : Nat) (l : List P2) (B : Nat) (w : World) (hl : Lies w B 2 A l.length (pcells l)) (hn : l.length ≤ maxLen) (hf : Fit l) :
    Calls Tryd.prog 31 #[.slice A l.length cap] w fun e w' => e = .returned (.bool (okB l)) ∧ w = w' := by
  have CF := Lib.hid fun s => refFind_calls A cap l s B w hl hn
  have CN := Lib.hid fun (s : ByteArray) (hs : s.size ≤ maxLen) => refName_calls s w hs
  unfold maxLen at hn
  by_cases h0 : l.length = 0
  · have HX := Lib.hid (okB_head l (by omega))
    rw [h0]
    clear h0 hl CF CN
    go_enter Tryd.func31, Tryd.ntmps31
    go_wp2_with fail
    go_ret
    exact ⟨ret_bool HX.out.symm, rfl⟩
  · by_cases h64 : 64 < l.length
    · have HX := Lib.hid (okB_head l (by omega))
      have h1 : 1 ≤ l.length := by omega
      clear h0 hl CF CN
      generalize l.length = n at *
      go_enter Tryd.func31, Tryd.ntmps31
      go_wp2_with fail
      go_ret
      exact ⟨ret_bool HX.out.symm, rfl⟩
    · have h1 : 1 ≤ l.length := by omega
      have h2 : l.length ≤ 64 := by omega
      obtain ⟨p, hp⟩ : ∃ p, l[0]? = some p := ⟨_, List.getElem?_eq_getElem (by omega)⟩
      obtain ⟨q0, q1⟩ := pcells_at l 0 p hp
      obtain ⟨b, off, rfl, hab, c0, c1⟩ := hl.at2 (by omega) q0 q1
      simp only [Nat.zero_mul, Nat.add_zero] at c0 c1
      have HL := Lib.hid hl
      have HF := Lib.hid hf
      clear hl hf q0 q1 h0 h64
      have hq := eq_toList p.1 bosB
      obtain ⟨n, hnn⟩ : ∃ n, n = l.length := ⟨_, rfl⟩
      have HN := Lib.hid hnn
      rw [← hnn] at h1 h2 hn CF ⊢
      clear hnn
      by_cases hb : p.1 = bosB
      · rw [decide_eq_true hb] at hq
        by_cases hk : p.2 = 0
        · have HH : Hid (1 ≤ l.length ∧ l.length ≤ 64 ∧ l[0]? = some (bosB, 0)) := by
            show _ ∧ _
            obtain ⟨pn, pk⟩ := p
            simp only at hb hk
            subst hb hk
            rw [← HN.out]
            exact ⟨h1, h2, hp⟩
          rw [hk] at c1
          rw [hb] at c0
          unfold bosB at c0
          clear hp hb hq hk
          go_enter Tryd.func31, Tryd.ntmps31
          go_wp2_with fail
          go_loop [3] (fun i => ∃ k : Nat, k ≤ n ∧ i = .int .i64 (k : Int) ∧ Hid (OkFrom l k)) (fun i => n - (intOf i).toNat)
          case atStart => exact ⟨0, Nat.zero_le _, rfl, fun j hj h => by omega⟩
          case round =>
            obtain ⟨k, hk, rfl, HT⟩ := hrel
            clear c0 c1
            by_cases hlt : k < n
            · obtain ⟨x, hx⟩ : ∃ x, l[k]? = some x := ⟨_, List.getElem?_eq_getElem (by rw [← HN.out]; exact hlt)⟩
              obtain ⟨q0, q1⟩ := pcells_at l k x hx
              have hlw := HL.out
              rw [← HN.out] at hlw
              obtain ⟨b', off', hbo, _, c0, c1⟩ := hlw.at2 hlt q0 q1
              obtain ⟨rfl, rfl⟩ : b = b' ∧ off = off' := by simp at hbo; exact hbo
              have HXX := Lib.hid hx
              have hs := HF.out x (List.mem_of_getElem? hx)
              have hfi := findI_mem hx
              have HB := Lib.hid (@okAt_bad l k x hx)
              have HG := Lib.hid (@okAt_good l k x)
              clear q0 q1 hlw hx hbo
              obtain ⟨xn, xk⟩ := x
              simp only at c0 c1 hs
              have C1 := Lib.hid (CF.out xn)
              have C2 := Lib.hid (CN.out xn hs)
              simp only [hfi.1] at C1
              have hfl : findN l xn < n := by rw [HN.out]; exact hfi.2
              clear hfi hs
              simp only at HB HG
              generalize findN l xn = fk at *
              generalize nameD xn = nm at *
              generalize findB l xn = fb at *
              cases nm with
              | false =>
                have HR := Lib.hid (HB.out (.inr (.inl rfl)))
                clear HB HG HT
                go_wp2_with fail
                refine C1.out.mono ?_
                rintro e w1 ⟨rfl, rfl⟩
                go_wp2_with fail
                refine C2.out.mono ?_
                rintro e w1 ⟨rfl, rfl⟩
                go_wp2_with fail
                go_ret
                exact ⟨ret_bool HR.out.symm, rfl⟩
              | true =>
                by_cases hc : fk = k ∧ 0 ≤ xk ∧ xk ≤ 2
                · obtain ⟨rfl, hc1, hc2⟩ := hc
                  have HT2 := Lib.hid (HT.out.next HXX.out (HG.out rfl rfl hc1 hc2))
                  clear HB HG HT
                  go_wp2_with fail
                  refine C1.out.mono ?_
                  rintro e w1 ⟨rfl, rfl⟩
                  go_wp2_with fail
                  refine C2.out.mono ?_
                  rintro e w1 ⟨rfl, rfl⟩
                  go_wp2_with fail
                  go_round
                  case rel => exact ⟨fk + 1, by omega, by go_num, HT2⟩
                  case measure => simp [intOf]; omega
                · have HR := Lib.hid (HB.out (by simp; omega))
                  have HC := Lib.hid hc
                  clear HB HG HT hc
                  go_wp2_with fail
                  refine C1.out.mono ?_
                  rintro e w1 ⟨rfl, rfl⟩
                  go_wp2_with fail
                  refine C2.out.mono ?_
                  rintro e w1 ⟨rfl, rfl⟩
                  go_wp2_with fail
                  all_goals first
                    | (go_ret; exact ⟨ret_bool HR.out.symm, rfl⟩)
                    | (exfalso; have := HC.out; simp_all; omega)
            · obtain rfl : k = n := by omega
              have HR : Hid (okB l = true) := okB_true l HH.out fun j hj => HT.out j hj (by rw [HN.out]; exact hj)
              clear HT
              go_wp2_with fail
              go_ret
              exact ⟨ret_bool HR.out.symm, rfl⟩
        · have HX : Hid (okB l = false) := okB_head l (by rintro ⟨_, _, h⟩; rw [hp] at h; simp at h; rw [h] at hk; exact hk rfl)
          have hk2 : (p.2 != 0) = true := by simpa using hk
          obtain ⟨pn, pk⟩ := p
          simp only at hb c0 c1 hk2 hq
          subst hb
          unfold bosB at c0
          clear hp CF CN hk hq
          go_enter Tryd.func31, Tryd.ntmps31
          go_wp2_with fail
          go_ret
          exact ⟨ret_bool HX.out.symm, rfl⟩
      · have HX : Hid (okB l = false) := okB_head l (by rintro ⟨_, _, h⟩; rw [hp] at h; simp at h; rw [h] at hb; exact hb rfl)
        rw [decide_eq_false hb] at hq
        obtain ⟨pn, pk⟩ := p
        simp only at c0 c1 hq
        rw [bos_list] at hq
        clear hp CF CN hb
        go_enter Tryd.func31, Tryd.ntmps31
        go_wp2_with fail
        go_ret
        exact ⟨ret_bool HX.out.symm, rfl⟩
end Go.Proofs.YtoihfmjnonanjaaDoor
