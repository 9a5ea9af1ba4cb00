/- What henkanref32.Learned, henkanref32.Pairs and the comparisons of henkanlaw32 compute. -/
import Derived.Test.YtipocnkaemkegaaDoorBoostK
namespace Go.Proofs.YtipocnkaemkegaaDoor
open Go.RowKit Go.Lib Go.Shelf Hk
set_option linter.unusedSimpArgs false
set_option linter.unusedVariables false
set_option maxRecDepth 100000

set_option maxHeartbeats 2000000 in
theorem refL_calls (A : Option Addr) (cap : Nat) (cs : List Cnt) (w : World) (hl : Lies w w.heap.size 2 A cs.length (cntCells cs)) (hn : cs.length ≤ 2097152) (hcs : Light cs) (he : Env w) :
    Calls Tryd.prog 15 #[.slice A cs.length cap] w (ListPost 41 w cs 1) := by
  obtain ⟨i0, hi, hz0, hz1, hz2⟩ := info_parts Tryd.info41
  have HE := Lib.hid he
  have HL := Lib.hid hl
  have HC := Lib.hid hcs
  clear he hl hcs
  obtain ⟨n, hnn⟩ : ∃ n, n = cs.length := ⟨_, rfl⟩
  have HN := Lib.hid hnn
  rw [← hnn]
  rw [← hnn] at hn
  clear hnn
  go_enter Tryd.func15, Tryd.ntmps15
  go_wp2_with fail
  go_loopw [3, 4] (fun v i wr => ListAt 41 w cs 1 v i wr) (fun _ i _ => n - (intOf i).toNat)
  case atStart => exact ⟨0, Nat.zero_le _, rfl, World.ownsRow_nil _ _ _ _, Below.refl _ _⟩
  case round =>
    obtain ⟨k, hk, rfl, hown, hbw⟩ := hrel
    rw [← HN.out] at hk
    by_cases hlt : k < n
    · obtain ⟨c, hc⟩ : ∃ c, cs[k]? = some c := ⟨_, List.getElem?_eq_getElem (by rw [← HN.out]; exact hlt)⟩
      obtain ⟨q0, q1⟩ := cntCells_at cs k c hc
      have hlw := HL.out.below hbw
      rw [← HN.out] at hlw
      obtain ⟨b, off, rfl, hab, c0, c1⟩ := hlw.at2 hlt q0 q1
      clear q0 q1 hlw
      have hmem : c ∈ cs := List.mem_of_getElem? hc
      obtain ⟨hkb, hkv⟩ := HC.out c hmem
      obtain ⟨kb, kv⟩ := c
      simp only at hkb hkv c0 c1
      have hts := take_snoc_list cs k (kb, kv) hc
      have hms := many_snoc 1 (cs.take k) (kb, kv)
      rw [← hts] at hms
      have HM := Lib.hid hms
      have CP := Lib.hid fun W => refParse_calls kb W (by omega)
      clear hts hms hmem hc
      have hlen := many_length 1 (cs.take k)
      have hlen2 : (many 1 (cs.take k)).length ≤ k := Nat.le_trans hlen (List.length_take_le _ _)
      clear hlen
      cases hp : kparse kb.data.toList with
      | none =>
        simp only [ParsePost_none hp] at CP
        have HO := Lib.hid (@one_none 1 (kb, kv) hp)
        clear hp
        go_wp2_with fail
        refine (CP.out _).mono ?_
        rintro e w1 ⟨rfl, hb1⟩
        have hown1 := owns_below hown hb1
        have hbw1 := qtrans hbw hb1
        clear hb1 hown hbw c0 c1
        go_wp2_with fail
        go_roundw
        case rel => exact ⟨k + 1, by rw [← HN.out]; omega, by go_num, by rw [HM.out, HO.out]; simpa using hown1, hbw1⟩
        case measure => simp [intOf]; omega
      | some x =>
        obtain ⟨kk, a, b'⟩ := x
        simp only [ParsePost_some hp] at CP
        by_cases hkk : kk = 1
        · by_cases hpos : 0 < kv
          · have HO := Lib.hid (@one_yes 1 (kb, kv) kk a b' hp hkk hpos)
            have hk1 : (kk == 1) = true := by simpa using hkk
            have CB := Lib.hid fun W => refBonus_calls kv W hkv
            clear hp hkk
            go_wp2_with fail
            refine (CP.out _).mono ?_
            rintro e w1 ⟨rfl, hb1⟩
            have hv1 := cell_later hb1 c1
            have hown1 := owns_below hown hb1
            have hbw1 := qtrans hbw hb1
            clear hb1 hown hbw c0 c1
            go_wp2_with fail
            refine (CB.out _).mono ?_
            rintro e w2 ⟨rfl, rfl⟩
            have hown2 := hown1
            have hbw2 := hbw1
            clear hown1 hbw1
            have hl40 : ((many 1 (cs.take k)).length + 1) * 40 ≤ 140737488355328 := by omega
            go_wp2_with (at_builtin; refine wpList_append_own _ rfl _ _ 27 rfl w.heap.size 41 i0 (.agg #[.string ⟨#[]⟩, .string ⟨#[]⟩, .int .i64 0]) 3 40 Tryd.underlying27 hi hz0 hz1 hz2 rfl (by decide) _ _ _ rfl (hown2.alloc _) ⟨w1.heap.size, 0, none⟩ 1 1 [.string ⟨a.toArray⟩, .string ⟨b'.toArray⟩, .int .i64 (bonusD kv)] rfl rfl ?c1 ?c2 ?c3 ?c4 ?c5 ?_)
            case c1 => exact cells_new _ [_, _, _] _
            case c2 => intro u hu; simp at hu; rcases hu with rfl | rfl | rfl <;> rfl
            case c3 => unfold maxLen; omega
            case c4 => exact hl40
            case c5 => have := hbw2.size; simp; omega
            intro v' w3 hown3 hgrow3 _
            have hbw3 := below_append hbw2 _ hown2 hgrow3
            clear hgrow3 hown2 hbw2
            go_wp2_with fail
            go_roundw
            case rel => exact ⟨k + 1, by rw [← HN.out]; omega, by go_num, by rw [HM.out, HO.out]; rw [Option.toList_some, List.length_append, lrnCells_snoc]; exact hown3, hbw3⟩
            case measure => simp [intOf]; omega
          · have HO := Lib.hid (@one_neg 1 (kb, kv) kk a b' hp hpos)
            have hk1 : (kk == 1) = true := by simpa using hkk
            clear hp hkk
            go_wp2_with fail
            refine (CP.out _).mono ?_
            rintro e w1 ⟨rfl, hb1⟩
            have hv1 := cell_later hb1 c1
            have hown1 := owns_below hown hb1
            have hbw1 := qtrans hbw hb1
            clear hb1 hown hbw c0 c1
            go_wp2_with fail
            go_roundw
            case rel => exact ⟨k + 1, by rw [← HN.out]; omega, by go_num, by rw [HM.out, HO.out]; simpa using hown1, hbw1⟩
            case measure => simp [intOf]; omega
        · have HO := Lib.hid (@one_other 1 (kb, kv) kk a b' hp hkk)
          have hk1 : (kk == 1) = false := by simpa using hkk
          clear hp hkk
          go_wp2_with fail
          refine (CP.out _).mono ?_
          rintro e w1 ⟨rfl, hb1⟩
          have hown1 := owns_below hown hb1
          have hbw1 := qtrans hbw hb1
          clear hb1 hown hbw c0 c1
          go_wp2_with fail
          go_roundw
          case rel => exact ⟨k + 1, by rw [← HN.out]; omega, by go_num, by rw [HM.out, HO.out]; simpa using hown1, hbw1⟩
          case measure => simp [intOf]; omega
    · have HT : Hid (cs.take k = cs) := by
        show _ = _
        exact List.take_of_length_le (by rw [← HN.out]; omega)
      go_wp2_with fail
      go_ret
      refine ⟨_, rfl, ?_, hbw⟩
      rw [HT.out] at hown
      exact hown
set_option maxHeartbeats 2000000 in
theorem refP_calls (A : Option Addr) (cap : Nat) (cs : List Cnt) (w : World) (hl : Lies w w.heap.size 2 A cs.length (cntCells cs)) (hn : cs.length ≤ 2097152) (hcs : Light cs) (he : Env w) :
    Calls Tryd.prog 18 #[.slice A cs.length cap] w (ListPost 43 w cs 2) := by
  obtain ⟨i0, hi, hz0, hz1, hz2⟩ := info_parts Tryd.info43
  have HE := Lib.hid he
  have HL := Lib.hid hl
  have HC := Lib.hid hcs
  clear he hl hcs
  obtain ⟨n, hnn⟩ : ∃ n, n = cs.length := ⟨_, rfl⟩
  have HN := Lib.hid hnn
  rw [← hnn]
  rw [← hnn] at hn
  clear hnn
  go_enter Tryd.func18, Tryd.ntmps18
  go_wp2_with fail
  go_loopw [3, 4] (fun v i wr => ListAt 43 w cs 2 v i wr) (fun _ i _ => n - (intOf i).toNat)
  case atStart => exact ⟨0, Nat.zero_le _, rfl, World.ownsRow_nil _ _ _ _, Below.refl _ _⟩
  case round =>
    obtain ⟨k, hk, rfl, hown, hbw⟩ := hrel
    rw [← HN.out] at hk
    by_cases hlt : k < n
    · obtain ⟨c, hc⟩ : ∃ c, cs[k]? = some c := ⟨_, List.getElem?_eq_getElem (by rw [← HN.out]; exact hlt)⟩
      obtain ⟨q0, q1⟩ := cntCells_at cs k c hc
      have hlw := HL.out.below hbw
      rw [← HN.out] at hlw
      obtain ⟨b, off, rfl, hab, c0, c1⟩ := hlw.at2 hlt q0 q1
      clear q0 q1 hlw
      have hmem : c ∈ cs := List.mem_of_getElem? hc
      obtain ⟨hkb, hkv⟩ := HC.out c hmem
      obtain ⟨kb, kv⟩ := c
      simp only at hkb hkv c0 c1
      have hts := take_snoc_list cs k (kb, kv) hc
      have hms := many_snoc 2 (cs.take k) (kb, kv)
      rw [← hts] at hms
      have HM := Lib.hid hms
      have CP := Lib.hid fun W => refParse_calls kb W (by omega)
      clear hts hms hmem hc
      have hlen := many_length 2 (cs.take k)
      have hlen2 : (many 2 (cs.take k)).length ≤ k := Nat.le_trans hlen (List.length_take_le _ _)
      clear hlen
      cases hp : kparse kb.data.toList with
      | none =>
        simp only [ParsePost_none hp] at CP
        have HO := Lib.hid (@one_none 2 (kb, kv) hp)
        clear hp
        go_wp2_with fail
        refine (CP.out _).mono ?_
        rintro e w1 ⟨rfl, hb1⟩
        have hown1 := owns_below hown hb1
        have hbw1 := qtrans hbw hb1
        clear hb1 hown hbw c0 c1
        go_wp2_with fail
        go_roundw
        case rel => exact ⟨k + 1, by rw [← HN.out]; omega, by go_num, by rw [HM.out, HO.out]; simpa using hown1, hbw1⟩
        case measure => simp [intOf]; omega
      | some x =>
        obtain ⟨kk, a, b'⟩ := x
        simp only [ParsePost_some hp] at CP
        by_cases hkk : kk = 2
        · by_cases hpos : 0 < kv
          · have HO := Lib.hid (@one_yes 2 (kb, kv) kk a b' hp hkk hpos)
            have hk1 : (kk == 2) = true := by simpa using hkk
            have CB := Lib.hid fun W => refBonus_calls kv W hkv
            clear hp hkk
            go_wp2_with fail
            refine (CP.out _).mono ?_
            rintro e w1 ⟨rfl, hb1⟩
            have hv1 := cell_later hb1 c1
            have hown1 := owns_below hown hb1
            have hbw1 := qtrans hbw hb1
            clear hb1 hown hbw c0 c1
            go_wp2_with fail
            refine (CB.out _).mono ?_
            rintro e w2 ⟨rfl, rfl⟩
            have hown2 := hown1
            have hbw2 := hbw1
            clear hown1 hbw1
            have hl40 : ((many 2 (cs.take k)).length + 1) * 40 ≤ 140737488355328 := by omega
            go_wp2_with (at_builtin; refine wpList_append_own _ rfl _ _ 31 rfl w.heap.size 43 i0 (.agg #[.string ⟨#[]⟩, .string ⟨#[]⟩, .int .i64 0]) 3 40 Tryd.underlying31 hi hz0 hz1 hz2 rfl (by decide) _ _ _ rfl (hown2.alloc _) ⟨w1.heap.size, 0, none⟩ 1 1 [.string ⟨a.toArray⟩, .string ⟨b'.toArray⟩, .int .i64 (bonusD kv)] rfl rfl ?c1 ?c2 ?c3 ?c4 ?c5 ?_)
            case c1 => exact cells_new _ [_, _, _] _
            case c2 => intro u hu; simp at hu; rcases hu with rfl | rfl | rfl <;> rfl
            case c3 => unfold maxLen; omega
            case c4 => exact hl40
            case c5 => have := hbw2.size; simp; omega
            intro v' w3 hown3 hgrow3 _
            have hbw3 := below_append hbw2 _ hown2 hgrow3
            clear hgrow3 hown2 hbw2
            go_wp2_with fail
            go_roundw
            case rel => exact ⟨k + 1, by rw [← HN.out]; omega, by go_num, by rw [HM.out, HO.out]; rw [Option.toList_some, List.length_append, lrnCells_snoc]; exact hown3, hbw3⟩
            case measure => simp [intOf]; omega
          · have HO := Lib.hid (@one_neg 2 (kb, kv) kk a b' hp hpos)
            have hk1 : (kk == 2) = true := by simpa using hkk
            clear hp hkk
            go_wp2_with fail
            refine (CP.out _).mono ?_
            rintro e w1 ⟨rfl, hb1⟩
            have hv1 := cell_later hb1 c1
            have hown1 := owns_below hown hb1
            have hbw1 := qtrans hbw hb1
            clear hb1 hown hbw c0 c1
            go_wp2_with fail
            go_roundw
            case rel => exact ⟨k + 1, by rw [← HN.out]; omega, by go_num, by rw [HM.out, HO.out]; simpa using hown1, hbw1⟩
            case measure => simp [intOf]; omega
        · have HO := Lib.hid (@one_other 2 (kb, kv) kk a b' hp hkk)
          have hk1 : (kk == 2) = false := by simpa using hkk
          clear hp hkk
          go_wp2_with fail
          refine (CP.out _).mono ?_
          rintro e w1 ⟨rfl, hb1⟩
          have hown1 := owns_below hown hb1
          have hbw1 := qtrans hbw hb1
          clear hb1 hown hbw c0 c1
          go_wp2_with fail
          go_roundw
          case rel => exact ⟨k + 1, by rw [← HN.out]; omega, by go_num, by rw [HM.out, HO.out]; simpa using hown1, hbw1⟩
          case measure => simp [intOf]; omega
    · have HT : Hid (cs.take k = cs) := by
        show _ = _
        exact List.take_of_length_le (by rw [← HN.out]; omega)
      go_wp2_with fail
      go_ret
      refine ⟨_, rfl, ?_, hbw⟩
      rw [HT.out] at hown
      exact hown

theorem lrnCells_at : ∀ (l : List Lrn) (k : Nat) (x : Lrn), l[k]? = some x → (lrnCells l)[k * 3]? = some (.string x.1) ∧ (lrnCells l)[k * 3 + 1]? = some (.string x.2.1) ∧ (lrnCells l)[k * 3 + 2]? = some (.int .i64 x.2.2)
  | [], k, x, h => by simp at h
  | d :: l, 0, x, h => by
    simp at h
    subst h
    exact ⟨rfl, rfl, rfl⟩
  | d :: l, k + 1, x, h => by
    have ih := lrnCells_at l k x (by simpa using h)
    simp only [lrnCells, List.flatMap_cons] at ih ⊢
    rw [show (k + 1) * 3 = k * 3 + 3 by omega, show k * 3 + 3 + 1 = k * 3 + 1 + 3 by omega, show k * 3 + 3 + 2 = k * 3 + 2 + 3 by omega, List.getElem?_append_right (by simp), List.getElem?_append_right (by simp), List.getElem?_append_right (by simp)]
    simpa using ih

set_option maxHeartbeats 1000000 in
theorem sameL_calls (A A' : Option Addr) (cap cap' : Nat) (xs : List Lrn) (w : World) (B B' : Nat) (h1 : Lies w B 3 A xs.length (lrnCells xs)) (h2 : Lies w B' 3 A' xs.length (lrnCells xs)) (hn : xs.length ≤ 9223372036854775807) :
    Calls Tryd.prog 13 #[.slice A xs.length cap, .slice A' xs.length cap'] w fun e w' => e = .returned (.bool true) ∧ Below w.heap.size w w' := by
  have H1 := Lib.hid h1
  have H2 := Lib.hid h2
  clear h1 h2
  obtain ⟨n, hnn⟩ : ∃ n, n = xs.length := ⟨_, rfl⟩
  have HN := Lib.hid hnn
  rw [← hnn] at hn ⊢
  clear hnn
  have q : ((n : Int) != (n : Int)) = false := by simp
  go_enter Tryd.func13, Tryd.ntmps13
  go_wp2_with fail
  go_loopw [5] (fun i wr => ∃ k q : Nat, k ≤ n ∧ i = .int .i64 (k : Int) ∧ wr = w.drewN q) (fun i _ => n - (intOf i).toNat)
  case atStart => exact ⟨0, 0, Nat.zero_le _, rfl, rfl⟩
  case round =>
    obtain ⟨k, q, hk, rfl, rfl⟩ := hrel
    by_cases hlt : k < n
    · obtain ⟨x, hx⟩ : ∃ x, xs[k]? = some x := ⟨_, List.getElem?_eq_getElem (by rw [← HN.out]; exact hlt)⟩
      obtain ⟨q0, q1, q2⟩ := lrnCells_at xs k x hx
      have l1 := H1.out
      have l2 := H2.out
      rw [← HN.out] at l1 l2
      obtain ⟨b, off, rfl, _, c0, c1, c2⟩ := l1.at3 hlt q0 q1 q2
      obtain ⟨b', off', rfl, _, d0, d1, d2⟩ := l2.at3 hlt q0 q1 q2
      clear l1 l2 hx q0 q1 q2
      obtain ⟨x0, x1, x2⟩ := x
      simp only at c0 c1 c2 d0 d1 d2
      have s0 : (x0.toList == x0.toList) = true := by simp
      have s1 : (x1.toList == x1.toList) = true := by simp
      have s2 : (x2 == x2) = true := by simp
      go_wp2_with fail
      go_quiet (fail)
      go_wp2_with fail
      go_roundw
      case rel => exact ⟨k + 1, _, by omega, by go_num, rfl⟩
      case measure => simp [intOf]; omega
    · go_wp2_with fail
      go_ret
      exact ⟨rfl, below_drewN q⟩
set_option maxHeartbeats 1000000 in
theorem sameP_calls (A A' : Option Addr) (cap cap' : Nat) (xs : List Lrn) (w : World) (B B' : Nat) (h1 : Lies w B 3 A xs.length (lrnCells xs)) (h2 : Lies w B' 3 A' xs.length (lrnCells xs)) (hn : xs.length ≤ 9223372036854775807) :
    Calls Tryd.prog 16 #[.slice A xs.length cap, .slice A' xs.length cap'] w fun e w' => e = .returned (.bool true) ∧ Below w.heap.size w w' := by
  have H1 := Lib.hid h1
  have H2 := Lib.hid h2
  clear h1 h2
  obtain ⟨n, hnn⟩ : ∃ n, n = xs.length := ⟨_, rfl⟩
  have HN := Lib.hid hnn
  rw [← hnn] at hn ⊢
  clear hnn
  have q : ((n : Int) != (n : Int)) = false := by simp
  go_enter Tryd.func16, Tryd.ntmps16
  go_wp2_with fail
  go_loopw [5] (fun i wr => ∃ k q : Nat, k ≤ n ∧ i = .int .i64 (k : Int) ∧ wr = w.drewN q) (fun i _ => n - (intOf i).toNat)
  case atStart => exact ⟨0, 0, Nat.zero_le _, rfl, rfl⟩
  case round =>
    obtain ⟨k, q, hk, rfl, rfl⟩ := hrel
    by_cases hlt : k < n
    · obtain ⟨x, hx⟩ : ∃ x, xs[k]? = some x := ⟨_, List.getElem?_eq_getElem (by rw [← HN.out]; exact hlt)⟩
      obtain ⟨q0, q1, q2⟩ := lrnCells_at xs k x hx
      have l1 := H1.out
      have l2 := H2.out
      rw [← HN.out] at l1 l2
      obtain ⟨b, off, rfl, _, c0, c1, c2⟩ := l1.at3 hlt q0 q1 q2
      obtain ⟨b', off', rfl, _, d0, d1, d2⟩ := l2.at3 hlt q0 q1 q2
      clear l1 l2 hx q0 q1 q2
      obtain ⟨x0, x1, x2⟩ := x
      simp only at c0 c1 c2 d0 d1 d2
      have s0 : (x0.toList == x0.toList) = true := by simp
      have s1 : (x1.toList == x1.toList) = true := by simp
      have s2 : (x2 == x2) = true := by simp
      go_wp2_with fail
      go_quiet (fail)
      go_wp2_with fail
      go_roundw
      case rel => exact ⟨k + 1, _, by omega, by go_num, rfl⟩
      case measure => simp [intOf]; omega
    · go_wp2_with fail
      go_ret
      exact ⟨rfl, below_drewN q⟩
end Go.Proofs.YtipocnkaemkegaaDoor
