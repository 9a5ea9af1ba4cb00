/- What few of henkanlaw15 computes. -/
import Derived.Test.YtoihfmjnonanjaaDoorPosBD
namespace Go.Proofs.YtoihfmjnonanjaaDoor
open Go.RowKit Go.Lib Go.Shelf Hk
set_option linter.unusedSimpArgs false
set_option linter.unusedVariables false
set_option maxRecDepth 100000

/-- Lines that are few: no line feed, and not long together. -/
def sumB (ls : List ByteArray) : Nat := (ls.map fun s => s.size + 1).sum
def FewOk (ls : List ByteArray) : Prop := (∀ a ∈ ls, ∀ c ∈ a.data.toList, c ≠ 10) ∧ sumB ls ≤ 524288
def FewPost (w : World) (e : Ending) (w' : World) : Prop :=
  ∃ v ls, e = .returned v ∧ FewOk ls ∧ w'.ownsRow w.heap.size 9 1 v ls.length (ls.map Value.string) ∧ Below w.heap.size w w'
theorem sumB_snoc (ls : List ByteArray) (a : ByteArray) : sumB (ls ++ [a]) = sumB ls + (a.size + 1) := by simp [sumB]
theorem sumB_len (ls : List ByteArray) : ls.length ≤ sumB ls := by
  induction ls with
  | nil => exact Nat.le_refl _
  | cons a r ih =>
    simp only [sumB, List.map_cons, List.sum_cons, List.length_cons] at ih ⊢
    omega
theorem size_take (x : ByteArray) (j : Nat) : (x.extract 0 j).size ≤ x.size := by
  rw [size_list, Lib.extract_data, List.length_take, List.length_drop, size_list x]
  omega
theorem few_more {ls : List ByteArray} {y : ByteArray} (h : ∀ a ∈ ls, ∀ c ∈ a.data.toList, c ≠ 10) (hy : ∀ c ∈ y.data.toList, c ≠ 10) : ∀ a ∈ ls ++ [y], ∀ c ∈ a.data.toList, c ≠ 10 := by
  intro a ha
  rw [List.mem_append, List.mem_singleton] at ha
  rcases ha with h1 | rfl
  · exact h a h1
  · exact hy
def FwAt (w : World) (n : Nat) (v s i : Value) (wr : World) : Prop :=
  ∃ (k : Nat) (ls : List ByteArray), k ≤ n ∧ i = .int .i64 (k : Int) ∧ s = .int .i64 ((sumB ls : Nat) : Int) ∧ sumB ls ≤ 524288 ∧ Hid (∀ a ∈ ls, ∀ c ∈ a.data.toList, c ≠ 10) ∧ wr.ownsRow w.heap.size 9 1 v ls.length (ls.map Value.string) ∧ Below w.heap.size w wr

set_option maxHeartbeats 8000000 in
theorem few_calls (A : Option Addr) (cap : Nat) (ss : List ByteArray) (B : Nat) (w : World) (hl : Lies w B 1 A ss.length (ss.map Value.string)) (hB : B ≤ w.heap.size) (hn : ss.length ≤ maxLen) (hs : ∀ s ∈ ss, s.size ≤ 140737488351232) :
    Calls Tryd.prog 30 #[.slice A ss.length cap] w (FewPost w) := by
  obtain ⟨i0, hi, hz0, hz1, hz2⟩ := info_parts Tryd.info9
  have HL := Lib.hid (hl.up hB)
  have HS := Lib.hid hs
  clear hl hs
  obtain ⟨n, hnn⟩ : ∃ n, n = ss.length := ⟨_, rfl⟩
  have HN := Lib.hid hnn
  rw [← hnn] at HL hn ⊢
  unfold maxLen at hn
  clear hnn
  go_enter Tryd.func30, Tryd.ntmps30
  go_wp2_with fail
  go_loopw [3, 4, 10] (fun v s i wr => FwAt w n v s i wr) (fun _ _ i _ => n - (intOf i).toNat)
  case atStart => exact ⟨0, [], Nat.zero_le _, rfl, rfl, by decide, (fun a h => by cases h), World.ownsRow_nil _ _ _ _, Below.refl _ _⟩
  case round =>
    obtain ⟨k, ls, hk, rfl, rfl, hsum, HF, hown, hbw⟩ := hrel
    by_cases hlt : k < n
    · obtain ⟨x, hx⟩ : ∃ x, ss[k]? = some x := ⟨_, List.getElem?_eq_getElem (by rw [← HN.out]; exact hlt)⟩
      have hxs := HS.out x (List.mem_of_getElem? hx)
      obtain ⟨b, off, rfl, _, c0⟩ := (HL.out.below hbw).at1 hlt (u := .string x) (by simp [hx])
      clear hx
      go_wp2_with fail
      go_loopw [6, 16] (fun t a wr' => ∃ j : Nat, j ≤ x.size ∧ t = .string x ∧ a = .int .i64 (j : Int) ∧ Hid (∀ c ∈ x.data.toList.take j, c ≠ 10) ∧ wr' = wr) (fun _ a _ => x.size - (intOf a).toNat)
      case atStart => exact ⟨0, Nat.zero_le _, rfl, rfl, (fun c h => by simp at h), rfl⟩
      case round =>
        obtain ⟨j, hj, rfl, rfl, HH, rfl⟩ := hrel
        by_cases hjl : j < x.size
        · have hg := bytes_get x j hjl
          by_cases hc : x[j].toNat = 10
          · have q : ((x[j].toNat : Int) == 10) = true := by rw [beq_iff_eq]; omega
            have HY : Hid (∀ c ∈ (x.extract 0 j).data.toList, c ≠ 10) := by
              intro c hcm
              rw [Lib.extract_data] at hcm
              exact HH.out c (by simpa using hcm)
            have hyj : (x.extract 0 j).size = j := by rw [size_list, Lib.extract_data, List.length_take, List.length_drop, ← size_list]; omega
            have HYJ := Lib.hid hyj
            have hmin : min j x.size = j := by omega
            clear HH hg hc
            obtain ⟨S, hS⟩ : ∃ S, S = sumB ls := ⟨_, rfl⟩
            have HSS := Lib.hid hS
            rw [← hS] at hsum ⊢
            have hlen : ls.length ≤ 524288 := Nat.le_trans (sumB_len ls) (by rw [← hS]; exact hsum)
            clear hS
            by_cases hbig : 524288 < S + j + 1
            · have qb : decide ((524288 : Int) < (S : Int) + (j : Int) + 1) = true := decide_eq_true (by omega)
              go_wp2_with fail
              go_ret
              exact ⟨_, ls, rfl, ⟨HF.out, by rw [← HSS.out]; exact hsum⟩, hown, hbw⟩
            · have qb : decide ((524288 : Int) < (S : Int) + (j : Int) + 1) = false := decide_eq_false (by omega)
              have HM : Hid ((ls ++ [(x.extract 0 j)]).map Value.string = ls.map Value.string ++ [.string (x.extract 0 j)]) := by show _ = _; simp
              have HF2 := Lib.hid (few_more HF.out HY.out)
              have HSU : Hid (sumB (ls ++ [(x.extract 0 j)]) = S + (j + 1)) := by show _ = _; rw [sumB_snoc, HSS.out, HYJ.out]
              clear HF HY c0
              go_wp2_with (at_builtin; refine wpList_append_own _ rfl _ _ 38 rfl w.heap.size 9 i0 (.string ⟨#[]⟩) 1 16 Tryd.underlying38 hi hz0 hz1 hz2 rfl (by decide) _ _ _ rfl (hown.alloc _) ⟨wr.heap.size, 0, none⟩ 1 1 [.string (x.extract 0 j)] rfl rfl ?c1 ?c2 ?c3 ?c4 ?c5 ?_)
              case c1 => exact cells_new wr [.string (x.extract 0 j)] 9
              case c2 => intro u hu; simp at hu; subst hu; rfl
              case c3 => unfold maxLen; omega
              case c4 => omega
              case c5 => have := hbw.size; simp at this ⊢; omega
              intro v' w3 hown3 hgrow3 _
              have hbw3 := below_append hbw _ hown hgrow3
              clear hgrow3 hown hbw
              go_wp2_with fail
              go_roundw
              case rel => exact ⟨k + 1, ls ++ [(x.extract 0 j)], by omega, by go_num, by rw [HSU.out]; go_num, by rw [HSU.out]; omega, HF2, by rw [HM.out, List.length_append]; exact hown3, hbw3⟩
              case measure => simp [intOf]; omega
          · have q : ((x[j].toNat : Int) == 10) = false := by rw [beq_eq_false_iff_ne]; omega
            have HH2 : Hid (∀ c ∈ x.data.toList.take (j + 1), c ≠ 10) := by
              intro c hcm
              rw [List.take_add_one, hg, List.mem_append] at hcm
              rcases hcm with h | h
              · exact HH.out c h
              · simp at h
                subst h
                intro h9
                exact hc (by rw [h9]; rfl)
            clear HH hg hc
            go_wp2_with fail
            go_roundw
            case rel => exact ⟨j + 1, by omega, by first | trivial | rfl, by go_num, HH2, by first | trivial | rfl⟩
            case measure => simp [intOf]; omega
        · have HY : Hid (∀ c ∈ x.data.toList, c ≠ 10) := by
            intro c hcm
            refine HH.out c ?_
            rw [List.take_of_length_le (by rw [← size_list]; omega)]
            exact hcm
          clear HH
          obtain ⟨S, hS⟩ : ∃ S, S = sumB ls := ⟨_, rfl⟩
          have HSS := Lib.hid hS
          rw [← hS] at hsum ⊢
          have hlen : ls.length ≤ 524288 := Nat.le_trans (sumB_len ls) (by rw [← hS]; exact hsum)
          clear hS
          by_cases hbig : 524288 < S + x.size + 1
          · have qb : decide ((524288 : Int) < (S : Int) + (x.size : Int) + 1) = true := decide_eq_true (by omega)
            go_wp2_with fail
            go_ret
            exact ⟨_, ls, rfl, ⟨HF.out, by rw [← HSS.out]; exact hsum⟩, hown, hbw⟩
          · have qb : decide ((524288 : Int) < (S : Int) + (x.size : Int) + 1) = false := decide_eq_false (by omega)
            have HM : Hid ((ls ++ [x]).map Value.string = ls.map Value.string ++ [.string x]) := by show _ = _; simp
            have HF2 := Lib.hid (few_more HF.out HY.out)
            have HSU : Hid (sumB (ls ++ [x]) = S + (x.size + 1)) := by show _ = _; rw [sumB_snoc, HSS.out]
            clear HF HY c0
            go_wp2_with (at_builtin; refine wpList_append_own _ rfl _ _ 38 rfl w.heap.size 9 i0 (.string ⟨#[]⟩) 1 16 Tryd.underlying38 hi hz0 hz1 hz2 rfl (by decide) _ _ _ rfl (hown.alloc _) ⟨wr.heap.size, 0, none⟩ 1 1 [.string x] rfl rfl ?c1 ?c2 ?c3 ?c4 ?c5 ?_)
            case c1 => exact cells_new wr [.string x] 9
            case c2 => intro u hu; simp at hu; subst hu; rfl
            case c3 => unfold maxLen; omega
            case c4 => omega
            case c5 => have := hbw.size; simp at this ⊢; omega
            intro v' w3 hown3 hgrow3 _
            have hbw3 := below_append hbw _ hown hgrow3
            clear hgrow3 hown hbw
            go_wp2_with fail
            go_roundw
            case rel => exact ⟨k + 1, ls ++ [x], by omega, by go_num, by rw [HSU.out]; go_num, by rw [HSU.out]; omega, HF2, by rw [HM.out, List.length_append]; exact hown3, hbw3⟩
            case measure => simp [intOf]; omega
    · go_wp2_with fail
      go_ret
      exact ⟨_, ls, rfl, ⟨HF.out, hsum⟩, hown, hbw⟩
end Go.Proofs.YtoihfmjnonanjaaDoor
