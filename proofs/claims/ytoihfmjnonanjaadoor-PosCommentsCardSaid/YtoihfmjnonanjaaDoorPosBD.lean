/- What text of henkanlaw15 computes; how long a list is that Parse returns. -/
import Derived.Test.YtoihfmjnonanjaaDoorPosBC
namespace Go.Proofs.YtoihfmjnonanjaaDoor
open Go.RowKit Go.Lib Go.Shelf Hk
set_option linter.unusedSimpArgs false
set_option linter.unusedVariables false
set_option maxRecDepth 100000

theorem step_len {acc acc' : List P2} {l : List UInt8} (h : stepL acc l = .ok acc') (ha : acc.length ≤ 64) : acc'.length ≤ 64 := by
  unfold stepL at h
  split at h
  · cases h
  · split at h
    · cases h
    · split at h
      · cases h
      · split at h
        · cases h
        · simp at h
          subst h
          simp
          omega
theorem parseI_len : ∀ (its : List (Nat × List UInt8)) (acc : List P2), acc.length ≤ 64 → (parseI acc its).1.length ≤ 64
  | [], acc, h => by
    rw [parseI]
    split
    · simp
    · exact h
  | (n, s) :: r, acc, h => by
    cases hs : stepL acc s with
    | error e => rw [parseI_err hs]; simp
    | ok acc' => rw [parseI_step hs]; exact parseI_len r acc' (step_len hs h)
theorem parseD_len (s : ByteArray) : (parseD s).1.length ≤ 64 := by
  unfold parseD parseL
  split
  · simp
  · exact parseI_len _ _ (by simp)
/-- Strings with line feeds between them. -/
def joinB (ss : List ByteArray) : ByteArray := ⟨(joinL (ss.map fun s => s.data.toList)).toArray⟩
theorem joinB_list (ss : List ByteArray) : (joinB ss).data.toList = joinL (ss.map fun s => s.data.toList) := rfl
theorem joinB_size : ∀ (ss : List ByteArray) (m : Nat), (∀ s ∈ ss, s.size ≤ m) → (joinL (ss.map fun s => s.data.toList)).length ≤ ss.length * (m + 1)
  | [], m, _ => by simp [joinL]
  | [a], m, h => by
    have := h a List.mem_cons_self
    rw [size_list] at this
    show a.data.toList.length ≤ 1 * (m + 1)
    omega
  | a :: b :: r, m, h => by
    have ih := joinB_size (b :: r) m fun s hs => h s (List.mem_cons_of_mem _ hs)
    have h1 := h a List.mem_cons_self
    rw [List.map_cons, List.map_cons, joinL, List.length_append, List.length_cons]
    rw [List.map_cons] at ih
    rw [size_list] at h1
    rw [List.length_cons, Nat.succ_mul]
    omega
theorem join_zero {ss : List ByteArray} {s S : ByteArray} (h : ss[0]? = some s) (hS : S.data.toList = joinL ((ss.take 0).map fun s => s.data.toList)) : (S ++ s).data.toList = joinL ((ss.take 1).map fun s => s.data.toList) := by
  have e : ss.take 1 = [s] := by
    cases ss with
    | nil => simp at h
    | cons a r => simp at h; subst h; rfl
  rw [e]
  simp [joinL] at hS ⊢
  simp [hS]
theorem join_more {ss : List ByteArray} {s S : ByteArray} {k : Nat} (hk : 0 < k) (h : ss[k]? = some s) (hS : S.data.toList = joinL ((ss.take k).map fun s => s.data.toList)) : (S ++ ⟨#[10]⟩ ++ s).data.toList = joinL ((ss.take (k + 1)).map fun s => s.data.toList) := by
  obtain ⟨hlt, _⟩ := List.getElem?_eq_some_iff.1 h
  rw [take_snoc_list ss k s h, List.map_append, List.map_cons, List.map_nil, joinL_snoc _ _ (by
    intro e
    have := congrArg List.length e
    rw [List.length_map, List.length_take, List.length_nil] at this
    omega), ← hS]
  simp
def TxAt (ss : List ByteArray) (w : World) (v a : Value) (wr : World) : Prop :=
  ∃ (k : Nat) (S : ByteArray), k ≤ ss.length ∧ a = .int .i64 (k : Int) ∧ v = .string S ∧ S.size ≤ k * 1048577 ∧ Hid (S.data.toList = joinL ((ss.take k).map fun s => s.data.toList)) ∧ Below w.heap.size w wr

set_option maxHeartbeats 4000000 in
theorem text_law (A : Option Addr) (cap : Nat) (ss : List ByteArray) (B : Nat) (w : World) (hl : Lies w B 1 A ss.length (ss.map Value.string)) (hB : B ≤ w.heap.size) (hn : ss.length ≤ 1048576) (hs : ∀ s ∈ ss, s.size ≤ 1048576) :
    Calls Tryd.prog 21 #[.slice A ss.length cap] w fun e w' => e = .returned (.string (joinB ss)) ∧ Below w.heap.size w w' := by
  have HL := Lib.hid (hl.up hB)
  have HS := Lib.hid hs
  clear hl hs
  obtain ⟨n, hnn⟩ : ∃ n, n = ss.length := ⟨_, rfl⟩
  have HN := Lib.hid hnn
  rw [← hnn] at HL hn ⊢
  clear hnn
  go_enter Tryd.func21, Tryd.ntmps21
  go_wp2_with fail
  go_loopw [3, 7] (fun v a wr => TxAt ss w v a wr) (fun _ a _ => n - (intOf a).toNat)
  case atStart => exact ⟨0, ⟨#[]⟩, Nat.zero_le _, rfl, rfl, by decide, rfl, Below.refl _ _⟩
  case round =>
    obtain ⟨k, S, hk, rfl, rfl, hSs, HJ, hbw⟩ := hrel
    rw [← HN.out] at hk
    by_cases hlt : k < n
    · obtain ⟨x, hx⟩ : ∃ x, ss[k]? = some x := ⟨_, List.getElem?_eq_getElem (by rw [← HN.out]; exact hlt)⟩
      have hxs := HS.out x (List.mem_of_getElem? hx)
      obtain ⟨b, off, rfl, _, c0⟩ := (HL.out.below hbw).at1 hlt (u := .string x) (by simp [hx])
      by_cases hk0 : k = 0
      · subst hk0
        have HJ2 := Lib.hid (join_zero hx HJ.out)
        have hsz : (S ++ x).size ≤ 1 * 1048577 := by rw [ByteArray.size_append]; omega
        have hS1 : S.size ≤ 1048577 := by omega
        have HSZ := Lib.hid hsz
        simp only [Nat.add_zero] at c0
        clear HJ hx hSs hsz
        go_wp2_with fail
        go_roundw
        case rel => exact ⟨1, S ++ x, by rw [← HN.out]; omega, by go_num, rfl, HSZ.out, HJ2, hbw⟩
        case measure => simp [intOf]; omega
      · have hkp : 0 < k := by omega
        have HJ2 := Lib.hid (join_more hkp hx HJ.out)
        have h1 : (⟨#[10]⟩ : ByteArray).size = 1 := rfl
        have hsz1 : (S ++ ⟨#[10]⟩).size = S.size + 1 := by rw [ByteArray.size_append, h1]
        have hsz : (S ++ ⟨#[10]⟩ ++ x).size ≤ (k + 1) * 1048577 := by rw [ByteArray.size_append, hsz1]; omega
        clear HJ hx
        go_wp2_with fail
        go_roundw
        case rel => exact ⟨k + 1, S ++ ⟨#[10]⟩ ++ x, by rw [← HN.out]; omega, by go_num, rfl, hsz, HJ2, hbw⟩
        case measure => simp [intOf]; omega
    · have hT : ss.take k = ss := List.take_of_length_le (by rw [← HN.out]; omega)
      have HT : Hid (S = joinB ss) := by
        show _ = _
        have := HJ.out
        rw [hT, ← joinB_list] at this
        rw [← mk_list S, this, mk_list]
      clear hT HJ
      go_wp2_with fail
      go_ret
      exact ⟨by rw [HT.out]; rfl, hbw⟩
end Go.Proofs.YtoihfmjnonanjaaDoor
