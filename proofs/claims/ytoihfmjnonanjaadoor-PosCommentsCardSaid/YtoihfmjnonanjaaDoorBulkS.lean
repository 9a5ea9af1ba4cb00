/- Strings that came in: a slice of strings, opened, with the reach of each. -/
import Derived.Test.YtoihfmjnonanjaaDoorBulkP
import Derived.Test.YtoihfmjnonanjaaDoorPosBE
namespace Go.Proofs.YtoihfmjnonanjaaDoor
open Go.ChangeShapes Go.WideShapes Go.ChangeAt Go.RowKit Go.Lib Go.Shelf Go.Deep Hk
set_option linter.unusedSimpArgs false
set_option linter.unusedVariables false
set_option maxRecDepth 100000

theorem weights_all {H : Type} {P : Program} {e : TypeId} : ∀ {l : List (DataW H)} {d : DataW H} {n : Nat}, d ∈ l → n ∈ d.weights P e → n ∈ DataW.weightsAll P e l
  | x :: r, d, n, h, hn => by
    rw [DataW.weightsAll, List.mem_append]
    rcases List.mem_cons.1 h with rfl | h
    · exact .inl hn
    · exact .inr (weights_all h hn)
theorem open_strsR {H : Type} {enc : TypeId × Value → H} {W : World} {base : Nat} {t e : TypeId} {v : Value} {d : DataW H} {p : List MemPlace} {ts : List TypeId} {ds : List (DataW H)} {j : Nat} (ht : Tryd.prog.underlying t = some (.slice e)) (he : Tryd.prog.underlying e = some .string) (hc : Tryd.prog.cellsOf e = 1) (hby : Tryd.prog.bytesOf e = 16)
    (hv : Value.okWide Tryd.prog W .any base t v) (h : DataW.Trod enc Tryd.prog W 0 (fun _ => true) true t v d p) (hz : (DataW.weightsEach Tryd.prog ts ds).all (· ≤ reachBytes) = true) (hts : ts[j]? = some t) (hds : ds[j]? = some d) :
    ∃ (A : Option Addr) (cap : Nat) (ss : List ByteArray), v = .slice A ss.length cap ∧ ss.length ≤ cap ∧ cap ≤ maxLen ∧ Lies W W.heap.size 1 A ss.length (ss.map Value.string) ∧ ss.length * 16 ≤ 140737488351232 ∧ ∀ s ∈ ss, s.size ≤ 140737488351232 := by
  have hall := List.all_eq_true.1 hz
  obtain ⟨A, len, cap, rfl⟩ := okWide_slice ht hv
  have hw := open_wide ht h hz hts hds
  rw [hby] at hw
  obtain ⟨fuel, hf⟩ := h
  rcases open_strings ht he hc hf with ⟨hcs, hx⟩ | ⟨a, len', cap', ss, hcs, _, hl, hm, hz, hx, hcell, hss⟩
  · replace hcs : [Value.slice A len cap] = [_] := hcs
    simp at hcs
    obtain ⟨rfl, rfl, rfl⟩ := hcs
    exact ⟨none, 0, [], rfl, Nat.le_refl _, Nat.zero_le _, Lies.empty, by simp, fun s hs => by cases hs⟩
  · replace hcs : [Value.slice A len cap] = [_] := hcs
    simp at hcs
    obtain ⟨rfl, rfl, rfl⟩ := hcs
    simp only [if_true] at hz
    simp only [Prod.mk.injEq] at hx
    obtain ⟨rfl, rfl⟩ := hx
    have htl : (ss.take len).length = len := by simp; omega
    refine ⟨some a, cap, ss.take len, by rw [htl], by rw [htl]; exact hl, hm, ?_, ?_, ?_⟩
    · rw [htl]
      by_cases h0 : 0 < len
      · refine Lies.of_addr (by simp; omega) (by omega) (World.block_lt_of_cell? W (a.add 0) (hcell 0 (by omega)) |> fun h => by rwa [add_block] at h) fun j u hu => ?_
        rw [List.getElem?_map] at hu
        obtain ⟨s, hs, rfl⟩ := Option.map_eq_some_iff.1 hu
        have hj : j < len := by have := (List.getElem?_eq_some_iff.1 hs).1; simp at this; omega
        rw [hcell j (by omega)]
        rw [List.getElem?_take_of_lt hj] at hs
        simp [List.getD, hs]
      · have : len = 0 := by omega
        subst this
        simp
        exact Lies.empty
    · rw [htl]
      exact hw
    · intro s hs
      have hm : (DataW.lit (H := H) (.string s.data.toList)) ∈ strs (ss.take len) := by simp only [strs, List.mem_map]; exact ⟨s, hs, rfl⟩
      have hn : s.data.toList.length ∈ DataW.weightsAll Tryd.prog e (strs (H := H) (ss.take len)) := weights_all hm (by simp [DataW.weights])
      have := hall _ (DataW.weights_mem_each hts hds s.data.toList.length (by
        simp only [DataW.weights, ht]
        exact List.mem_cons_of_mem _ (List.mem_append_left _ hn)))
      have h4 : s.size = s.data.toList.length := by simp
      have h5 := of_decide_eq_true this
      unfold reachBytes at h5
      omega
end Go.Proofs.YtoihfmjnonanjaaDoor
