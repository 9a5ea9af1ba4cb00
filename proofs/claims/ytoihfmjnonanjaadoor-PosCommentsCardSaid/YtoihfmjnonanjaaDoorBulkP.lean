/- Parts of speech that came in: a slice of a string and an int each, opened; the reach of a slice. -/
import Derived.Test.YtoihfmjnonanjaaDoorBulk
import Derived.Test.YtoihfmjnonanjaaDoorPosM
namespace Go.Proofs.YtoihfmjnonanjaaDoor
open Go.ChangeShapes Go.WideShapes Go.ChangeAt Go.RowKit Go.Lib Go.Shelf Go.Deep Hk
set_option linter.unusedSimpArgs false
set_option linter.unusedVariables false
set_option maxRecDepth 100000

/-- How wide a slice is that came in. -/
theorem open_wide {H : Type} {enc : TypeId × Value → H} {W : World} {t e : TypeId} {A : Option Addr} {n cap : Nat} {d : DataW H} {p : List MemPlace} {ts : List TypeId} {ds : List (DataW H)} {j : Nat} (ht : Tryd.prog.underlying t = some (.slice e))
    (h : DataW.Trod enc Tryd.prog W 0 (fun _ => true) true t (.slice A n cap) d p) (hz : (DataW.weightsEach Tryd.prog ts ds).all (· ≤ reachBytes) = true) (hts : ts[j]? = some t) (hds : ds[j]? = some d) : n * Tryd.prog.bytesOf e ≤ reachBytes := by
  obtain ⟨fuel, hf⟩ := h
  rcases open_slice ht hf with ⟨hcs, hx⟩ | ⟨a, len, cap', m, n', D, Pl, hcs, hb, hl, hm, hmm, hx, _⟩
  · replace hcs : [Value.slice A n cap] = [_] := hcs
    simp at hcs
    obtain ⟨rfl, rfl, rfl⟩ := hcs
    simp
  · replace hcs : [Value.slice A n cap] = [_] := hcs
    simp at hcs
    obtain ⟨rfl, rfl, rfl⟩ := hcs
    simp only [Prod.mk.injEq] at hx
    obtain ⟨rfl, rfl⟩ := hx
    have := sized_slice hz hts hds ht
    simp only [List.length_map, List.length_range] at this
    exact Nat.le_trans (Nat.mul_le_mul_right _ (by omega)) this

/-- Parts of speech that came in. -/
theorem open_pos {H : Type} {enc : TypeId × Value → H} {W : World} {base : Nat} {v : Value} {d : DataW H} {p : List MemPlace} {ts : List TypeId} {ds : List (DataW H)} {j : Nat}
    (hv : Value.okWide Tryd.prog W .any base 24 v) (h : DataW.Trod enc Tryd.prog W 0 (fun _ => true) true 24 v d p) (hz : (DataW.weightsEach Tryd.prog ts ds).all (· ≤ reachBytes) = true) (hts : ts[j]? = some 24) (hds : ds[j]? = some d) :
    ∃ (A : Option Addr) (cap : Nat) (l : List P2), v = .slice A l.length cap ∧ l.length ≤ cap ∧ cap ≤ maxLen ∧ Lies W W.heap.size 2 A l.length (pcells l) ∧ l.length * 24 ≤ 140737488351232 ∧ Fit l := by
  obtain ⟨A, len, cap, rfl⟩ := okWide_slice Tryd.underlying24 hv
  have hw := open_wide Tryd.underlying24 h hz hts hds
  rw [show Tryd.prog.bytesOf 33 = 24 by kernel_rfl] at hw
  obtain ⟨fuel, hf⟩ := h
  rcases open_slice_pairs Tryd.underlying24 Tryd.underlying33 (by kernel_rfl) rfl rfl (by kernel_rfl) (by kernel_rfl) hf with ⟨hcs, hx⟩ | ⟨a, len', cap', m, n, V0, V1, D0, D1, P0, P1, hcs, _, hl, hm, hmm, hx, hi⟩
  · replace hcs : [Value.slice A len cap] = [_] := hcs
    simp at hcs
    obtain ⟨rfl, rfl, rfl⟩ := hcs
    exact ⟨none, 0, [], rfl, Nat.le_refl _, Nat.zero_le _, Lies.empty, by simp, fun s hs => by cases hs⟩
  · replace hcs : [Value.slice A len cap] = [_] := hcs
    simp at hcs
    obtain ⟨rfl, rfl, rfl⟩ := hcs
    simp only [if_true] at hmm
    subst hmm
    have each : ∀ i, i < m → ∃ q : P2, V0 i = .string q.1 ∧ V1 i = .int .i64 q.2 ∧ q.1.size ≤ maxLen := by
      intro i him
      obtain ⟨_, _, h0, h1⟩ := hi i him
      obtain ⟨s, e0, q0, z0⟩ := DataW.trod_string Tryd.underlying9 h0
      obtain ⟨z, e1, q1, hz⟩ := DataW.trod_int Tryd.underlying3 h1
      simp at e0 e1
      exact ⟨(s, z), e0, e1, z0⟩
    obtain ⟨q, hq⟩ := choose_lt each
    have hlen : ((List.range len).map q).length = len := by simp
    refine ⟨some a, m, (List.range len).map q, by rw [hlen], by rw [hlen]; exact hl, hm, ?_, by rw [hlen]; exact hw, ?_⟩
    · rw [hlen]
      by_cases h0 : 0 < len
      · obtain ⟨hc0, _⟩ := hi 0 (by omega)
        have hcell : ∀ i, i < len → W.cell? (a.add (i * 2)) = some (.string (q i).1) ∧ W.cell? (a.add (i * 2 + 1)) = some (.int .i64 (q i).2) := by
          intro i hil
          obtain ⟨g0, g1, _⟩ := hi i (by omega)
          obtain ⟨r0, r1, _⟩ := hq i (by omega)
          rw [← r0, ← r1]
          exact ⟨g0, g1⟩
        refine Lies.of_addr ?_ (by omega) (World.block_lt_of_cell? W (a.add (0 * 2)) hc0 |> fun h => by rwa [add_block] at h) ?_
        · rw [pcells_len, hlen]
        · intro j u hu
          obtain ⟨k, c, hk, hu'⟩ := flat2_at _ j u hu
          rw [List.getElem?_map] at hk
          obtain ⟨i, hi', rfl⟩ := Option.map_eq_some_iff.1 hk
          obtain ⟨hlt, e⟩ := List.getElem?_eq_some_iff.1 hi'
          simp at hlt e
          subst e
          obtain ⟨g0, g1⟩ := hcell k hlt
          rcases hu' with ⟨rfl, rfl⟩ | ⟨rfl, rfl⟩
          · exact g0
          · exact g1
      · have : len = 0 := by omega
        subst this
        exact Lies.empty
    · intro c hc
      obtain ⟨i, hi', rfl⟩ := List.mem_map.1 hc
      have hil : i < len := List.mem_range.1 hi'
      exact (hq i (by omega)).2.2
end Go.Proofs.YtoihfmjnonanjaaDoor
