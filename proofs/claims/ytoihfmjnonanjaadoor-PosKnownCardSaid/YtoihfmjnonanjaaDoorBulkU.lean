/- Bytes that came in: a slice of bytes, opened; its string. -/
import Derived.Test.YtoihfmjnonanjaaDoorBulkP
import Derived.Test.YtoihfmjnonanjaaDoorPosAH
import Derived.ChangeSlices
import Derived.Outline
namespace Go.Proofs.YtoihfmjnonanjaaDoor
open Go.ChangeShapes Go.WideShapes Go.ChangeAt Go.RowKit Go.Lib Go.Shelf Hk Go.Deep
set_option linter.unusedSimpArgs false
set_option linter.unusedVariables false
set_option maxRecDepth 100000

theorem open_u8s {H : Type} {enc : TypeId × Value → H} {W : World} {base : Nat} {t e : TypeId} {v : Value} {d : DataW H} {p : List MemPlace} (ht : Tryd.prog.underlying t = some (.slice e)) (he : Tryd.prog.underlying e = some (.int .u8)) (hc : Tryd.prog.cellsOf e = 1)
    (hv : Value.okWide Tryd.prog W .any base t v) (h : DataW.Trod enc Tryd.prog W 0 (fun _ => true) true t v d p) :
    ∃ (A : Option Addr) (cap : Nat) (l : List UInt8), v = .slice A l.length cap ∧ l.length ≤ cap ∧ cap ≤ maxLen ∧ Lies W W.heap.size 1 A l.length (byteCells l) ∧ l.length ≤ maxLen ∧ l.length = l.length := by
  obtain ⟨A, len, cap, rfl⟩ := okWide_slice ht hv
  obtain ⟨fuel, hf⟩ := h
  rcases open_ints ht he hc hf with ⟨hcs, hx⟩ | ⟨a, len', cap', zs, hcs, _, hl, hm, hz, hx, hcell, hss⟩
  · replace hcs : [Value.slice A len cap] = [_] := hcs
    simp at hcs
    obtain ⟨rfl, rfl, rfl⟩ := hcs
    exact ⟨none, 0, [], rfl, Nat.le_refl _, Nat.zero_le _, Lies.empty, Nat.zero_le _, rfl⟩
  · replace hcs : [Value.slice A len cap] = [_] := hcs
    simp at hcs
    obtain ⟨rfl, rfl, rfl⟩ := hcs
    simp only [if_true] at hz
    simp only [Prod.mk.injEq] at hx
    obtain ⟨rfl, rfl⟩ := hx
    have hw : ∀ z ∈ zs, 0 ≤ z ∧ z < 256 := fun z hz => by
      have h := hss z hz
      simp [Lit.wf, IntKind.min, IntKind.max, IntKind.bits, IntKind.signed] at h
      omega
    have htl : ((zs.take len).map fun z => z.toNat.toUInt8).length = len := by simp; omega
    refine ⟨some a, cap, (zs.take len).map fun z => z.toNat.toUInt8, by rw [htl], by rw [htl]; exact hl, hm, ?_, by rw [htl]; omega, rfl⟩
    rw [htl]
    by_cases h0 : 0 < len
    · refine Lies.of_addr (by simp [byteCells]; omega) (by omega) (World.block_lt_of_cell? W (a.add 0) (hcell 0 (by omega)) |> fun h => by rwa [add_block] at h) fun j u hu => ?_
      simp only [byteCells] at hu
      rw [List.getElem?_map, List.getElem?_map] at hu
      obtain ⟨s, hs, rfl⟩ := Option.map_eq_some_iff.1 hu
      obtain ⟨z, hz2, rfl⟩ := Option.map_eq_some_iff.1 hs
      have hj : j < len := by have := (List.getElem?_eq_some_iff.1 hz2).1; simp at this; omega
      rw [hcell j (by omega)]
      rw [List.getElem?_take_of_lt hj] at hz2
      have := hw z (List.mem_of_getElem? hz2)
      rw [toU8_toNat z.toNat (by omega)]
      simp [List.getD, hz2]
      omega
    · have : len = 0 := by omega
      subst this
      simp
      exact Lies.empty

theorem conv_lies {w : World} {B n cap : Nat} {A : Option Addr} {bs : List UInt8} (h : Lies w B 1 A n (byteCells bs)) (hn : n = bs.length) : (convert 29 9 (.slice A n cap)).run Tryd.prog w = .ok (.string ⟨bs.toArray⟩) w := by
  by_cases h0 : 0 < n
  · obtain ⟨b, off, rfl, hbR, hcs⟩ := h.cells h0
    have := run_convert_bytes_back (P := Tryd.prog) w 29 9 5 ⟨b, off, none⟩ cap bs Tryd.underlying29 Tryd.underlying5 Tryd.underlying9 (fun i hi => by
      rw [Addr.add_lit]
      exact hcs i _ (by simp [byteCells, hi]))
    rw [hn]
    exact this
  · obtain rfl : n = 0 := by omega
    have : bs = [] := List.length_eq_zero_iff.1 hn.symm
    subst this
    exact conv_zero w A cap
theorem encB_ok {l : List P2} (h : okB l = true) : encB l = encL l := by unfold encB; rw [if_pos h]
theorem encB_no {l : List P2} (h : okB l = false) : encB l = [] := by unfold encB; rw [h]; rfl
theorem ok_len {l : List P2} (h : okB l = true) : l.length ≤ 64 := (of_decide_eq_true h).2.1
theorem ok_fit {l : List P2} (h : okB l = true) : Fit l := fun c hc => by
  have := (name_ok ((of_decide_eq_true h).2.2.2.1 c hc).1).2.1
  rw [← size_list] at this
  unfold maxLen
  omega
end Go.Proofs.YtoihfmjnonanjaaDoor
