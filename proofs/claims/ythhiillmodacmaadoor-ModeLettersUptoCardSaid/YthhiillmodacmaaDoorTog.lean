/- The table of the mode keys, as its initialiser lays it; what mode.Toggle and the reference's compute. -/
import Derived.Test.YthhiillmodacmaaDoorEnv
import Derived.Lib.LaidU8
import Derived.Laws.Rows
import Derived.Outline
namespace Go.Proofs.YthhiillmodacmaaDoor
open Go.RowKit Go.Lib Go.Shelf Hk
set_option linter.unusedSimpArgs false
set_option linter.unusedVariables false
set_option maxRecDepth 100000

/-- Key i, and the modes after it. -/
def togKey (i : Nat) : Int := [107, 104, 119, 114].getD i 0
def togTo (i j : Nat) : Int := ([[0, 2, 1, 0, 0, 0], [0, 0, 3, 2, 0, 0], [0, 0, 0, 0, 5, 4], [0, 5, 5, 5, 5, 1]].getD i []).getD j 0
def togOne (i : Nat) : List Value := [.int .u8 (togKey i), .int .i64 (togTo i 0), .int .i64 (togTo i 1), .int .i64 (togTo i 2), .int .i64 (togTo i 3), .int .i64 (togTo i 4), .int .i64 (togTo i 5)]
def togRow : Array Value := #[.int .u8 107, .int .i64 0, .int .i64 2, .int .i64 1, .int .i64 0, .int .i64 0, .int .i64 0, .int .u8 104, .int .i64 0, .int .i64 0, .int .i64 3, .int .i64 2, .int .i64 0, .int .i64 0,
  .int .u8 119, .int .i64 0, .int .i64 0, .int .i64 0, .int .i64 0, .int .i64 5, .int .i64 4, .int .u8 114, .int .i64 0, .int .i64 5, .int .i64 5, .int .i64 5, .int .i64 5, .int .i64 1]
def togData : DataW Unit := .agg ((List.range 4).map fun i => .agg [.lit (.int .u8 (togKey i)), .agg ((List.range 6).map fun j => .lit (.int .i64 (togTo i j)))])
theorem togRow_eq : togRow.toList = (List.range 4).flatMap togOne := rfl

theorem tog_chunk {fuel : Nat} {cs : List Value} {i : Nat} {p : List MemPlace} {w : World} (h : DataW.trod (fun _ => ()) Tryd.prog w 0 (fun _ => true) false fuel 48 cs = some (.agg [.lit (.int .u8 (togKey i)), .agg ((List.range 6).map fun j => .lit (.int .i64 (togTo i j)))], p)) (hi : i < 4) : cs = togOne i := by
  obtain ⟨xs, n, rfl, hx, hl, hxl, hall⟩ := DataW.trod_struct Tryd.underlying48 h
  have hc0 : Tryd.prog.cellsOf 5 = 1 := by kernel_rfl
  have hc1 : Tryd.prog.cellsOf 46 = 6 := by kernel_rfl
  have hc2 : Tryd.prog.cellsOf 3 = 1 := by kernel_rfl
  have hct : Tryd.prog.cellsOf 48 = 7 := by kernel_rfl
  rw [hct] at hl
  have h0 : DataW.trod (fun _ => ()) Tryd.prog w 0 (fun _ => true) false n 5 ((cs.drop 0).take (Tryd.prog.cellsOf 5)) = xs[0]? := hall 0 _ rfl
  have h1 : DataW.trod (fun _ => ()) Tryd.prog w 0 (fun _ => true) false n 46 ((cs.drop 1).take (Tryd.prog.cellsOf 46)) = xs[1]? := hall 1 _ rfl
  rw [hc0, List.drop_zero] at h0
  rw [hc1] at h1
  obtain ⟨x0, x1, rfl⟩ : ∃ x0 x1, xs = [x0, x1] := by
    match xs, hxl with
    | [a, b], _ => exact ⟨a, b, rfl⟩
  have hx' := congrArg Prod.fst hx
  simp only [List.map_cons, List.map_nil, DataW.agg.injEq, List.cons.injEq, and_true] at hx'
  obtain ⟨e0, e1⟩ := hx'
  obtain ⟨z, hz, rfl, _⟩ := DataW.trod_int Tryd.underlying5 h0
  simp only [DataW.lit.injEq, Lit.int.injEq, true_and] at e0
  obtain ⟨x1d, x1p⟩ := x1
  simp only at e1
  subst e1
  have hcell : ∀ j, j < 6 → cs[1 + j]? = some (.int .i64 (togTo i j)) := by
    intro j hj
    obtain ⟨f', d, q, hd, ht⟩ := array_elem Tryd.underlying46 h1 j hj
    rw [List.getElem?_map, List.getElem?_range hj] at hd
    obtain rfl := Option.some.inj hd
    rw [hc2] at ht
    obtain ⟨z', hz', e', _⟩ := DataW.trod_int Tryd.underlying3 ht
    injection e' with e' _
    simp only [DataW.lit.injEq, Lit.int.injEq, true_and] at e'
    subst e'
    have := congrArg (·[0]?) hz'
    simp only [List.getElem?_take, List.getElem?_drop] at this
    have hlt : j < 6 := hj
    simp [hlt] at this
    exact this
  have h00 : cs[0]? = some (.int .u8 (togKey i)) := by
    have := congrArg (·[0]?) hz
    simp [List.getElem?_take] at this
    rw [this, ← e0]
  apply List.ext_getElem?
  intro k
  by_cases hk : k < 7
  · have hk7 : k = 0 ∨ k = 1 ∨ k = 2 ∨ k = 3 ∨ k = 4 ∨ k = 5 ∨ k = 6 := by omega
    have g := hcell
    rcases hk7 with rfl | rfl | rfl | rfl | rfl | rfl | rfl
    · exact h00
    · exact g 0 (by omega)
    · exact g 1 (by omega)
    · exact g 2 (by omega)
    · exact g 3 (by omega)
    · exact g 4 (by omega)
    · exact g 5 (by omega)
  · rw [List.getElem?_eq_none (by omega), List.getElem?_eq_none (by simp [togOne]; omega)]

/-- The table lies in its variable. -/
def TogW (w : World) : Prop := ∃ t fr, w.heap[0]? = some (.cells togRow t fr)
theorem TogW.below {w w' : World} (h : TogW w) (hb : Below w.heap.size w w') : TogW w' := by
  obtain ⟨t, fr, hh⟩ := h
  exact ⟨t, fr, (hb.block _ (Array.getElem?_eq_some_iff.1 hh).1).trans hh⟩
theorem togW_of {w : World} (h : VarReads Tryd.prog w "henkan/mode.toggles" togData) : TogW w := by
  obtain ⟨g, t, cs, fuel, p, hg, ht, hv, hd⟩ := h
  obtain rfl : g = 0 := (Option.some.inj ((show Tryd.prog.globalNamed "henkan/mode.toggles" = some 0 by kernel_rfl).symm.trans hg)).symm
  obtain rfl : t = 49 := (Option.some.inj ((show (Tryd.prog.globals[0]?).map (·.type) = some 49 by kernel_rfl).symm.trans ht)).symm
  have hlen : cs.toList.length = 28 := by
    cases fuel with
    | zero => simp [DataW.trod] at hd
    | succ fuel =>
      simp only [DataW.trod, Tryd.underlying49] at hd
      split at hd
      · rename_i hl
        have hct : Tryd.prog.cellsOf 49 = 28 := by kernel_rfl
        simpa [hct] using hl
      · cases hd
  have hct : Tryd.prog.cellsOf 48 = 7 := by kernel_rfl
  have hch : ∀ i, i < 4 → (cs.toList.drop (i * 7)).take 7 = togOne i := by
    intro i hi
    obtain ⟨f', d, q, hdi, he⟩ := array_elem Tryd.underlying49 hd i hi
    rw [hct] at he
    rw [List.getElem?_map, List.getElem?_range hi] at hdi
    obtain rfl := Option.some.inj hdi
    exact tog_chunk he hi
  have hcs : cs = togRow := by
    apply Array.ext'
    rw [togRow_eq]
    have h0 := hch 0 (by omega)
    have h1 := hch 1 (by omega)
    have h2 := hch 2 (by omega)
    have h3 := hch 3 (by omega)
    show cs.toList = togOne 0 ++ (togOne 1 ++ (togOne 2 ++ (togOne 3 ++ [])))
    rw [← h0, ← h1, ← h2, ← h3, List.append_nil]
    generalize cs.toList = l at hlen ⊢
    simp only [Nat.zero_mul, List.drop_zero, Nat.one_mul, Nat.reduceMul]
    have e3 : (l.drop 21).take 7 = l.drop 21 := List.take_of_length_le (by rw [List.length_drop]; omega)
    rw [e3, show l.drop 21 = (l.drop 14).drop 7 by rw [List.drop_drop], List.take_append_drop, show l.drop 14 = (l.drop 7).drop 7 by rw [List.drop_drop], List.take_append_drop, List.take_append_drop]
  simp only [World.var?, hg, Option.bind_some] at hv
  split at hv
  · rename_i cs' t' fr hh
    obtain rfl := Option.some.inj hv
    rw [hcs] at hh
    exact ⟨t', fr, hh⟩
  · cases hv

/-- What is needed of a world. -/
def EnvM (w : World) : Prop := Env w ∧ TogW w
theorem EnvM.below {w w' : World} (h : EnvM w) (hb : Below w.heap.size w w') : EnvM w' := ⟨h.1.below hb, h.2.below hb⟩
end Go.Proofs.YthhiillmodacmaaDoor
