/- What the bound on the bulk of the arguments gives; slices that came in, opened; the frame of a law in the second form. -/
import Derived.Test.YtoihfmjnonanjaaDoorFrameP
import Derived.Test.YtoihfmjnonanjaaDoorMem
import Derived.Deep.DeepHandedRow
import Derived.Deep.SlicePairs
import Derived.SliceStrings
namespace Go.Proofs.YtoihfmjnonanjaaDoor
open Go.ChangeShapes Go.WideShapes Go.ChangeAt Go.RowKit Go.Lib Go.Shelf Go.Deep
set_option linter.unusedSimpArgs false
set_option linter.unusedVariables false
set_option maxRecDepth 100000

theorem bulk_pos {H : Type} (d : DataW H) : 1 ≤ Rows.uptoBulk d := by
  cases d with
  | lit l => cases l <;> simp [Rows.uptoBulk]
  | _ => simp [Rows.uptoBulk]
theorem bulk_part {H : Type} {d : DataW H} : ∀ {l : List (DataW H)}, d ∈ l → Rows.uptoBulk d ≤ Rows.uptoBulkAll l
  | x :: r, h => by
    simp only [Rows.uptoBulkAll]
    rcases List.mem_cons.1 h with e | e
    · subst e; omega
    · have := bulk_part e; omega
theorem bulk_len {H : Type} : ∀ (l : List (DataW H)), l.length ≤ Rows.uptoBulkAll l
  | [] => Nat.zero_le _
  | x :: r => by
    have := bulk_len r
    have := bulk_pos x
    simp only [Rows.uptoBulkAll, List.length_cons]
    omega
theorem bulk_slice {H : Type} (elems spare : List (DataW H)) : Rows.uptoBulkAll elems ≤ Rows.uptoBulk (.slice elems spare) := by
  simp only [Rows.uptoBulk]
  omega
theorem bulk_string {H : Type} (l : List UInt8) : Rows.uptoBulk (DataW.lit (H := H) (.string l)) = l.length + 1 := by simp [Rows.uptoBulk]
theorem bulk_bound {H : Type} {l : List (DataW H)} (h : Rows.uptoSmall H l = true) : Rows.uptoBulkAll l ≤ 1048576 := of_decide_eq_true h

/-- Strings that came in: a slice of strings, opened. -/
theorem open_strs {H : Type} {enc : TypeId × Value → H} {W : World} {base : Nat} {t e : TypeId} {v : Value} {d : DataW H} {p : List MemPlace} (ht : Tryd.prog.underlying t = some (.slice e)) (he : Tryd.prog.underlying e = some .string) (hc : Tryd.prog.cellsOf e = 1)
    (hv : Value.okWide Tryd.prog W .any base t v) (h : DataW.Trod enc Tryd.prog W 0 (fun _ => true) true t v d p) :
    ∃ (A : Option Addr) (cap : Nat) (ss : List ByteArray), v = .slice A ss.length cap ∧ ss.length ≤ cap ∧ cap ≤ maxLen ∧ Lies W W.heap.size 1 A ss.length (ss.map Value.string) ∧ ss.length ≤ Rows.uptoBulk d ∧ ∀ s ∈ ss, s.size ≤ Rows.uptoBulk d ∧ s.size ≤ maxLen := by
  obtain ⟨A, len, cap, rfl⟩ := okWide_slice ht hv
  obtain ⟨fuel, hf⟩ := h
  rcases open_strings ht he hc hf with ⟨hcs, hx⟩ | ⟨a, len', cap', ss, hcs, _, hl, hm, hz, hx, hcell, hss⟩
  · replace hcs : [Value.slice A len cap] = [_] := hcs
    simp at hcs
    obtain ⟨rfl, rfl, rfl⟩ := hcs
    exact ⟨none, 0, [], rfl, Nat.le_refl _, Nat.zero_le _, Lies.empty, Nat.zero_le _, fun s hs => by cases hs⟩
  · replace hcs : [Value.slice A len cap] = [_] := hcs
    simp at hcs
    obtain ⟨rfl, rfl, rfl⟩ := hcs
    simp only [if_true] at hz
    simp only [Prod.mk.injEq] at hx
    obtain ⟨rfl, rfl⟩ := hx
    have htl : (ss.take len).length = len := by simp; omega
    refine ⟨some a, cap, ss.take len, by rw [htl], by rw [htl]; exact hl, hm, ?_, ?_, ?_⟩
    · rw [htl]
      by_cases h0 : 0 < len
      · refine Lies.of_addr (by simp; omega) (by omega) (World.block_lt_of_cell? W (a.add 0) (hcell 0 (by omega)) |> fun h => by rwa [add_block] at h) fun j u hu => ?_
        rw [List.getElem?_map] at hu
        obtain ⟨s, hs, rfl⟩ := Option.map_eq_some_iff.1 hu
        have hj : j < len := by have := (List.getElem?_eq_some_iff.1 hs).1; simp at this; omega
        rw [hcell j (by omega)]
        rw [List.getElem?_take_of_lt hj] at hs
        simp [List.getD, hs]
      · have : len = 0 := by omega
        subst this
        simp
        exact Lies.empty
    · have h1 := bulk_slice (H := H) (strs (ss.take len)) (strs (ss.drop len))
      have h2 := bulk_len (H := H) (strs (ss.take len))
      have h3 : (strs (ss.take len) : List (DataW H)).length = (ss.take len).length := by simp [strs]
      omega
    · intro s hs
      refine ⟨?_, hss s (List.mem_of_mem_take hs)⟩
      have h1 := bulk_slice (H := H) (strs (ss.take len)) (strs (ss.drop len))
      have hm : (DataW.lit (H := H) (.string s.data.toList)) ∈ strs (ss.take len) := by simp only [strs, List.mem_map]; exact ⟨s, hs, rfl⟩
      have h2 := bulk_part hm
      rw [bulk_string] at h2
      have h4 : s.size = s.data.toList.length := by simp
      omega

/-- Pairs of a string and an int that came in. -/
theorem open_pairs {H : Type} {enc : TypeId × Value → H} {W : World} {base : Nat} {t e : TypeId} {f0 f1 : Field} {v : Value} {d : DataW H} {p : List MemPlace} (ht : Tryd.prog.underlying t = some (.slice e)) (he : Tryd.prog.underlying e = some (.struct #[f0, f1]))
    (ce : Tryd.prog.cellsOf e = 2) (o0 : f0.offset = 0) (o1 : f1.offset = 1) (c0 : Tryd.prog.cellsOf f0.type = 1) (c1 : Tryd.prog.cellsOf f1.type = 1) (u0 : Tryd.prog.underlying f0.type = some .string) (u1 : Tryd.prog.underlying f1.type = some (.int .i64))
    (hv : Value.okWide Tryd.prog W .any base t v) (h : DataW.Trod enc Tryd.prog W 0 (fun _ => true) true t v d p) :
    ∃ (A : Option Addr) (cap : Nat) (cs : List (ByteArray × Int)), v = .slice A cs.length cap ∧ cs.length ≤ cap ∧ cap ≤ maxLen ∧ Lies W W.heap.size 2 A cs.length (cs.flatMap fun c => [Value.string c.1, .int .i64 c.2]) ∧ cs.length ≤ Rows.uptoBulk d ∧
      ∀ c ∈ cs, c.1.size ≤ Rows.uptoBulk d ∧ -9223372036854775808 ≤ c.2 ∧ c.2 ≤ 9223372036854775807 := by
  obtain ⟨A, len, cap, rfl⟩ := okWide_slice ht hv
  obtain ⟨fuel, hf⟩ := h
  rcases open_slice_pairs ht he ce o0 o1 c0 c1 hf with ⟨hcs, hx⟩ | ⟨a, len', cap', m, n, V0, V1, D0, D1, P0, P1, hcs, _, hl, hm, hmm, hx, hi⟩
  · replace hcs : [Value.slice A len cap] = [_] := hcs
    simp at hcs
    obtain ⟨rfl, rfl, rfl⟩ := hcs
    exact ⟨none, 0, [], rfl, Nat.le_refl _, Nat.zero_le _, Lies.empty, Nat.zero_le _, fun s hs => by cases hs⟩
  · replace hcs : [Value.slice A len cap] = [_] := hcs
    simp at hcs
    obtain ⟨rfl, rfl, rfl⟩ := hcs
    simp only [if_true] at hmm
    subst hmm
    simp only [Prod.mk.injEq] at hx
    obtain ⟨rfl, rfl⟩ := hx
    have each : ∀ i, i < m → ∃ q : ByteArray × Int, V0 i = .string q.1 ∧ V1 i = .int .i64 q.2 ∧ D0 i = .lit (.string q.1.data.toList) ∧ -9223372036854775808 ≤ q.2 ∧ q.2 ≤ 9223372036854775807 := by
      intro i him
      obtain ⟨_, _, h0, h1⟩ := hi i him
      obtain ⟨s, e0, q0, _⟩ := DataW.trod_string u0 h0
      obtain ⟨z, e1, q1, hz⟩ := DataW.trod_int u1 h1
      simp at e0 e1
      simp only [Prod.mk.injEq] at q0
      have hb := bounds_i64 hz
      exact ⟨(s, z), e0, e1, q0.1, hb.1, hb.2⟩
    obtain ⟨q, hq⟩ := choose_lt each
    have hlen : ((List.range len).map q).length = len := by simp
    refine ⟨some a, m, (List.range len).map q, by rw [hlen], by rw [hlen]; exact hl, hm, ?_, ?_, ?_⟩
    · rw [hlen]
      by_cases h0 : 0 < len
      · obtain ⟨hc0, _⟩ := hi 0 (by omega)
        have hcell : ∀ i, i < len → W.cell? (a.add (i * 2)) = some (.string (q i).1) ∧ W.cell? (a.add (i * 2 + 1)) = some (.int .i64 (q i).2) := by
          intro i hil
          obtain ⟨g0, g1, _⟩ := hi i (by omega)
          obtain ⟨r0, r1, _⟩ := hq i (by omega)
          rw [← r0, ← r1]
          exact ⟨g0, g1⟩
        refine Lies.of_addr ?_ (by omega) (World.block_lt_of_cell? W (a.add (0 * 2)) hc0 |> fun h => by rwa [add_block] at h) ?_
        · rw [flat2_len, hlen]
        · intro j u hu
          obtain ⟨k, c, hk, hu'⟩ := flat2_at _ j u hu
          rw [List.getElem?_map] at hk
          obtain ⟨i, hi', rfl⟩ := Option.map_eq_some_iff.1 hk
          obtain ⟨hlt, e⟩ := List.getElem?_eq_some_iff.1 hi'
          simp at hlt e
          subst e
          obtain ⟨g0, g1⟩ := hcell k hlt
          rcases hu' with ⟨rfl, rfl⟩ | ⟨rfl, rfl⟩
          · exact g0
          · exact g1
      · have : len = 0 := by omega
        subst this
        exact Lies.empty
    · rw [hlen]
      have h1 := bulk_slice (H := H) ((List.range len).map fun i => .agg [D0 i, D1 i]) ((List.range (m - len)).map fun j => .agg [D0 (len + j), D1 (len + j)])
      have h2 := bulk_len (H := H) ((List.range len).map fun i => .agg [D0 i, D1 i])
      simp only [List.length_map, List.length_range] at h2
      omega
    · intro c hc
      obtain ⟨i, hi', rfl⟩ := List.mem_map.1 hc
      have hil : i < len := List.mem_range.1 hi'
      obtain ⟨_, _, r2, r3, r4⟩ := hq i (by omega)
      refine ⟨?_, r3, r4⟩
      have h1 := bulk_slice (H := H) ((List.range len).map fun i => .agg [D0 i, D1 i]) ((List.range (m - len)).map fun j => .agg [D0 (len + j), D1 (len + j)])
      have hmem : (DataW.agg [D0 i, D1 i]) ∈ ((List.range len).map fun i => DataW.agg [D0 i, D1 i]) := List.mem_map.2 ⟨i, hi', rfl⟩
      have h2 := bulk_part hmem
      have h3 : Rows.uptoBulk (DataW.agg [D0 i, D1 i]) = Rows.uptoBulk (D0 i) + Rows.uptoBulk (D1 i) + 1 := by simp only [Rows.uptoBulk, Rows.uptoBulkAll]; omega
      have h5 : Rows.uptoBulk (D0 i) = (q i).1.data.toList.length + 1 := by rw [r2, bulk_string]
      have h4 : (q i).1.size = (q i).1.data.toList.length := by simp
      omega

/-- Pairs of strings that came in. -/
theorem open_words {H : Type} {enc : TypeId × Value → H} {W : World} {base : Nat} {t e : TypeId} {f0 f1 : Field} {v : Value} {d : DataW H} {p : List MemPlace} (ht : Tryd.prog.underlying t = some (.slice e)) (he : Tryd.prog.underlying e = some (.struct #[f0, f1]))
    (ce : Tryd.prog.cellsOf e = 2) (o0 : f0.offset = 0) (o1 : f1.offset = 1) (c0 : Tryd.prog.cellsOf f0.type = 1) (c1 : Tryd.prog.cellsOf f1.type = 1) (u0 : Tryd.prog.underlying f0.type = some .string) (u1 : Tryd.prog.underlying f1.type = some .string)
    (hv : Value.okWide Tryd.prog W .any base t v) (h : DataW.Trod enc Tryd.prog W 0 (fun _ => true) true t v d p) :
    ∃ (A : Option Addr) (cap : Nat) (cs : List (ByteArray × ByteArray)), v = .slice A cs.length cap ∧ cs.length ≤ cap ∧ cap ≤ maxLen ∧ Lies W W.heap.size 2 A cs.length (cs.flatMap fun c => [Value.string c.1, .string c.2]) ∧ cs.length ≤ Rows.uptoBulk d ∧
      ∀ c ∈ cs, (c.1.size ≤ Rows.uptoBulk d ∧ c.2.size ≤ Rows.uptoBulk d) ∧ c.1.size ≤ 9223372036854775807 ∧ c.2.size ≤ 9223372036854775807 := by
  obtain ⟨A, len, cap, rfl⟩ := okWide_slice ht hv
  obtain ⟨fuel, hf⟩ := h
  rcases open_slice_pairs ht he ce o0 o1 c0 c1 hf with ⟨hcs, hx⟩ | ⟨a, len', cap', m, n, V0, V1, D0, D1, P0, P1, hcs, _, hl, hm, hmm, hx, hi⟩
  · replace hcs : [Value.slice A len cap] = [_] := hcs
    simp at hcs
    obtain ⟨rfl, rfl, rfl⟩ := hcs
    exact ⟨none, 0, [], rfl, Nat.le_refl _, Nat.zero_le _, Lies.empty, Nat.zero_le _, fun s hs => by cases hs⟩
  · replace hcs : [Value.slice A len cap] = [_] := hcs
    simp at hcs
    obtain ⟨rfl, rfl, rfl⟩ := hcs
    simp only [if_true] at hmm
    subst hmm
    simp only [Prod.mk.injEq] at hx
    obtain ⟨rfl, rfl⟩ := hx
    have each : ∀ i, i < m → ∃ q : ByteArray × ByteArray, V0 i = .string q.1 ∧ V1 i = .string q.2 ∧ D0 i = .lit (.string q.1.data.toList) ∧ D1 i = .lit (.string q.2.data.toList) ∧ q.1.size ≤ 9223372036854775807 ∧ q.2.size ≤ 9223372036854775807 := by
      intro i him
      obtain ⟨_, _, h0, h1⟩ := hi i him
      obtain ⟨s, e0, q0, z0⟩ := DataW.trod_string u0 h0
      obtain ⟨z, e1, q1, z1⟩ := DataW.trod_string u1 h1
      simp at e0 e1
      simp only [Prod.mk.injEq] at q0 q1
      exact ⟨(s, z), e0, e1, q0.1, q1.1, by simpa [maxLen] using z0, by simpa [maxLen] using z1⟩
    obtain ⟨q, hq⟩ := choose_lt each
    have hlen : ((List.range len).map q).length = len := by simp
    refine ⟨some a, m, (List.range len).map q, by rw [hlen], by rw [hlen]; exact hl, hm, ?_, ?_, ?_⟩
    · rw [hlen]
      by_cases h0 : 0 < len
      · obtain ⟨hc0, _⟩ := hi 0 (by omega)
        have hcell : ∀ i, i < len → W.cell? (a.add (i * 2)) = some (.string (q i).1) ∧ W.cell? (a.add (i * 2 + 1)) = some (.string (q i).2) := by
          intro i hil
          obtain ⟨g0, g1, _⟩ := hi i (by omega)
          obtain ⟨r0, r1, _⟩ := hq i (by omega)
          rw [← r0, ← r1]
          exact ⟨g0, g1⟩
        refine Lies.of_addr ?_ (by omega) (World.block_lt_of_cell? W (a.add (0 * 2)) hc0 |> fun h => by rwa [add_block] at h) ?_
        · rw [flat2_len, hlen]
        · intro j u hu
          obtain ⟨k, c, hk, hu'⟩ := flat2_at _ j u hu
          rw [List.getElem?_map] at hk
          obtain ⟨i, hi', rfl⟩ := Option.map_eq_some_iff.1 hk
          obtain ⟨hlt, e⟩ := List.getElem?_eq_some_iff.1 hi'
          simp at hlt e
          subst e
          obtain ⟨g0, g1⟩ := hcell k hlt
          rcases hu' with ⟨rfl, rfl⟩ | ⟨rfl, rfl⟩
          · exact g0
          · exact g1
      · have : len = 0 := by omega
        subst this
        exact Lies.empty
    · rw [hlen]
      have h1 := bulk_slice (H := H) ((List.range len).map fun i => .agg [D0 i, D1 i]) ((List.range (m - len)).map fun j => .agg [D0 (len + j), D1 (len + j)])
      have h2 := bulk_len (H := H) ((List.range len).map fun i => .agg [D0 i, D1 i])
      simp only [List.length_map, List.length_range] at h2
      omega
    · intro c hc
      obtain ⟨i, hi', rfl⟩ := List.mem_map.1 hc
      have hil : i < len := List.mem_range.1 hi'
      obtain ⟨_, _, r2, r2', r3, r4⟩ := hq i (by omega)
      refine ⟨?_, r3, r4⟩
      have h1 := bulk_slice (H := H) ((List.range len).map fun i => .agg [D0 i, D1 i]) ((List.range (m - len)).map fun j => .agg [D0 (len + j), D1 (len + j)])
      have hmem : (DataW.agg [D0 i, D1 i]) ∈ ((List.range len).map fun i => DataW.agg [D0 i, D1 i]) := List.mem_map.2 ⟨i, hi', rfl⟩
      have h2 := bulk_part hmem
      have h3 : Rows.uptoBulk (DataW.agg [D0 i, D1 i]) = Rows.uptoBulk (D0 i) + Rows.uptoBulk (D1 i) + 1 := by simp only [Rows.uptoBulk, Rows.uptoBulkAll]; omega
      have h5 : Rows.uptoBulk (D0 i) = (q i).1.data.toList.length + 1 := by rw [r2, bulk_string]
      have h4 : (q i).1.size = (q i).1.data.toList.length := by simp
      have h5' : Rows.uptoBulk (D1 i) = (q i).2.data.toList.length + 1 := by rw [r2', bulk_string]
      have h4' : (q i).2.size = (q i).2.data.toList.length := by simp
      constructor <;> omega

/-- The witness of a row with a condition, in a world that is shaped. -/
theorem witness_row_shaped {H : Type} {enc : TypeId × Value → H} {C : Checked} {os : Os} {f : FuncId} {fn : Func} {s : OpenSpec} {conds : List PathCond} {apart : Bool} {laid : List (String × DataW Unit)} (modest : Bool) (w0 : World) (args : Array Value) (hos : w0.os = os)
    (hsh : (w0.forCall (fun _ _ => 0) ⟨#[], args, []⟩).Shaped C.prog)
    (hok : Input.okWideB C.prog (w0.forCall (fun _ _ => 0) ⟨#[], args, []⟩) f ⟨#[], args, []⟩ = true)
    (hrow : s.preRow enc C.prog fn conds apart laid (w0.forCall (fun _ _ => 0) ⟨#[], args, []⟩).memory args) :
    ∃ (w : World) (tape : Tape) (i : Input), w.os = os ∧ (w.forCall tape i).Shaped C.prog ∧ i.vars = [] ∧ Input.okWide C.prog (w.forCall tape i) .any w.heap.size f i ∧
      s.preRow enc C.prog fn conds apart laid (w.forCall tape i).memory i.args ∧ ({ modest := modest } : Assume).holds C.prog (lone (Frame.enter C.prog f i.args .normal) [] (w.forCall tape i)) :=
  ⟨w0, fun _ _ => 0, ⟨#[], args, []⟩, hos, hsh, (Input.okWide_of_okWideB (base := 0) hok).1, (Input.okWide_of_okWideB hok).2, hrow, by
    simp only [Assume.holds]
    exact ⟨by simp, by simp, fun _ => Modest.zero, by simp, by simp⟩⟩
end Go.Proofs.YtoihfmjnonanjaaDoor
