/- coding.read of strings. -/
import Derived.Test.YtoihfmjnonanjaaDoorPosAB
import Derived.OwnWalk
namespace Go.Proofs.YtoihfmjnonanjaaDoor
open Go.RowKit Go.Lib Go.Shelf Hk
set_option linter.unusedSimpArgs false
set_option linter.unusedVariables false
set_option maxRecDepth 100000

theorem catchS_idle (a b c : Value) (W : World) :
    CallsD Tryd.prog 73 #[a, b, c] .returning W fun e u' W' => e = .returned (.tuple #[]) ∧ u' = .returning ∧ W' = W := by
  refine callsD_of_wpS Tryd.func73 rfl fun c₀ cs hu => ?_
  apply wpS_seq
  apply wpS_region
  simp [wpOpsS, go_sem, recoverD, hu, Tryd.ntmps73, Exit.thenS]
  refine wpS_of_wp ?_
  go_wp2
  cases c₀
  simp_all [bodyPostS, results, Tryd.results73, Exit.thenS]

set_option maxHeartbeats 2000000 in
theorem catchS_fail (B0 B1 B2 : Nat) (u0 u1 u2 : Value) (W : World) (h0 : Boxed W B0 9 u0) (h1 : Boxed W B1 3 u1) (h2 : Boxed W B2 4 u2) (n01 : B0 ≠ B1) (n02 : B0 ≠ B2) (n12 : B1 ≠ B2) :
    CallsD Tryd.prog 73 #[.pointer (some ⟨B0, 0, none⟩), .pointer (some ⟨B1, 0, none⟩), .pointer (some ⟨B2, 0, none⟩)] (.panicking [{ v := .iface 114 (.agg #[]), recovered := false }]) W fun e u' W' =>
      e = .returned (.tuple #[]) ∧ u' = .panicking [{ v := .iface 114 (.agg #[]), recovered := true }] ∧ Boxed W' B0 9 (.string ⟨#[]⟩) ∧ Boxed W' B1 3 (.int .i64 0) ∧ Boxed W' B2 4 (.bool false) ∧ (∀ base, base ≤ B0 → base ≤ B1 → base ≤ B2 → base ≤ W.heap.size → Below base W W') := by
  have g0 := h0.alloc (.cells #[] 114)
  have g1 := h1.alloc (.cells #[] 114)
  have g2 := h2.alloc (.cells #[] 114)
  have k0 := g0.cell
  have k1 := g1.cell
  have k2 := g2.cell
  have f0 := g0.frozen
  have f1 := g1.frozen
  have f2 := g2.frozen
  have m01 := n01.symm
  have m02 := n02.symm
  have m12 := n12.symm
  have hta : ∀ w, (Instr.typeAssert (Value.iface 114 (.agg #[])) 20 114 true).run Tryd.prog w = .ok (.tuple #[.agg #[], .bool true]) w := fun _ => by kernel_rfl
  refine callsD_of_wpS Tryd.func73 rfl fun c₀ cs hu => ?_
  apply wpS_seq
  apply wpS_region
  simp [wpOpsS, go_sem, recoverD, hu, Tryd.ntmps73, Exit.thenS]
  refine wpS_of_wp ?_
  simp only [List.size_toArray, List.length_cons, List.length_nil, Nat.reduceAdd, Nat.reduceSub, Array.replicate_succ, Array.replicate_zero, List.push_toArray, List.append_toArray, List.nil_append, List.cons_append, List.setIfInBounds_toArray, List.set_cons_succ, List.set_cons_zero]
  go_wp2
  obtain ⟨b0, b1, b2, _⟩ := stores3 (.string ⟨#[]⟩) (.int .i64 0) (.bool false) g0 g1 g2 n01 n02 n12
  exact ⟨rfl, _, rfl, .tuple #[], results_none rfl _ _ _, rfl, rfl, b0, b1, b2, fun base q0 q1 q2 q3 => ((((Below.refl base W).alloc q3 _).setCell (p := ⟨B0, 0, none⟩) q0 _).setCell (p := ⟨B1, 0, none⟩) q1 _).setCell (p := ⟨B2, 0, none⟩) q2 _⟩

/-- What Text returns. -/
def sRes (o : Option (List UInt8 × Nat)) (p : Nat) : Value :=
  match o with
  | some (v, c) => .tuple #[.string ⟨v.toArray⟩, .int .i64 ((p + c : Nat) : Int), .bool true]
  | none => .tuple #[.string ⟨#[]⟩, .int .i64 0, .bool false]
set_option maxHeartbeats 4000000 in
theorem readS_calls (A : Option Addr) (n cap : Nat) (bs : List UInt8) (p : Nat) (w : World) (hl : Lies w w.heap.size 1 A n (byteCells bs)) (hn : n = bs.length) (hc : n ≤ cap) (hcm : cap ≤ maxLen) (hp : p ≤ 9223372036854775807) :
    Calls Tryd.prog 65 #[.slice A n cap, .int .i64 (p : Int), .func (.func 66) #[] #[]] w fun e w' => e = .returned (sRes (rdT (bs.drop p)) p) ∧ Below w.heap.size w w' := by
  obtain ⟨hr, hb, x0, x1, x2⟩ := readW_facts w (.string ⟨#[]⟩) 9 A n cap p
  have CN := Lib.hid (text_calls (w.heap.size + 1 + 1 + 1) A n cap bs p (readW w (.string ⟨#[]⟩) 9 A n cap p) hr ((hl.below hb).up (by omega)) hn hc hcm hp)
  have hmf : ∀ (fn : Fn) (first cap : Array Value) (w : World), (Instr.makeFunc fn first cap).run Tryd.prog w = .ok (.func fn first cap) w := fun _ _ _ _ => rfl
  have eg := enters_of Tryd.func66 (by kernel_rfl) rfl
  clear hl hn hr
  go_enter_defers Tryd.func65, Tryd.ntmps65
  go_wp2_with fail
  refine CN.out.mono ?_
  rintro e w1 ⟨hb1, ⟨v, c, hrd, rfl, hr⟩ | ⟨hrd, rfl⟩⟩
  · have y0 := boxed_wide x0 hb1 (by omega)
    have y1 := boxed_wide x1 hb1 (by omega)
    have y2 := boxed_wide x2 hb1 (by omega)
    have z0 := y0.cell
    have z1 := y1.cell
    have z2 := y2.cell
    have g0 := y0.frozen
    have g1 := y1.frozen
    have g2 := y2.frozen
    have k1 := hr.c1
    have f1 := hr.f1
    have HB := Lib.hid hb
    have HB1 := Lib.hid hb1
    have HR := Lib.hid hrd
    clear CN hb hb1 hrd
    go_wp2_with fail
    go_region
    go_wp2_with fail
    refine leaves_cons (f := 73) (args := #[.pointer (some ⟨w.heap.size, 0, none⟩), .pointer (some ⟨w.heap.size + 1, 0, none⟩), .pointer (some ⟨w.heap.size + 1 + 1, 0, none⟩)]) (by simp) (by simp [go_sem]) ?_
    refine (catchS_idle _ _ _ _).mono ?_
    rintro e u' w2 ⟨rfl, rfl, rfl⟩
    obtain ⟨b0, b1, b2, _⟩ := stores3 (.string ⟨v.toArray⟩) (.int .i64 ((p : Int) + (c : Int))) (.bool true) (y0.set (.string ⟨v.toArray⟩)) (y1.other (by omega) (.string ⟨v.toArray⟩)) (y2.other (by omega) (.string ⟨v.toArray⟩)) (by omega) (by omega) (by omega)
    have l0 := b0.cell
    have l1 := b1.cell
    have l2 := b2.cell
    have hB := HB.out.trans (HB1.out.mono (by omega))
    have hB2 := (((hB.setCell (p := ⟨w.heap.size, 0, none⟩) (Nat.le_refl _) (.string ⟨v.toArray⟩)).setCell (p := ⟨w.heap.size, 0, none⟩) (Nat.le_refl _) (.string ⟨v.toArray⟩)).setCell (p := ⟨w.heap.size + 1, 0, none⟩) (by simp) (.int .i64 ((p : Int) + (c : Int)))).setCell (p := ⟨w.heap.size + 1 + 1, 0, none⟩) (by simp; omega) (.bool true)
    generalize (((w1.setCell _ _).setCell _ _).setCell _ _).setCell _ _ = w3 at *
    have l0' : w3.drew.cell? ⟨w.heap.size, 0, none⟩ = _ := l0
    have l1' : w3.drew.cell? ⟨w.heap.size + 1, 0, none⟩ = _ := l1
    have l2' : w3.drew.cell? ⟨w.heap.size + 1 + 1, 0, none⟩ = _ := l2
    simp [Leaves, settle, results, Tryd.results65, go_sem, l0', l1', l2']
    refine ⟨?_, below_drewNR (q := 1) hB2⟩
    rw [HR.out]
    rfl
  · have y0 := boxed_wide x0 hb1 (by omega)
    have y1 := boxed_wide x1 hb1 (by omega)
    have y2 := boxed_wide x2 hb1 (by omega)
    have HB := Lib.hid hb
    have HB1 := Lib.hid hb1
    have HR := Lib.hid hrd
    clear CN hb hb1 hrd
    go_wp2_with fail
    refine leaves_cons (f := 73) (args := #[.pointer (some ⟨w.heap.size, 0, none⟩), .pointer (some ⟨w.heap.size + 1, 0, none⟩), .pointer (some ⟨w.heap.size + 1 + 1, 0, none⟩)]) (by simp) (by simp [go_sem]) ?_
    refine (catchS_fail _ _ _ _ _ _ _ y0 y1 y2 (by omega) (by omega) (by omega)).mono ?_
    rintro e u' w2 ⟨rfl, rfl, b0, b1, b2, hb2⟩
    have l0 := b0.cell
    have l1 := b1.cell
    have l2 := b2.cell
    simp [Leaves, settle, results, Tryd.results65, go_sem, l0, l1, l2]
    rw [HR.out]
    exact ⟨rfl, (HB.out.trans (HB1.out.mono (by omega))).trans (hb2 _ (Nat.le_refl _) (by omega) (by omega) (Nat.le_of_lt y0.lt))⟩

set_option maxHeartbeats 2000000 in
theorem uintC_calls (A : Option Addr) (n cap : Nat) (bs : List UInt8) (p : Nat) (w : World) (hl : Lies w w.heap.size 1 A n (byteCells bs)) (hn : n = bs.length) (hnm : n ≤ 9223372036854775807) (hp : p ≤ 9223372036854775807) :
    Calls Tryd.prog 43 #[.slice A n cap, .int .i64 (p : Int)] w fun e w' => e = .returned (uRes (rdU 0 (bs.drop p)) p) ∧ Below w.heap.size w w' := by
  have C := Lib.hid (readU_calls A n cap bs p w hl hn hnm hp)
  clear hl hn
  go_enter Tryd.func43, Tryd.ntmps43
  go_wp2_with fail
  refine C.out.mono ?_
  rintro e w1 ⟨rfl, hb1⟩
  have HB := Lib.hid hb1
  clear C hb1
  rcases h : rdU 0 (bs.drop p) with _ | ⟨v, c⟩
  · simp only [uRes]
    go_wp2_with fail
    go_ret3
    rw [h]
    exact ⟨rfl, HB.out⟩
  · simp only [uRes]
    go_wp2_with fail
    go_ret3
    rw [h]
    exact ⟨rfl, HB.out⟩

set_option maxHeartbeats 2000000 in
theorem textC_calls (A : Option Addr) (n cap : Nat) (bs : List UInt8) (p : Nat) (w : World) (hl : Lies w w.heap.size 1 A n (byteCells bs)) (hn : n = bs.length) (hc : n ≤ cap) (hcm : cap ≤ maxLen) (hp : p ≤ 9223372036854775807) :
    Calls Tryd.prog 44 #[.slice A n cap, .int .i64 (p : Int)] w fun e w' => e = .returned (sRes (rdT (bs.drop p)) p) ∧ Below w.heap.size w w' := by
  have C := Lib.hid (readS_calls A n cap bs p w hl hn hc hcm hp)
  clear hl hn
  go_enter Tryd.func44, Tryd.ntmps44
  go_wp2_with fail
  refine C.out.mono ?_
  rintro e w1 ⟨rfl, hb1⟩
  have HB := Lib.hid hb1
  clear C hb1
  rcases h : rdT (bs.drop p) with _ | ⟨v, c⟩
  · simp only [sRes]
    go_wp2_with fail
    go_ret3
    rw [h]
    exact ⟨rfl, HB.out⟩
  · simp only [sRes]
    go_wp2_with fail
    go_ret3
    rw [h]
    exact ⟨rfl, HB.out⟩
end Go.Proofs.YtoihfmjnonanjaaDoor
