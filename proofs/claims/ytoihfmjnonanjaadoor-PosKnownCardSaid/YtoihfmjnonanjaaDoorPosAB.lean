/- The deferred literals of coding.read: what is recovered. -/
import Derived.Test.YtoihfmjnonanjaaDoorPosAA
import Derived.Defers
import Derived.Recover
namespace Go.Proofs.YtoihfmjnonanjaaDoor
open Go.RowKit Go.Lib Go.Shelf Hk
set_option linter.unusedSimpArgs false
set_option linter.unusedVariables false
set_option maxRecDepth 100000

theorem catchU_idle (a b c : Value) (W : World) :
    CallsD Tryd.prog 72 #[a, b, c] .returning W fun e u' W' => e = .returned (.tuple #[]) ∧ u' = .returning ∧ W' = W := by
  refine callsD_of_wpS Tryd.func72 rfl fun c₀ cs hu => ?_
  apply wpS_seq
  apply wpS_region
  simp [wpOpsS, go_sem, recoverD, hu, Tryd.ntmps72, Exit.thenS]
  refine wpS_of_wp ?_
  go_wp2
  cases c₀
  simp_all [bodyPostS, results, Tryd.results72, Exit.thenS]

set_option maxHeartbeats 2000000 in
theorem catchU_fail (B0 B1 B2 : Nat) (u0 u1 u2 : Value) (W : World) (h0 : Boxed W B0 79 u0) (h1 : Boxed W B1 3 u1) (h2 : Boxed W B2 4 u2) (n01 : B0 ≠ B1) (n02 : B0 ≠ B2) (n12 : B1 ≠ B2) :
    CallsD Tryd.prog 72 #[.pointer (some ⟨B0, 0, none⟩), .pointer (some ⟨B1, 0, none⟩), .pointer (some ⟨B2, 0, none⟩)] (.panicking [{ v := .iface 114 (.agg #[]), recovered := false }]) W fun e u' W' =>
      e = .returned (.tuple #[]) ∧ u' = .panicking [{ v := .iface 114 (.agg #[]), recovered := true }] ∧ Boxed W' B0 79 (.int .u64 0) ∧ Boxed W' B1 3 (.int .i64 0) ∧ Boxed W' B2 4 (.bool false) ∧ (∀ base, base ≤ B0 → base ≤ B1 → base ≤ B2 → base ≤ W.heap.size → Below base W W') := by
  have g0 := h0.alloc (.cells #[] 114)
  have g1 := h1.alloc (.cells #[] 114)
  have g2 := h2.alloc (.cells #[] 114)
  have k0 := g0.cell
  have k1 := g1.cell
  have k2 := g2.cell
  have f0 := g0.frozen
  have f1 := g1.frozen
  have f2 := g2.frozen
  have m01 := n01.symm
  have m02 := n02.symm
  have m12 := n12.symm
  have hta : ∀ w, (Instr.typeAssert (Value.iface 114 (.agg #[])) 20 114 true).run Tryd.prog w = .ok (.tuple #[.agg #[], .bool true]) w := fun _ => by kernel_rfl
  refine callsD_of_wpS Tryd.func72 rfl fun c₀ cs hu => ?_
  apply wpS_seq
  apply wpS_region
  simp [wpOpsS, go_sem, recoverD, hu, Tryd.ntmps72, Exit.thenS]
  refine wpS_of_wp ?_
  simp only [List.size_toArray, List.length_cons, List.length_nil, Nat.reduceAdd, Nat.reduceSub, Array.replicate_succ, Array.replicate_zero, List.push_toArray, List.append_toArray, List.nil_append, List.cons_append, List.setIfInBounds_toArray, List.set_cons_succ, List.set_cons_zero]
  go_wp2
  obtain ⟨b0, b1, b2, _⟩ := stores3 (.int .u64 0) (.int .i64 0) (.bool false) g0 g1 g2 n01 n02 n12
  exact ⟨rfl, _, rfl, .tuple #[], results_none rfl _ _ _, rfl, rfl, b0, b1, b2, fun base q0 q1 q2 q3 => ((((Below.refl base W).alloc q3 _).setCell (p := ⟨B0, 0, none⟩) q0 _).setCell (p := ⟨B1, 0, none⟩) q1 _).setCell (p := ⟨B2, 0, none⟩) q2 _⟩

theorem boxed_wide {W W' : World} {R B : Nat} {t : TypeId} {v : Value} (h : Boxed W B t v) (hb : Below R W W') (hlt : B < R) : Boxed W' B t v := (hb.block B hlt).trans h
/-- What Uint returns. -/
def uRes (o : Option (Nat × Nat)) (p : Nat) : Value :=
  match o with
  | some (v, c) => .tuple #[.int .u64 (v : Int), .int .i64 ((p + c : Nat) : Int), .bool true]
  | none => .tuple #[.int .u64 0, .int .i64 0, .bool false]
def readW (w : World) (z : Value) (t : TypeId) (A : Option Addr) (n cap p : Nat) : World :=
  (((w.alloc (.cells #[z] t)).alloc (.cells #[.int .i64 0] 3)).alloc (.cells #[.bool false] 4)).alloc (.cells #[.slice A n cap, .int .i64 (p : Int)] 116)
theorem readW_facts (w : World) (z : Value) (t : TypeId) (A : Option Addr) (n cap p : Nat) :
    Rdr (readW w z t A n cap p) (w.heap.size + 1 + 1 + 1) A n cap (p : Int) ∧ Below w.heap.size w (readW w z t A n cap p) ∧ Boxed (readW w z t A n cap p) w.heap.size t z ∧ Boxed (readW w z t A n cap p) (w.heap.size + 1) 3 (.int .i64 0) ∧ Boxed (readW w z t A n cap p) (w.heap.size + 1 + 1) 4 (.bool false) := by
  have h0 := Boxed.new w t z
  have h1 := Boxed.new (w.alloc (.cells #[z] t)) 3 (.int .i64 0)
  have h2 := Boxed.new ((w.alloc (.cells #[z] t)).alloc (.cells #[.int .i64 0] 3)) 4 (.bool false)
  have h3 := heap_alloc_new (((w.alloc (.cells #[z] t)).alloc (.cells #[.int .i64 0] 3)).alloc (.cells #[.bool false] 4)) (.cells #[.slice A n cap, .int .i64 (p : Int)] 116)
  simp only [World.size_alloc] at h1 h2 h3
  exact ⟨h3, ((((Below.refl _ w).alloc (Nat.le_refl _) _).alloc (by simp) _).alloc (by simp; omega) _).alloc (by simp; omega) _, ((h0.alloc _).alloc _).alloc _, (h1.alloc _).alloc _, h2.alloc _⟩
set_option maxHeartbeats 4000000 in
theorem readU_calls (A : Option Addr) (n cap : Nat) (bs : List UInt8) (p : Nat) (w : World) (hl : Lies w w.heap.size 1 A n (byteCells bs)) (hn : n = bs.length) (hnm : n ≤ 9223372036854775807) (hp : p ≤ 9223372036854775807) :
    Calls Tryd.prog 63 #[.slice A n cap, .int .i64 (p : Int), .func (.func 64) #[] #[]] w fun e w' => e = .returned (uRes (rdU 0 (bs.drop p)) p) ∧ Below w.heap.size w w' := by
  obtain ⟨hr, hb, x0, x1, x2⟩ := readW_facts w (.int .u64 0) 79 A n cap p
  have CN := Lib.hid (number_calls (w.heap.size + 1 + 1 + 1) A n cap bs p (readW w (.int .u64 0) 79 A n cap p) hr ((hl.below hb).up (by omega)) hn hnm hp)
  have hmf : ∀ (fn : Fn) (first cap : Array Value) (w : World), (Instr.makeFunc fn first cap).run Tryd.prog w = .ok (.func fn first cap) w := fun _ _ _ _ => rfl
  have eg := enters_of Tryd.func64 (by kernel_rfl) rfl
  clear hl hn hr
  go_enter_defers Tryd.func63, Tryd.ntmps63
  go_wp2_with fail
  refine CN.out.mono ?_
  rintro e w1 ⟨hb1, ⟨v, c, hrd, rfl, hr⟩ | ⟨hrd, rfl⟩⟩
  · have y0 := boxed_wide x0 hb1 (by omega)
    have y1 := boxed_wide x1 hb1 (by omega)
    have y2 := boxed_wide x2 hb1 (by omega)
    have z0 := y0.cell
    have z1 := y1.cell
    have z2 := y2.cell
    have g0 := y0.frozen
    have g1 := y1.frozen
    have g2 := y2.frozen
    have k1 := hr.c1
    have f1 := hr.f1
    have HB := Lib.hid hb
    have HB1 := Lib.hid hb1
    have HR := Lib.hid hrd
    clear CN hb hb1 hrd
    go_wp2_with fail
    go_region
    go_wp2_with fail
    refine leaves_cons (f := 72) (args := #[.pointer (some ⟨w.heap.size, 0, none⟩), .pointer (some ⟨w.heap.size + 1, 0, none⟩), .pointer (some ⟨w.heap.size + 1 + 1, 0, none⟩)]) (by simp) (by simp [go_sem]) ?_
    refine (catchU_idle _ _ _ _).mono ?_
    rintro e u' w2 ⟨rfl, rfl, rfl⟩
    obtain ⟨b0, b1, b2, _⟩ := stores3 (.int .u64 (v : Int)) (.int .i64 ((p : Int) + (c : Int))) (.bool true) (y0.set (.int .u64 (v : Int))) (y1.other (by omega) (.int .u64 (v : Int))) (y2.other (by omega) (.int .u64 (v : Int))) (by omega) (by omega) (by omega)
    have l0 := b0.cell
    have l1 := b1.cell
    have l2 := b2.cell
    have hB := HB.out.trans (HB1.out.mono (by omega))
    have hB2 := (((hB.setCell (p := ⟨w.heap.size, 0, none⟩) (Nat.le_refl _) (.int .u64 (v : Int))).setCell (p := ⟨w.heap.size, 0, none⟩) (Nat.le_refl _) (.int .u64 (v : Int))).setCell (p := ⟨w.heap.size + 1, 0, none⟩) (by simp) (.int .i64 ((p : Int) + (c : Int)))).setCell (p := ⟨w.heap.size + 1 + 1, 0, none⟩) (by simp; omega) (.bool true)
    generalize (((w1.setCell _ _).setCell _ _).setCell _ _).setCell _ _ = w3 at *
    have l0' : w3.drew.cell? ⟨w.heap.size, 0, none⟩ = _ := l0
    have l1' : w3.drew.cell? ⟨w.heap.size + 1, 0, none⟩ = _ := l1
    have l2' : w3.drew.cell? ⟨w.heap.size + 1 + 1, 0, none⟩ = _ := l2
    simp [Leaves, settle, results, Tryd.results63, go_sem, l0', l1', l2']
    refine ⟨?_, below_drewNR (q := 1) hB2⟩
    rw [HR.out]
    simp [uRes]
  · have y0 := boxed_wide x0 hb1 (by omega)
    have y1 := boxed_wide x1 hb1 (by omega)
    have y2 := boxed_wide x2 hb1 (by omega)
    have HB := Lib.hid hb
    have HB1 := Lib.hid hb1
    have HR := Lib.hid hrd
    clear CN hb hb1 hrd
    go_wp2_with fail
    refine leaves_cons (f := 72) (args := #[.pointer (some ⟨w.heap.size, 0, none⟩), .pointer (some ⟨w.heap.size + 1, 0, none⟩), .pointer (some ⟨w.heap.size + 1 + 1, 0, none⟩)]) (by simp) (by simp [go_sem]) ?_
    refine (catchU_fail _ _ _ _ _ _ _ y0 y1 y2 (by omega) (by omega) (by omega)).mono ?_
    rintro e u' w2 ⟨rfl, rfl, b0, b1, b2, hb2⟩
    have l0 := b0.cell
    have l1 := b1.cell
    have l2 := b2.cell
    simp [Leaves, settle, results, Tryd.results63, go_sem, l0, l1, l2]
    rw [HR.out]
    exact ⟨rfl, (HB.out.trans (HB1.out.mono (by omega))).trans (hb2 _ (Nat.le_refl _) (by omega) (by omega) (Nat.le_of_lt y0.lt))⟩
end Go.Proofs.YtoihfmjnonanjaaDoor
