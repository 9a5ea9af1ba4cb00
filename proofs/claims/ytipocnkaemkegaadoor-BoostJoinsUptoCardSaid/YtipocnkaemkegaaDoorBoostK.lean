/- What henkanlaw32.works computes. -/
import Derived.Test.YtipocnkaemkegaaDoorBoostL
namespace Go.Proofs.YtipocnkaemkegaaDoor
open Go.RowKit Go.Lib Go.Shelf Hk
set_option linter.unusedSimpArgs false
set_option linter.unusedVariables false
set_option maxRecDepth 100000

set_option maxHeartbeats 400000 in
theorem key_calls (k a b : ByteArray) (w : World) (hk : k.size ≤ 1000) (ha : a.size ≤ 1000) (hb : b.size ≤ 1000) : Calls Tryd.prog 20 #[.string k, .string a, .string b] w fun e w' => e = .returned (.string (k ++ a ++ ⟨#[0]⟩ ++ b)) ∧ w = w' := by
  go_enter Tryd.func20, Tryd.ntmps20
  go_wp2_with fail
  go_ret
  exact ⟨rfl, rfl⟩

def worksCnt : List Cnt := [(⟨#[50, 97, 0, 98]⟩, 65536), (⟨#[49, 99, 0, 100]⟩, 1), (⟨#[120]⟩, 9)]
theorem works1 : many 1 worksCnt = [(⟨#[99]⟩, ⟨#[100]⟩, 500)] := by decide +kernel
theorem works2 : many 2 worksCnt = [(⟨#[97]⟩, ⟨#[98]⟩, 750)] := by decide +kernel

theorem own3_one {w : World} {base : Nat} {t : TypeId} {v x y z : Value} (h : w.ownsRow base t 3 v 1 [x, y, z]) :
    ∃ g cap, v = .slice (some ⟨g, 0, none⟩) 1 cap ∧ w.cell? ⟨g, 0, none⟩ = some x ∧ w.cell? ⟨g, 1, none⟩ = some y ∧ w.cell? ⟨g, 2, none⟩ = some z := by
  obtain ⟨g, cap, rfl, _, _⟩ := h.form (by omega)
  have hc := h.cells (g := g) rfl
  exact ⟨g, cap, rfl, by simpa [Addr.add] using hc 0 x rfl, by simpa [Addr.add] using hc 1 y rfl, by simpa [Addr.add] using hc 2 z rfl⟩

theorem key1 (w : World) : Calls Tryd.prog 20 #[.string ⟨#[50]⟩, .string ⟨#[97]⟩, .string ⟨#[98]⟩] w fun e w' => e = .returned (.string ⟨#[50, 97, 0, 98]⟩) ∧ w = w' :=
  (key_calls ⟨#[50]⟩ ⟨#[97]⟩ ⟨#[98]⟩ w (by decide) (by decide) (by decide)).mono fun e w' h => ⟨h.1.trans (congrArg (fun s => Ending.returned (Value.string s)) (by decide +kernel)), h.2⟩
theorem key2 (w : World) : Calls Tryd.prog 20 #[.string ⟨#[49]⟩, .string ⟨#[99]⟩, .string ⟨#[100]⟩] w fun e w' => e = .returned (.string ⟨#[49, 99, 0, 100]⟩) ∧ w = w' :=
  (key_calls ⟨#[49]⟩ ⟨#[99]⟩ ⟨#[100]⟩ w (by decide) (by decide) (by decide)).mono fun e w' h => ⟨h.1.trans (congrArg (fun s => Ending.returned (Value.string s)) (by decide +kernel)), h.2⟩

theorem works_light : Light worksCnt := by
  intro c hc
  simp only [worksCnt, List.mem_cons, List.not_mem_nil, or_false] at hc
  rcases hc with rfl | rfl | rfl <;> exact ⟨by decide, by decide⟩

def worksBox : Obj := .cells #[.string ⟨#[50, 97, 0, 98]⟩, .int .i64 65536, .string ⟨#[49, 99, 0, 100]⟩, .int .i64 1, .string ⟨#[120]⟩, .int .i64 9] 39
theorem works_lies (w : World) : Lies (w.alloc worksBox) (w.heap.size + 1) 2 (some ⟨w.heap.size, 0, none⟩) 3 (cntCells worksCnt) :=
  Lies.of_addr rfl (by omega) (by show w.heap.size < _; omega) (cells_new w (cntCells worksCnt) _)

set_option maxHeartbeats 1000000 in
theorem works_calls (w : World) (he : Env w) : Calls Tryd.prog 12 #[] w fun e w' => e = .returned (.bool true) ∧ Below w.heap.size w w' := by
  have HE := Lib.hid he
  have K1 := Lib.hid key1
  have K2 := Lib.hid key2
  have hbx : Below w.heap.size w (w.alloc worksBox) := (Below.refl _ _).alloc (Nat.le_refl _) _
  have HL := Lib.hid (works_lies w)
  have hC : Calls Tryd.prog 14 #[.slice (some ⟨w.heap.size, 0, none⟩) 3 3] (w.alloc worksBox) (ListPost 41 (w.alloc worksBox) worksCnt 1) :=
    learned_calls _ 3 worksCnt _ ((works_lies w).up (by simp)) (by decide) works_light (he.below hbx)
  have C1 := Lib.hid hC
  have C2 := Lib.hid fun W (hl : Lies W W.heap.size 2 (some ⟨w.heap.size, 0, none⟩) 3 (cntCells worksCnt)) (hW : Env W) => (pairs_calls _ 3 worksCnt W hl (by decide) works_light hW : Calls Tryd.prog 17 #[.slice (some ⟨w.heap.size, 0, none⟩) 3 3] W (ListPost 43 W worksCnt 2))
  clear he hC
  go_enter Tryd.func12, Tryd.ntmps12
  go_wp2_with fail
  refine (K1.out _).mono ?_
  rintro e w1 ⟨rfl, rfl⟩
  go_wp2_with fail
  refine (K2.out _).mono ?_
  rintro e w1 ⟨rfl, rfl⟩
  go_wp2_with fail
  refine C1.out.mono ?_
  rintro e w1 ⟨v1, rfl, ho1, hb1⟩
  have hl1 := HL.out.below (hb1.mono (by simp))
  rw [works1] at ho1
  obtain ⟨g1, cap1, rfl, a0, a1, a2⟩ := own3_one ho1
  have hbw1 := qtrans hbx hb1
  have hz : w.heap.size + 1 ≤ w1.heap.size := by have := hb1.size; simpa using this
  clear ho1 hb1 C1
  go_wp2_with fail
  refine (C2.out _ (hl1.up hz) (HE.out.below hbw1)).mono ?_
  rintro e w2 ⟨v2, rfl, ho2, hb2⟩
  rw [works2] at ho2
  obtain ⟨g2, cap2, rfl, d0, d1, d2⟩ := own3_one ho2
  have hbw2 := qtrans hbw1 hb2
  have b0 := cell_later hb2 a0
  have b1 := cell_later hb2 a1
  have b2 := cell_later hb2 a2
  clear ho2 hb2 C2 a0 a1 a2 hl1 hz hbw1 hbx HL
  go_wp2_with fail
  go_ret
  exact ⟨rfl, hbw2⟩
end Go.Proofs.YtipocnkaemkegaaDoor
