/- What henkanref01.Runes and henkanref01.Valid compute. -/
import Derived.Test.YtleflnbcgkfojaaDoorRef1
import Derived.OwnWalk
import Derived.Laws.AppendOwn
import Derived.Laws.OwnMore
import Derived.Maps.AppendAt
namespace Go.Proofs.YtleflnbcgkfojaaDoor
open Go.RowKit Go.Lib Hk
set_option linter.unusedSimpArgs false
set_option linter.unusedVariables false
set_option maxRecDepth 100000

/-- What was there when a call began is there behind it. -/
theorem qtrans {w w1 w2 : World} (h : Below w.heap.size w w1) (k : Below w1.heap.size w1 w2) : Below w.heap.size w w2 := h.trans (k.mono h.size)
theorem grownBy_of_below {w w' : World} (h : Below w.heap.size w w') : w.grownBy w' none := ⟨h.os, h.tape, h.output, h.size, fun k hk _ => h.block k hk⟩
theorem owns_below {w w' : World} {base : Nat} {e : TypeId} {size : Nat} {v : Value} {n : Nat} {xs : List Value} (h : w.ownsRow base e size v n xs) (hb : Below w.heap.size w w') : w'.ownsRow base e size v n xs :=
  h.kept (grownBy_of_below hb) (by cases hv : v.ownBlock <;> simp)

theorem below_append {w w1 w2 : World} {e : TypeId} {size n : Nat} {v : Value} {xs : List Value} (h : Below w.heap.size w w1) (o : Obj) (hown : w1.ownsRow w.heap.size e size v n xs) (hg : (w1.alloc o).grownBy w2 v.ownBlock) : Below w.heap.size w w2 :=
  (h.alloc h.size o).grown hg (by have := h.size; simp; omega) fun k hk => (hown.lt k hk).1

/-- The characters of a string as the cells of a slice of runes. -/
def runeCellsOf (rs : List Nat) : List Value := rs.map fun (r : Nat) => Value.int .i32 (r : Int)
theorem runeCellsOf_snoc (rs : List Nat) (r : Nat) : runeCellsOf (rs ++ [r]) = runeCellsOf rs ++ [Value.int .i32 (r : Int)] := by simp [runeCellsOf]
theorem runeCellsOf_length (rs : List Nat) : (runeCellsOf rs).length = rs.length := by simp [runeCellsOf]

def RunesPost (s : ByteArray) (w : World) (e : Ending) (w' : World) : Prop :=
  Below w.heap.size w w' ∧ ((runesD s.data.toList = none ∧ e = .returned (.tuple #[.slice none 0 0, .bool false])) ∨
    ∃ rs v, runesD s.data.toList = some rs ∧ e = .returned (.tuple #[v, .bool true]) ∧ w'.ownsRow w.heap.size 21 1 v rs.length (runeCellsOf rs))

/-- The loop of Runes: at place p, with rs behind it. -/
def RunesAt (s : ByteArray) (w : World) (v i : Value) (wr : World) : Prop :=
  ∃ (p : Nat) (rs : List Nat), i = .int .i64 (p : Int) ∧ p ≤ s.size ∧ rs.length ≤ p ∧ runesD s.data.toList = (runesD (s.data.toList.drop p)).map (rs ++ ·) ∧ wr.ownsRow w.heap.size 21 1 v rs.length (runeCellsOf rs) ∧ Below w.heap.size w wr

theorem Tryd.info21 : (Tryd.prog.info? 21).map (fun i => (i.zero, i.size, i.bytes)) = some (some (.int .i32 0), 1, 4) := by kernel_rfl

set_option maxHeartbeats 1000000 in
theorem runes_calls (s : ByteArray) (w : World) (hs : s.size ≤ 35184372088831) : Calls Tryd.prog 48 #[.string s] w (RunesPost s w) := by
  obtain ⟨i0, hi, hz0, hz1, hz2⟩ := info_parts Tryd.info21
  go_enter Tryd.func48, Tryd.ntmps48
  go_wp2
  go_loopw [4, 5] (fun v i wr => RunesAt s w v i wr) (fun _ i _ => s.size - (intOf i).toNat)
  case atStart => exact ⟨0, [], rfl, Nat.zero_le _, Nat.le_refl _, by simp, (World.ownsRow_nil _ _ _ _ : w.ownsRow w.heap.size 21 1 (.slice none 0 0) 0 []), Below.refl _ _⟩
  case round =>
    obtain ⟨p, rs, rfl, hp, hlen, hD, hown, hbw⟩ := hrel
    have HD := Lib.hid hD
    clear hD
    by_cases hlt : p < s.size
    · have cN := fun W => next_calls s p W (by omega) hlt
      obtain ⟨c, n, hcn⟩ : ∃ c n, rnext s p = (c, n) := ⟨_, _, rfl⟩
      have HC := Lib.hid hcn
      simp only [hcn] at cN
      have CN := Lib.hid cN
      clear hcn cN
      by_cases hn0 : n = 0
      · have hnz : ((n : Int) == 0) = true := by simp [hn0]
        have HB : Hid (runesD s.data.toList = none) := by
          have := runes_bad s p hlt (by rw [HC.out]; exact hn0)
          show _ = _
          rw [HD.out, this]; rfl
        clear hn0
        go_wp2_with (go_at_call 54; refine (CN.out _).mono ?_; rintro e w' ⟨rfl, hb1⟩)
        go_ret2
        exact ⟨qtrans hbw hb1, .inl ⟨HB.out, rfl⟩⟩
      · have hnz : ((n : Int) == 0) = false := by simp [hn0]
        obtain ⟨g1, g2, g3⟩ := runes_good s p hlt (by rw [HC.out]; exact hn0)
        simp only [HC.out] at g1 g2 g3
        have HG := Lib.hid g1
        clear g1
        have hl2 : rs.length + 1 ≤ 35184372088832 := by omega
        go_wp2_with (first | (go_at_call 54; refine (CN.out _).mono ?_; rintro e w1 ⟨rfl, hb1⟩; have hown1 := owns_below hown hb1) | (at_builtin; refine wpList_append_own _ rfl _ _ 54 rfl w.heap.size 21 i0 (.int .i32 0) 1 4 Tryd.underlying54 hi hz0 hz1 hz2 rfl (by decide) _ _ _ rfl (hown1.alloc _) ⟨w1.heap.size, 0, none⟩ 1 1 [.int .i32 (c : Int)] rfl rfl ?c1 ?c2 ?c3 ?c4 ?c5 ?_))
        case c1 => exact cell_one_new _ _ _
        case c2 => intro u hu; simp at hu; subst hu; rfl
        case c3 => unfold maxLen; omega
        case c4 => omega
        case c5 => have := (qtrans hbw hb1).size; simp; omega
        intro v' w2 hown2 hgrow2 _
        have hb2 := below_append (qtrans hbw hb1) _ hown1 hgrow2
        clear hgrow2 hown1 hb1 hbw hown CN
        go_wp2
        go_roundw
        case rel => exact ⟨p + n, rs ++ [c], by go_num, g2, by simp; omega, by rw [HD.out, HG.out]; simp [Option.map_map, Function.comp_def], by rw [List.length_append, runeCellsOf_snoc]; exact hown2, hb2⟩
        case measure => simp [intOf]; omega
    · have hnil : s.data.toList.drop p = [] := by
        apply List.drop_eq_nil_of_le
        have h2 : s.size = s.data.toList.length := by simp
        omega
      have HB : Hid (runesD s.data.toList = some rs) := by
        show _ = _
        rw [HD.out, hnil]; simp [runesD_nil]
      clear hnil
      go_wp2
      go_ret2
      exact ⟨hbw, .inr ⟨rs, _, HB.out, rfl, hown⟩⟩

set_option maxHeartbeats 400000 in
theorem refValid_calls (s : ByteArray) (w : World) (hs : s.size ≤ 35184372088831) : Calls Tryd.prog 53 #[.string s] w fun e w' => e = .returned (.bool (validD s.data.toList)) ∧ Below w.heap.size w w' := by
  have HV := Lib.hid (validD_eq s.data.toList)
  go_enter Tryd.func53, Tryd.ntmps53
  go_wp2_with fail
  refine (runes_calls s _ hs).mono ?_
  rintro e w1 ⟨hb, ⟨hD, rfl⟩ | ⟨rs, v, hD, rfl, _⟩⟩
  · have HD := Lib.hid hD
    clear hD
    go_wp2
    go_ret
    exact ⟨by rw [HV.out, HD.out]; rfl, hb⟩
  · have HD := Lib.hid hD
    clear hD
    go_wp2
    go_ret
    exact ⟨by rw [HV.out, HD.out]; rfl, hb⟩
end Go.Proofs.YtleflnbcgkfojaaDoor
