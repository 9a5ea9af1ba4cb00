/- What the writers of coding and of henkanref12 compute. -/
import Derived.Test.YtoihfmjnonanjaaDoorPosM
import Derived.Lib.UnsafeStr
import Derived.Lib.AppendStr
import Derived.ArgAppend
import Derived.Deep.Onto
namespace Go.Proofs.YtoihfmjnonanjaaDoor
open Go.RowKit Go.Lib Go.Shelf Hk
set_option linter.unusedSimpArgs false
set_option linter.unusedVariables false
set_option maxRecDepth 100000

theorem Tryd.info5 : (Tryd.prog.info? 5).map (fun i => (i.zero, i.size, i.bytes)) = some (some (.int .u8 0), 1, 1) := by kernel_rfl

/-- The code of a number, written as far as it has come. -/
def UAt (v0 v : Nat) (out : List UInt8) : Prop := ∃ f, out.length + (f + 1) = 10 ∧ v < 2 ^ (64 - 7 * out.length) ∧ uintL v0 = out ++ uintF (f + 1) v
theorem UAt.start {v : Nat} (h : v < 18446744073709551616) : UAt v v [] := ⟨9, rfl, by simpa using h, rfl⟩
theorem UAt.next {v0 v : Nat} {out : List UInt8} (h : UAt v0 v out) (hv : ¬ v < 128) : UAt v0 (v / 128) (out ++ [(v % 128 + 128).toUInt8]) := by
  obtain ⟨f, h1, h2, h3⟩ := h
  have hf : f ≠ 0 := by
    rintro rfl
    have : out.length = 9 := by omega
    rw [this] at h2
    simp at h2
    omega
  obtain ⟨f, rfl⟩ : ∃ g, f = g + 1 := ⟨f - 1, by omega⟩
  refine ⟨f, by simp; omega, ?_, by rw [h3, uintF_big hv]; simp⟩
  rw [Nat.div_lt_iff_lt_mul (by omega), List.length_append]
  have e : 64 - 7 * out.length = 64 - 7 * (out.length + [(v % 128 + 128).toUInt8].length) + 7 := by simp; omega
  rw [e, Nat.pow_add] at h2
  exact h2
theorem UAt.done {v0 v : Nat} {out : List UInt8} (h : UAt v0 v out) (hv : v < 128) : uintL v0 = out ++ [v.toUInt8] := by
  obtain ⟨f, h1, h2, h3⟩ := h
  rw [h3, uintF_small hv]
theorem UAt.len {v0 v : Nat} {out : List UInt8} (h : UAt v0 v out) : out.length ≤ 9 := by
  obtain ⟨f, h1, _⟩ := h
  omega

theorem bytes_one (l : List UInt8) (c : UInt8) (z : Int) (h : z = (c.toNat : Int)) : byteCells (l ++ [c]) = byteCells l ++ [Value.int .u8 z] := by subst h; simp [byteCells]
theorem u8_cell (k : Nat) (h : k < 256) : ((k.toUInt8.toNat : Nat) : Int) = (k : Int) := by rw [toU8_toNat k h]
/-- A new row of bytes. -/
def NewU8 (l : List UInt8) (w : World) (e : Ending) (w' : World) : Prop := ∃ v, e = .returned v ∧ w'.ownsRow w.heap.size 5 1 v l.length (byteCells l) ∧ Below w.heap.size w w'
def RuAt (w : World) (v0 : Nat) (x v : Value) (wr : World) : Prop :=
  ∃ (k : Nat) (out : List UInt8), x = .int .u64 (k : Int) ∧ k < 18446744073709551616 ∧ Hid (UAt v0 k out) ∧ out.length ≤ 9 ∧ wr.ownsRow w.heap.size 5 1 v out.length (byteCells out) ∧ Below w.heap.size w wr

set_option maxHeartbeats 2000000 in
theorem refUint_calls (v0 : Nat) (w : World) (hv : v0 < 18446744073709551616) : Calls Tryd.prog 51 #[.int .u64 (v0 : Int)] w (NewU8 (uintL v0) w) := by
  obtain ⟨i0, hi, hz0, hz1, hz2⟩ := info_parts Tryd.info5
  go_enter Tryd.func51, Tryd.ntmps51
  go_wp2_with fail
  go_loopw [0, 3] (fun x v wr => RuAt w v0 x v wr) (fun x _ _ => (intOf x).toNat)
  case atStart => exact ⟨v0, [], rfl, hv, UAt.start hv, by decide, World.ownsRow_nil _ _ _ _, Below.refl _ _⟩
  case round =>
    obtain ⟨k, out, rfl, hk, HU, hlen, hown, hbw⟩ := hrel
    by_cases h : k < 128
    · have HD : Hid (uintL v0 = out ++ [k.toUInt8]) := HU.out.done h
      clear HU
      go_wp2_with (at_builtin; refine wpList_append_own _ rfl _ _ 29 rfl w.heap.size 5 i0 (.int .u8 0) 1 1 Tryd.underlying29 hi hz0 hz1 hz2 rfl (by decide) _ _ _ rfl (hown.alloc _) ⟨wr.heap.size, 0, none⟩ 1 1 [.int .u8 (k : Int)] rfl rfl ?c1 ?c2 ?c3 ?c4 ?c5 ?_)
      case c1 => exact cells_new _ [_] _
      case c2 => intro u hu; simp at hu; subst hu; rfl
      case c3 => unfold maxLen; omega
      case c4 => omega
      case c5 => have := hbw.size; simp; omega
      intro v' w3 hown3 hgrow3 _
      have hbw3 := below_append hbw _ hown hgrow3
      clear hgrow3 hown hbw
      go_wp2_with fail
      go_ret
      refine ⟨_, rfl, ?_, hbw3⟩
      rw [HD.out, List.length_append, bytes_one _ _ (k : Int) (u8_cell k (by omega)).symm]
      exact hown3
    · have h' : 128 ≤ k := by omega
      have HN := Lib.hid (HU.out.next h)
      clear HU
      go_wp2_with (at_builtin; refine wpList_append_own _ rfl _ _ 29 rfl w.heap.size 5 i0 (.int .u8 0) 1 1 Tryd.underlying29 hi hz0 hz1 hz2 rfl (by decide) _ _ _ rfl (hown.alloc _) ⟨wr.heap.size, 0, none⟩ 1 1 [.int .u8 ((k : Int) % 128 + 128)] rfl rfl ?c1 ?c2 ?c3 ?c4 ?c5 ?_)
      case c1 => exact cells_new _ [_] _
      case c2 => intro u hu; simp at hu; subst hu; rfl
      case c3 => unfold maxLen; omega
      case c4 => omega
      case c5 => have := hbw.size; simp; omega
      intro v' w3 hown3 hgrow3 _
      have hbw3 := below_append hbw _ hown hgrow3
      have hl := HN.out.len
      clear hgrow3 hown hbw
      go_wp2_with fail
      go_roundw
      case rel =>
        refine ⟨k / 128, _, by go_num, by omega, HN.out, hl, ?_, hbw3⟩
        rw [List.length_append, bytes_one _ _ ((k : Int) % 128 + 128) (by rw [u8_cell _ (by omega)]; omega)]
        exact hown3
      case measure => simp [intOf]; omega

set_option maxHeartbeats 1000000 in
theorem refText_calls (s : ByteArray) (w : World) (hs : s.size ≤ 1048576) : Calls Tryd.prog 52 #[.string s] w (NewU8 (textL s.data.toList) w) := by
  obtain ⟨i0, hi, hz0, hz1, hz2⟩ := info_parts Tryd.info5
  have hls := size_list s
  have hul := (uintL_len s.size).2
  have CU := Lib.hid (refUint_calls s.size w (by omega))
  have HT : Hid (textL s.data.toList = uintL s.size ++ s.data.toList) := by show _ = _; unfold textL; rw [hls]
  clear hls
  generalize uintL s.size = U at *
  go_enter Tryd.func52, Tryd.ntmps52
  go_wp2_with fail
  refine CU.out.mono ?_
  rintro e w1 ⟨v, rfl, hown, hb1⟩
  have hbs := hb1.size
  go_wp2_with (at_builtin; refine wpList_append_own_string _ rfl _ _ 29 9 rfl w.heap.size 5 i0 Tryd.underlying29 Tryd.underlying9 hi hz0 hz1 hz2 _ _ _ rfl hown s rfl (by unfold maxLen; omega) (by omega) hbs ?_)
  intro v' w2 hown2 hg2 _
  have hb2 : Below w.heap.size w w2 := hb1.grown hg2 hbs fun k hk => (hown.lt k hk).1
  clear hg2 hown hb1
  go_wp2_with fail
  go_ret
  refine ⟨_, rfl, ?_, hb2⟩
  rw [HT.out, List.length_append, Lib.byteCells_append]
  rw [size_list, strCells_eq] at hown2
  exact hown2

/-- A row of bytes that is the call's own, or one that has no room left. -/
def BufU (w wr : World) (v : Value) (bs : List UInt8) : Prop :=
  wr.ownsRow w.heap.size 5 1 v bs.length (byteCells bs) ∨ ∃ ad, v = .slice (some ad) bs.length bs.length ∧ Lies wr wr.heap.size 1 (some ad) bs.length (byteCells bs)
theorem wpList_append_buf (w wr : World) {ops : Array Oper} {rest : List Oper} {o : Oper} {a : Act} {Q : Exit → Act → World → Prop} (hgd : o.guard = none) (s x : Operand)
    (ho : o.op = .call { callee := .builtin .append, args := #[s, x], argTypes := #[29, 29] }) (v : Value) (bs : List UInt8) (z : Int) (h : BufU w wr v bs) (hb : Below w.heap.size w wr) (hs : a.eval s = v) (hx : a.eval x = .slice (some ⟨wr.heap.size, 0, none⟩) 1 1) (hl : bs.length + 1 ≤ 140737488355328)
    (hK : ∀ v' w', w'.ownsRow w.heap.size 5 1 v' (bs.length + 1) (byteCells bs ++ [Value.int .u8 z]) → Below w.heap.size w w' → wpList Tryd.prog ops Q rest (a.put o.dst v') w') :
    wpList Tryd.prog ops Q (o :: rest) a (wr.alloc (.cells #[Value.int .u8 z] 5)) := by
  obtain ⟨i0, hi, hz0, hz1, hz2⟩ := info_parts Tryd.info5
  have hm : bs.length + 1 ≤ maxLen := by unfold maxLen; omega
  have hbx : Below w.heap.size w (wr.alloc (.cells #[Value.int .u8 z] 5)) := hb.alloc hb.size _
  rcases h with hown | ⟨ad, rfl, hl1⟩
  · refine wpList_append_own _ hgd s x 29 ho w.heap.size 5 i0 (.int .u8 0) 1 1 Tryd.underlying29 hi hz0 hz1 hz2 rfl (by decide) _ _ _ hs (hown.alloc _) ⟨wr.heap.size, 0, none⟩ 1 1 [.int .u8 z] hx rfl (cells_new _ [_] _) (fun u hu => by simp at hu; subst hu; rfl) hm (by omega) hbx.size ?_
    intro v' w' ho' hg' _
    exact hK v' w' ho' (below_append hb _ hown hg')
  · refine wpList_append_grows _ hgd s x 29 ho 5 i0 (.int .u8 0) 1 1 Tryd.underlying29 hi hz0 hz1 hz2 rfl (by decide) (some ad) bs.length bs.length (byteCells bs) hs (fun h => by cases h) (by rw [Lib.byteCells_length, Nat.mul_one]) ?_ ⟨wr.heap.size, 0, none⟩ 1 1 [.int .u8 z] hx rfl (cells_new _ [_] _) (fun u hu => by simp at hu; subst hu; rfl) (by omega) hm (by omega) ?_
    · intro b e j u hu
      obtain rfl : ad = b := by simpa using e
      have hpos : 0 < bs.length := by
        have := (List.getElem?_eq_some_iff.1 hu).1
        rw [Lib.byteCells_length] at this
        omega
      have hl2 := hl1.alloc (Nat.le_refl _) (.cells #[Value.int .u8 z] 5)
      obtain ⟨blk, off, e2, _, hc⟩ := hl2.cells hpos
      obtain rfl : ad = ⟨blk, off, none⟩ := by simpa using e2
      rw [Addr.add_lit]
      exact hc j u hu
    · intro v' w' ho' hg'
      exact hK v' w' (ho'.mono hbx.size) (hbx.grown hg' hbx.size fun k hk => by cases hk)
end Go.Proofs.YtoihfmjnonanjaaDoor
