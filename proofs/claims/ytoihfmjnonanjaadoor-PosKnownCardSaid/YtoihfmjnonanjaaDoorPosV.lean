/- What coding.PutUint and coding.PutText compute. -/
import Derived.Test.YtoihfmjnonanjaaDoorPosU
import Derived.WalkSpells
namespace Go.Proofs.YtoihfmjnonanjaaDoor
open Go.RowKit Go.Lib Go.Shelf Hk
set_option linter.unusedSimpArgs false
set_option linter.unusedVariables false
set_option maxRecDepth 100000

theorem eq_nil (w : World) (a : Option Addr) (n c : Nat) : (binOp .eql 29 (.slice a n c) (.slice none 0 0)).run Tryd.prog w = .ok (.bool a.isNone) w := Lib.run_eql_slice_nil w 29 5 a n c 0 0 Tryd.underlying29
theorem clip_nil (w : World) : Calls Tryd.prog 61 #[.slice none 0 0] w fun e w' => e = .returned (.slice none 0 0) ∧ w = w' := by
  go_enter Tryd.func61, Tryd.ntmps61
  go_wp2_with fail
  go_ret
  exact ⟨rfl, rfl⟩
theorem clip_some (g n cap : Nat) (w : World) (h : n ≤ cap) (hc : cap ≤ maxLen) : Calls Tryd.prog 61 #[.slice (some ⟨g, 0, none⟩) n cap] w fun e w' => e = .returned (.slice (some ⟨g, 0, none⟩) n n) ∧ w = w' := by
  unfold maxLen at hc
  go_enter Tryd.func61, Tryd.ntmps61
  go_wp2_with fail
  go_ret
  exact ⟨rfl, rfl⟩
theorem clone_nil (w : World) : Calls Tryd.prog 62 #[.slice none 0 0] w fun e w' => e = .returned (.slice none 0 0) ∧ w = w' := by
  have hq := eq_nil
  go_enter Tryd.func62, Tryd.ntmps62
  go_wp2_with fail
  go_ret
  exact ⟨rfl, rfl⟩
set_option maxHeartbeats 1000000 in
theorem clone_some (g cap base : Nat) (bs : List UInt8) (w : World) (h : w.ownsRow base 5 1 (.slice (some ⟨g, 0, none⟩) bs.length cap) bs.length (byteCells bs)) (hn : bs.length ≤ 1048576) :
    Calls Tryd.prog 62 #[.slice (some ⟨g, 0, none⟩) bs.length cap] w (NewU8 bs w) := by
  unfold NewU8
  obtain ⟨i0, hi, hz0, hz1, hz2⟩ := info_parts Tryd.info5
  have hl := Lies.of_own h
  have ho : ∀ u ∈ byteCells bs, u.oneCell' = true := by
    intro u hu
    simp only [byteCells, List.mem_map] at hu
    obtain ⟨c, _, rfl⟩ := hu
    rfl
  obtain ⟨n, hnn⟩ : ∃ n, n = bs.length := ⟨_, rfl⟩
  generalize byteCells bs = xs at *
  rw [← hnn] at hl hn ⊢
  clear h hnn
  have bx : Below w.heap.size w (w.alloc (.cells #[] 5)) := (Below.refl _ _).alloc (Nat.le_refl _) _
  have ox : (w.alloc (.cells #[] 5)).ownsRow w.heap.size 5 1 (.slice (some ⟨w.heap.size, 0, none⟩) 0 0) 0 [] := World.ownsRow_made w #[] 0 (Nat.le_refl _) (by unfold maxLen; omega) (by simp)
  have lx := hl.below bx
  have hq := eq_nil
  go_enter Tryd.func62, Tryd.ntmps62
  go_wp2_with (at_builtin; refine wpList_append_lies _ rfl _ _ 29 rfl w.heap.size 5 i0 (.int .u8 0) 1 1 Tryd.underlying29 hi hz0 hz1 hz2 rfl (by omega) _ 0 [] rfl ox w.heap.size (some ⟨g, 0, none⟩) n cap xs rfl lx ho ?l1 ?l2 ?l3 ?_)
  case l1 => unfold maxLen; omega
  case l2 => omega
  case l3 => simp
  intro vo w5 ho5 hg5
  have hb5 : Below w.heap.size w w5 := bx.grown hg5 (by simp) fun k hk => (ox.lt k hk).1
  clear hg5 bx ox lx
  go_wp2_with fail
  go_ret
  exact ⟨_, rfl, ho5, hb5⟩

theorem or_u8_fin : ∀ a : Fin 256, bits BinOp.or IntKind.u8 ((a.val : Nat) : Int) 128 = ((a.val % 128 + 128 : Nat) : Int) := by decide +kernel
theorem or_u8 (k : Nat) : bits BinOp.or IntKind.u8 ((k : Int) % 256) 128 = ((k % 128 + 128 : Nat) : Int) := by
  have h := or_u8_fin ⟨k % 256, Nat.mod_lt _ (by omega)⟩
  simp only at h
  rw [show (k : Int) % 256 = ((k % 256 : Nat) : Int) by omega, h]
  congr 1
  omega
/-- The loop of PutUint. -/
def PuAt (w : World) (bs : List UInt8) (v0 : Nat) (v x : Value) (wr : World) : Prop :=
  ∃ (k : Nat) (out : List UInt8), x = .int .u64 (k : Int) ∧ k < 18446744073709551616 ∧ Hid (UAt v0 k out) ∧ out.length ≤ 9 ∧ Hid (BufU w wr v (bs ++ out)) ∧ Below w.heap.size w wr

/-- What Clone and Clip leave. -/
theorem clipped_calls (v : Value) (bs : List UInt8) (base : Nat) (w : World) (h : w.ownsRow base 5 1 v bs.length (byteCells bs)) (hn : bs.length ≤ 1048576) :
    Calls Tryd.prog 62 #[v] w fun e w1 => ∃ v1, e = .returned v1 ∧ Below w.heap.size w w1 ∧ Calls Tryd.prog 61 #[v1] w1 fun e' w2 => ∃ v2, e' = .returned v2 ∧ w1 = w2 ∧ BufU w w1 v2 bs := by
  rcases h.2 with ⟨rfl, h0⟩ | ⟨g, cap, cur, rfl, _, _, _, _, _⟩
  · have hbs : bs = [] := List.eq_nil_of_length_eq_zero h0
    subst hbs
    refine (clone_nil w).mono ?_
    rintro e w1 ⟨rfl, rfl⟩
    refine ⟨_, rfl, Below.refl _ _, (clip_nil w).mono ?_⟩
    rintro e w1 ⟨rfl, rfl⟩
    exact ⟨_, rfl, rfl, .inl (World.ownsRow_nil _ _ _ _)⟩
  · refine (clone_some g cap base bs w h hn).mono ?_
    rintro e w1 ⟨v1, rfl, ho, hb⟩
    refine ⟨v1, rfl, hb, ?_⟩
    have hl := own_lies ho
    rcases ho.2 with ⟨rfl, h0⟩ | ⟨g', cap', cur', rfl, _, _, hc1, hc2, _⟩
    · have hbs : bs = [] := List.eq_nil_of_length_eq_zero h0
      subst hbs
      refine (clip_nil w1).mono ?_
      rintro e w2 ⟨rfl, rfl⟩
      exact ⟨_, rfl, rfl, .inl (World.ownsRow_nil _ _ _ _)⟩
    · refine (clip_some g' bs.length cap' w1 hc1 hc2).mono ?_
      rintro e w2 ⟨rfl, rfl⟩
      refine ⟨_, rfl, rfl, .inr ⟨_, rfl, ?_⟩⟩
      obtain ⟨A, c, e1, _, _, hl⟩ := hl
      simp at e1
      rw [← e1.1] at hl
      exact hl

set_option maxHeartbeats 4000000 in
theorem putUint_calls (v : Value) (bs : List UInt8) (base v0 : Nat) (w : World) (h : w.ownsRow base 5 1 v bs.length (byteCells bs)) (hn : bs.length ≤ 1048576) (hv : v0 < 18446744073709551616) :
    Calls Tryd.prog 41 #[v, .int .u64 (v0 : Int)] w (NewU8 (bs ++ uintL v0) w) := by
  have CC := Lib.hid (clipped_calls v bs base w h hn)
  clear h
  go_enter Tryd.func41, Tryd.ntmps41
  go_wp2_with fail
  refine CC.out.mono ?_
  rintro e w1 ⟨v1, rfl, hb1, C2⟩
  have C3 := Lib.hid C2
  clear C2 CC
  go_wp2_with fail
  refine C3.out.mono ?_
  rintro e w1' ⟨v2, rfl, rfl, hB⟩
  have HB := Lib.hid hB
  clear hB C3
  go_wp2_with fail
  go_loopw [0, 1] (fun v x wr => PuAt w bs v0 v x wr) (fun _ x _ => (intOf x).toNat)
  case atStart => exact ⟨v0, [], rfl, hv, UAt.start hv, by decide, by rw [List.append_nil]; exact HB.out, hb1⟩
  case round =>
    obtain ⟨k, out, rfl, hk, HU, hlen, HBr, hbw⟩ := hrel
    by_cases h : k < 128
    · have HD : Hid (uintL v0 = out ++ [k.toUInt8]) := HU.out.done h
      clear HU
      go_wp2_with (at_builtin; refine wpList_append_buf w wr rfl _ _ rfl _ _ (k : Int) HBr.out hbw rfl rfl ?c1 ?_)
      case c1 => rw [List.length_append]; omega
      intro v' w3 hown3 hbw3
      have H3 := Lib.hid hown3
      clear HBr hbw HB hown3
      go_wp2_with fail
      go_ret
      refine ⟨v', rfl, ?_, hbw3⟩
      rw [HD.out, ← List.append_assoc, List.length_append, List.length_append, bytes_one _ _ (k : Int) (u8_cell k (by omega)).symm]
      exact H3.out
    · have h' : 128 ≤ k := by omega
      have HN := Lib.hid (HU.out.next h)
      clear HU
      go_wp2_with (at_builtin; refine wpList_append_buf w wr rfl _ _ rfl _ _ (bits BinOp.or IntKind.u8 ((k : Int) % 256) 128) HBr.out hbw rfl rfl ?c1 ?_)
      case c1 => rw [List.length_append]; omega
      intro v' w3 hown3 hbw3
      have H3 := Lib.hid hown3
      have hl := HN.out.len
      clear HBr hbw HB hown3
      go_wp2_with fail
      go_roundw
      case rel =>
        refine ⟨k / 128, out ++ [(k % 128 + 128).toUInt8], by go_num, by omega, HN.out, hl, ?_, hbw3⟩
        show BufU _ _ _ _
        rw [← List.append_assoc]
        refine .inl ?_
        rw [List.length_append, List.length_append, bytes_one _ _ (bits BinOp.or IntKind.u8 ((k : Int) % 256) 128) (by rw [u8_cell _ (by omega)]; exact or_u8 k)]
        exact H3.out
      case measure => simp [intOf]; omega
    
end Go.Proofs.YtoihfmjnonanjaaDoor
