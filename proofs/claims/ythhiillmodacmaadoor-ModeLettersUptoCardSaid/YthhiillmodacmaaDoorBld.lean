/- strings.Builder's writers, at this dump; memory words for them. -/
import Derived.Test.YthhiillmodacmaaDoorKanaF
import Derived.Test.YthhiillmodacmaaDoorKanaS
import Derived.Shelf.Strings.BuilderRune
namespace Go.Proofs.YthhiillmodacmaaDoor
open Go.RowKit Go.Lib Go.Shelf Hk Go.Maps
set_option linter.unusedSimpArgs false
set_option linter.unusedVariables false
set_option maxRecDepth 100000

theorem Tryd.blays166 : Go.Proofs.Lays.n166 Tryd.prog Tryd.lays230_ren := { Tryd.lays230 with }
theorem Tryd.blays168 : Go.Proofs.Lays.n168 Tryd.prog Tryd.lays230_ren := { Tryd.lays230 with }
theorem write_string (B b : Nat) (bs : List Value) (s : ByteArray) (w : World) (h : Lib.IsBuilderF 54 5 B b bs w) (hlen : bs.length + s.size ≤ 140737488355328) (hBw : B ≤ w.heap.size) :
    Calls Tryd.prog 46 #[.pointer (some ⟨b, 0, none⟩), .string s] w fun e w' => e = .returned (.tuple #[.int .i64 s.size, .nilIface]) ∧ (Lib.BuilderAtF 54 5 B b (.pointer (some ⟨b, 0, none⟩)) (bs ++ Lib.strCells s) w' ∧ Below B w w' ∧ Lib.OthersKept 5 (some b) w w') :=
  Any.Builder_WriteString_k Tryd.blays166 Tryd.Builder_Extra_230 B b bs s w h hlen hBw
theorem write_rune (B b : Nat) (bs : List Value) (r : Int) (hr0 : -2147483648 ≤ r) (hr1 : r ≤ 2147483647) (w : World) (h : Lib.IsBuilderF 54 5 B b bs w) (hlen : bs.length + 4 ≤ 140737488355328) (hBw : B ≤ w.heap.size) :
    Calls Tryd.prog 47 #[.pointer (some ⟨b, 0, none⟩), .int .i32 r] w fun e w' => e = .returned (.tuple #[.int .i64 (Lib.runeCells r).length, .nilIface]) ∧ (Lib.BuilderAtF 54 5 B b (.pointer (some ⟨b, 0, none⟩)) (bs ++ Lib.runeCells r) w' ∧ Below B w w' ∧ Lib.OthersKept 5 (some b) w w') :=
  Any.Builder_WriteRune_k Tryd.blays168 Tryd.Builder_Extra_230 B b bs r hr0 hr1 w h hlen hBw

/-- A builder that holds what characters are written as. -/
def Bld (B : Nat) (rs : List Nat) (w : World) : Prop := Lib.IsBuilderF 54 5 B B (Lib.byteCells (encT rs)) w
theorem bld_new (w : World) : Bld w.heap.size [] (w.alloc (.cells #[.pointer none, .slice none 0 0] 54)) := Lib.IsBuilderF.of (Lib.fresh_isBuilder _ _ w)
theorem bld_string {B : Nat} {rs : List Nat} {w : World} (h : Bld B rs w) (x : List Nat) (hx : x.length ≤ 1048576) (hl : rs.length ≤ 33554432) (hB : B ≤ w.heap.size) :
    Calls Tryd.prog 46 #[.pointer (some ⟨B, 0, none⟩), .string (bstr (encT x))] w fun e w' => e = .returned (.tuple #[.int .i64 ((bstr (encT x)).size : Nat), .nilIface]) ∧ Bld B (rs ++ x) w' ∧ Below B w w' ∧ Lib.OthersKept 5 (some B) w w' := by
  have h1 := (encT_len rs).2
  have h2 := (encT_len x).2
  refine (write_string B B _ (bstr (encT x)) w h (by rw [byteCells_length, bstr_size]; omega) hB).mono ?_
  rintro e w' ⟨rfl, hb, b1, k1⟩
  refine ⟨rfl, ?_, b1, k1⟩
  unfold Bld
  rw [encT_append, byteCells_append]
  rw [strCells_eq, bstr_data] at hb
  exact Or.inr hb
theorem bld_rune {B : Nat} {rs : List Nat} {w : World} (h : Bld B rs w) (r : Nat) (hr : r ≤ 1114111) (hl : rs.length ≤ 33554432) (hB : B ≤ w.heap.size) :
    Calls Tryd.prog 47 #[.pointer (some ⟨B, 0, none⟩), .int .i32 (r : Int)] w fun e w' => e = .returned (.tuple #[.int .i64 ((Lib.runeCells (r : Int)).length : Nat), .nilIface]) ∧ Bld B (rs ++ [r]) w' ∧ Below B w w' ∧ Lib.OthersKept 5 (some B) w w' := by
  have h1 := (encT_len rs).2
  refine (write_rune B B _ (r : Int) (by omega) (by omega) w h (by rw [byteCells_length]; omega) hB).mono ?_
  rintro e w' ⟨rfl, hb, b1, k1⟩
  refine ⟨rfl, ?_, b1, k1⟩
  unfold Bld
  rw [encT_snoc, byteCells_append, byteCells_encodeRune]
  exact Or.inr hb
theorem bld_done {B : Nat} {rs : List Nat} {w : World} (h : Bld B rs w) (hB : B ≤ w.heap.size) :
    Calls Tryd.prog 48 #[.pointer (some ⟨B, 0, none⟩)] w fun e w' => e = .returned (.string (bstr (encT rs))) ∧ Below B w w' :=
  (Tryd.Builder_String_any_k B B (encT rs) w h hB).mono fun _ _ ⟨h1, _, h2, _⟩ => ⟨h1, h2⟩
theorem MapIs.low {w w' : World} {k e : TypeId} {b n B : Nat} {f : Lit → Option Lit} (h : MapIs w k e b n f) (hb : Below B w w') (hlt : b < B) : MapIs w' k e b n f := by
  obtain ⟨D, ⟨es, clock, hh, h2⟩, h3⟩ := h
  exact ⟨D, ⟨es, clock, (hb.block b hlt).trans hh, h2⟩, h3⟩
end Go.Proofs.YthhiillmodacmaaDoor
