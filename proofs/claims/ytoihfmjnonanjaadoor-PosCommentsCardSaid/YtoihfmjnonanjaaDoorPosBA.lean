/- What Lines of henkanref15 computes. -/
import Derived.Test.YtoihfmjnonanjaaDoorPosM
import Derived.Test.YtoihfmjnonanjaaDoorPosT
import Derived.OwnWalk
namespace Go.Proofs.YtoihfmjnonanjaaDoor
open Go.RowKit Go.Lib Go.Shelf Hk
set_option linter.unusedSimpArgs false
set_option linter.unusedVariables false
set_option maxRecDepth 100000

theorem Tryd.info9 : (Tryd.prog.info? 9).map (fun i => (i.zero, i.size, i.bytes)) = some (some (.string ⟨#[]⟩), 1, 16) := by kernel_rfl

/-- The lines of a text, as strings. -/
def linesA (l : List UInt8) : List ByteArray := (linesL l).map fun a => ⟨a.toArray⟩
theorem bytes_get (s : ByteArray) (k : Nat) (h : k < s.size) : s.data.toList[k]? = some s[k] := by
  have h2 : s.size = s.data.toList.length := by simp
  rw [List.getElem?_eq_getElem (by omega)]
  rfl
theorem mk_extract (s : ByteArray) (i j : Nat) : (⟨((s.data.toList.drop i).take (j - i)).toArray⟩ : ByteArray) = s.extract i j := by
  have := Lib.extract_data s i j
  rw [← this]
theorem mk_extract_end (s : ByteArray) (i : Nat) : (⟨(s.data.toList.drop i).toArray⟩ : ByteArray) = s.extract i s.size := by
  have := Lib.extract_to_end s i
  rw [← this]
/-- The lines before place f have come; from f on there is no line feed up to i. -/
def LiS (l : List UInt8) (out : List ByteArray) (f i : Nat) : Prop := linesA l = out ++ linesA (l.drop f) ∧ ∀ c ∈ (l.drop f).take (i - f), c ≠ 10
theorem LiS.start (l : List UInt8) : LiS l [] 0 0 := ⟨by simp, fun c h => by simp at h⟩
theorem take_more {l : List UInt8} {f i : Nat} {c : UInt8} (hf : f ≤ i) (hc : l[i]? = some c) : (l.drop f).take (i + 1 - f) = (l.drop f).take (i - f) ++ [c] := by
  rw [show i + 1 - f = (i - f) + 1 by omega, List.take_add_one, List.getElem?_drop, show f + (i - f) = i by omega, hc]
  rfl
theorem LiS.on {l : List UInt8} {out : List ByteArray} {f i : Nat} {c : UInt8} (h : LiS l out f i) (hf : f ≤ i) (hc : l[i]? = some c) (hn : c ≠ 10) : LiS l out f (i + 1) := by
  refine ⟨h.1, fun d hd => ?_⟩
  rw [take_more hf hc, List.mem_append, List.mem_singleton] at hd
  rcases hd with hd | rfl
  · exact h.2 d hd
  · exact hn
theorem LiS.line {s : ByteArray} {out : List ByteArray} {f i : Nat} (h : LiS s.data.toList out f i) (hf : f ≤ i) (hc : s.data.toList[i]? = some 10) : LiS s.data.toList (out ++ [s.extract f i]) (i + 1) (i + 1) := by
  refine ⟨?_, fun c h => by simp at h⟩
  have e : s.data.toList.drop f = (s.data.toList.drop f).take (i - f) ++ 10 :: s.data.toList.drop (i + 1) := by
    have h1 := (List.take_append_drop (i - f) (s.data.toList.drop f)).symm
    rw [List.drop_drop, show f + (i - f) = i by omega] at h1
    obtain ⟨hlt, he⟩ := List.getElem?_eq_some_iff.1 hc
    rw [List.drop_eq_getElem_cons hlt, he] at h1
    exact h1
  have h2 : linesA (s.data.toList.drop f) = s.extract f i :: linesA (s.data.toList.drop (i + 1)) := by
    unfold linesA
    rw [e, linesL_lf _ _ h.2, List.map_cons, mk_extract]
  rw [h.1, h2, List.append_assoc]
  rfl
theorem LiS.end {s : ByteArray} {out : List ByteArray} {f i : Nat} (h : LiS s.data.toList out f i) (hi : s.size ≤ i) : linesA s.data.toList = out ++ [s.extract f s.size] := by
  have hl : (s.data.toList.drop f).take (i - f) = s.data.toList.drop f := List.take_of_length_le (by rw [List.length_drop]; simp; omega)
  rw [h.1]
  congr 1
  unfold linesA
  rw [linesL_one _ (by rw [← hl]; exact h.2), List.map_cons, List.map_nil, mk_extract_end]
def NewStrs (l : List ByteArray) (w : World) (e : Ending) (w' : World) : Prop := ∃ v, e = .returned v ∧ w'.ownsRow w.heap.size 9 1 v l.length (l.map Value.string) ∧ Below w.heap.size w w'
def LiAt (s : ByteArray) (w : World) (v a b : Value) (wr : World) : Prop :=
  ∃ (i f : Nat) (out : List ByteArray), i ≤ s.size ∧ f ≤ i ∧ out.length ≤ f ∧ a = .int .i64 (f : Int) ∧ b = .int .i64 (i : Int) ∧ Hid (LiS s.data.toList out f i) ∧ wr.ownsRow w.heap.size 9 1 v out.length (out.map Value.string) ∧ Below w.heap.size w wr

set_option maxHeartbeats 4000000 in
theorem refLines_calls (s : ByteArray) (w : World) (hs : s.size ≤ 1048576) : Calls Tryd.prog 45 #[.string s] w (NewStrs (linesA s.data.toList) w) := by
  obtain ⟨i0, hi, hz0, hz1, hz2⟩ := info_parts Tryd.info9
  go_enter Tryd.func45, Tryd.ntmps45
  go_wp2_with fail
  go_loopw [3, 4, 5] (fun v a b wr => LiAt s w v a b wr) (fun _ _ b _ => s.size - (intOf b).toNat)
  case atStart => exact ⟨0, 0, [], Nat.zero_le _, Nat.le_refl _, Nat.le_refl _, rfl, rfl, LiS.start _, World.ownsRow_nil _ _ _ _, Below.refl _ _⟩
  case round =>
    obtain ⟨i, f, out, hin, hfi, hof, rfl, rfl, HS, hown, hbw⟩ := hrel
    by_cases hlt : i < s.size
    · have hg := bytes_get s i hlt
      by_cases hc : s[i].toNat = 10
      · have h10 : s[i] = 10 := UInt8.toNat_inj.1 hc
        rw [h10] at hg
        have HS2 := Lib.hid (HS.out.line hfi hg)
        have q : ((s[i].toNat : Int) == 10) = true := by rw [beq_iff_eq]; omega
        have hm : (out ++ [s.extract f i]).map Value.string = out.map Value.string ++ [.string (s.extract f i)] := by simp
        have HM := Lib.hid hm
        clear HS hg h10 hm hc
        go_wp2_with (at_builtin; refine wpList_append_own _ rfl _ _ 38 rfl w.heap.size 9 i0 (.string ⟨#[]⟩) 1 16 Tryd.underlying38 hi hz0 hz1 hz2 rfl (by decide) _ _ _ rfl (hown.alloc _) ⟨wr.heap.size, 0, none⟩ 1 1 [.string (s.extract f i)] rfl rfl ?c1 ?c2 ?c3 ?c4 ?c5 ?_)
        case c1 => exact cells_new wr [.string (s.extract f i)] 9
        case c2 => intro u hu; simp at hu; subst hu; rfl
        case c3 => unfold maxLen; omega
        case c4 => omega
        case c5 => have := hbw.size; simp at this ⊢; omega
        intro v' w3 hown3 hgrow3 _
        have hbw3 := below_append hbw _ hown hgrow3
        clear hgrow3 hown hbw
        go_wp2_with fail
        go_roundw
        case rel => exact ⟨i + 1, i + 1, out ++ [s.extract f i], by omega, Nat.le_refl _, by rw [List.length_append]; simp; omega, by go_num, by go_num, HS2, by rw [HM.out, List.length_append]; exact hown3, hbw3⟩
        case measure => simp [intOf]; omega
      · have HS2 := Lib.hid (HS.out.on hfi hg (fun h => hc (by rw [h]; rfl)))
        have q : ((s[i].toNat : Int) == 10) = false := by rw [beq_eq_false_iff_ne]; omega
        clear HS hg hc
        go_wp2_with fail
        go_roundw
        case rel => exact ⟨i + 1, f, out, by omega, by omega, hof, rfl, by go_num, HS2, hown, hbw⟩
        case measure => simp [intOf]; omega
    · have HE := Lib.hid (HS.out.end (by omega))
      have hm : (out ++ [s.extract f s.size]).map Value.string = out.map Value.string ++ [.string (s.extract f s.size)] := by simp
      have HM := Lib.hid hm
      clear HS hm
      go_wp2_with (at_builtin; refine wpList_append_own _ rfl _ _ 38 rfl w.heap.size 9 i0 (.string ⟨#[]⟩) 1 16 Tryd.underlying38 hi hz0 hz1 hz2 rfl (by decide) _ _ _ rfl (hown.alloc _) ⟨wr.heap.size, 0, none⟩ 1 1 [.string (s.extract f s.size)] rfl rfl ?c1 ?c2 ?c3 ?c4 ?c5 ?_)
      case c1 => exact cells_new wr [.string (s.extract f s.size)] 9
      case c2 => intro u hu; simp at hu; subst hu; rfl
      case c3 => unfold maxLen; omega
      case c4 => omega
      case c5 => have := hbw.size; simp at this ⊢; omega
      intro v' w3 hown3 hgrow3 _
      have hbw3 := below_append hbw _ hown hgrow3
      clear hgrow3 hown hbw
      go_wp2_with fail
      go_ret
      refine ⟨_, rfl, ?_, hbw3⟩
      rw [HE.out, HM.out, List.length_append]
      exact hown3
end Go.Proofs.YtoihfmjnonanjaaDoor
