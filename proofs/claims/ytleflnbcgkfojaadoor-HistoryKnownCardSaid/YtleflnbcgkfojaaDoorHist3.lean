/- What history.About and history.Last compute. -/
import Derived.Test.YtleflnbcgkfojaaDoorHist2
namespace Go.Proofs.YtleflnbcgkfojaaDoor
open Go.RowKit Go.Lib Go.Shelf Hk Go.Maps
set_option linter.unusedSimpArgs false
set_option linter.unusedVariables false
set_option maxRecDepth 100000

/-- A key that contains a surface. -/
def aboutB (s k : ByteArray) : Bool := match kparse k.data.toList with
  | some (n, a, b) => (b == s.data.toList) || ((n == 2) && (a == s.data.toList))
  | none => false
def aboutD (s : ByteArray) (l : List ByteArray) : List ByteArray := l.filter (aboutB s)
theorem aboutD_snoc (s : ByteArray) (l : List ByteArray) (k : ByteArray) : aboutD s (l ++ [k]) = aboutD s l ++ (if aboutB s k = true then [k] else []) := by
  unfold aboutD
  rw [List.filter_append]
  by_cases h : aboutB s k = true
  · rw [if_pos h]; simp [h]
  · rw [if_neg h]; simp [h]
theorem aboutD_yes {s : ByteArray} {l : List ByteArray} {k : ByteArray} (h : aboutB s k = true) : aboutD s (l ++ [k]) = aboutD s l ++ [k] := by rw [aboutD_snoc, if_pos h]
theorem aboutD_no {s : ByteArray} {l : List ByteArray} {k : ByteArray} (h : aboutB s k = false) : aboutD s (l ++ [k]) = aboutD s l := by rw [aboutD_snoc, if_neg (by rw [h]; simp)]; simp
theorem aboutD_len (s : ByteArray) (l : List ByteArray) : (aboutD s l).length ≤ l.length := List.length_filter_le _ _

/-- The loop of About: place k. -/
def AboutAt (w : World) (s : ByteArray) (l : List ByteArray) (v i : Value) (wr : World) : Prop :=
  ∃ k : Nat, k ≤ l.length ∧ i = .int .i64 (k : Int) ∧ wr.ownsRow w.heap.size 9 1 v (aboutD s (l.take k)).length ((aboutD s (l.take k)).map Value.string) ∧ Below w.heap.size w wr

set_option maxHeartbeats 4000000 in
theorem about_calls (A : Option Addr) (cap : Nat) (l : List ByteArray) (s : ByteArray) (w : World) (hl : Lies w w.heap.size 1 A l.length (l.map Value.string)) (hn : l.length ≤ 1048576) (hks : ∀ k ∈ l, k.size ≤ 1048576) (he : Env w) :
    Calls Tryd.prog 17 #[.slice A l.length cap, .string s] w (StrsPost w (aboutD s l)) := by
  obtain ⟨i0, hi, hz0, hz1, hz2⟩ := info_parts Tryd.info9
  have HE := Lib.hid he
  have HL := Lib.hid hl
  have HC := Lib.hid hks
  clear he hl hks
  obtain ⟨n, hnn⟩ : ∃ n, n = l.length := ⟨_, rfl⟩
  have HN := Lib.hid hnn
  rw [← hnn] at hn ⊢
  clear hnn
  go_enter Tryd.func17, Tryd.ntmps17
  go_wp2_with fail
  go_loopw [5, 14] (fun v i wr => AboutAt w s l v i wr) (fun _ i _ => n - (intOf i).toNat)
  case atStart => exact ⟨0, Nat.zero_le _, rfl, World.ownsRow_nil _ _ _ _, Below.refl _ _⟩
  case round =>
    obtain ⟨k, hk, rfl, hown, hbw⟩ := hrel
    rw [← HN.out] at hk
    by_cases hlt : k < n
    · obtain ⟨key, hc⟩ : ∃ c, l[k]? = some c := ⟨_, List.getElem?_eq_getElem (by rw [← HN.out]; exact hlt)⟩
      have hlw := HL.out.below hbw
      rw [← HN.out] at hlw
      obtain ⟨b, off, rfl, hab, c0⟩ := hlw.at1 hlt (u := .string key) (by rw [List.getElem?_map, hc]; rfl)
      have hkb := HC.out key (List.mem_of_getElem? hc)
      have HT := Lib.hid (take_snoc_list l k key hc)
      have CP := Lib.hid fun W (hW : Env W) => parse_calls key W (by omega) hW
      have hlen2 : (aboutD s (l.take k)).length ≤ k := Nat.le_trans (aboutD_len _ _) (List.length_take_le _ _)
      clear hlw hc
      have keep : Hid (∀ w1, Below wr.heap.size wr w1 → aboutB s key = false → AboutAt w s l u5 (.int .i64 ((k : Int) + 1)) w1) := fun w1 hb hf => by
        refine ⟨k + 1, by rw [← HN.out]; omega, by go_num, ?_, qtrans hbw hb⟩
        rw [HT.out, aboutD_no hf]
        exact owns_below hown hb
      cases hp : kparse key.data.toList with
      | none =>
        simp only [ParsePost_none hp] at CP
        have HB : Hid (aboutB s key = false) := by show _ = _; unfold aboutB; rw [hp]
        clear hp
        go_wp2_with fail
        refine (CP.out _ (HE.out.below hbw)).mono ?_
        rintro e w1 ⟨rfl, hb1⟩
        have HR := Lib.hid (keep.out w1 hb1 HB.out)
        clear hb1 hown hbw c0
        go_wp2_with fail
        go_roundw
        case rel => exact HR.out
        case measure => simp [intOf]; omega
      | some x =>
        obtain ⟨kk, a, b'⟩ := x
        simp only [ParsePost_some hp] at CP
        have HX : Hid (aboutB s key = ((b' == s.data.toList) || ((kk == 2) && (a == s.data.toList)))) := by show _ = _; unfold aboutB; rw [hp]
        obtain ⟨a', ha'⟩ : ∃ a' : ByteArray, a' = ⟨a.toArray⟩ := ⟨_, rfl⟩
        obtain ⟨d, hd⟩ : ∃ d : ByteArray, d = ⟨b'.toArray⟩ := ⟨_, rfl⟩
        have ea : a = a'.toList := by rw [ByteArray.toList_eq, ha']
        have ed : b' = d.toList := by rw [ByteArray.toList_eq, hd]
        rw [← ha', ← hd] at CP
        rw [← ByteArray.toList_eq s, ea, ed] at HX
        clear ha' hd ea ed
        cases h1 : (d.toList == s.toList) with
        | true =>
          have HB : Hid (aboutB s key = true) := by show _ = _; rw [HX.out, h1]; rfl
          clear hp
          go_wp2_with fail
          refine (CP.out _ (HE.out.below hbw)).mono ?_
          rintro e w1 ⟨rfl, hb1⟩
          have hown1 := owns_below hown hb1
          have hbw1 := qtrans hbw hb1
          clear hb1 hown hbw c0 keep
          go_wp2_with (at_builtin; refine wpList_append_own _ rfl _ _ 26 rfl w.heap.size 9 i0 (.string ⟨#[]⟩) 1 16 Tryd.underlying26 hi hz0 hz1 hz2 rfl (by decide) _ _ _ rfl (hown1.alloc _) ⟨w1.heap.size, 0, none⟩ 1 1 [.string key] rfl rfl ?x1 ?x2 ?x3 ?x4 ?x5 ?_)
          case x1 => exact cell_one_new _ _ _
          case x2 => intro u hu; simp at hu; subst hu; rfl
          case x3 => unfold maxLen; omega
          case x4 => omega
          case x5 => have := hbw1.size; simp; omega
          intro v' w3 hown3 hgrow3 _
          have hbw3 := below_append hbw1 _ hown1 hgrow3
          clear hgrow3 hown1 hbw1
          go_wp2_with fail
          go_roundw
          case rel => exact ⟨k + 1, by rw [← HN.out]; omega, by go_num, by rw [HT.out, aboutD_yes HB.out, List.length_append, List.map_append]; exact hown3, hbw3⟩
          case measure => simp [intOf]; omega
        | false =>
          cases h2 : (kk == 2) with
          | false =>
            have HB : Hid (aboutB s key = false) := by show _ = _; rw [HX.out, h1, h2]; rfl
            clear hp
            go_wp2_with fail
            refine (CP.out _ (HE.out.below hbw)).mono ?_
            rintro e w1 ⟨rfl, hb1⟩
            have HR := Lib.hid (keep.out w1 hb1 HB.out)
            clear hb1 hown hbw c0
            go_wp2_with fail
            go_roundw
            case rel => exact HR.out
            case measure => simp [intOf]; omega
          | true =>
            cases h3 : (a'.toList == s.toList) with
            | false =>
              have HB : Hid (aboutB s key = false) := by show _ = _; rw [HX.out, h1, h2, h3]; rfl
              clear hp
              go_wp2_with fail
              refine (CP.out _ (HE.out.below hbw)).mono ?_
              rintro e w1 ⟨rfl, hb1⟩
              have HR := Lib.hid (keep.out w1 hb1 HB.out)
              clear hb1 hown hbw c0
              go_wp2_with fail
              go_roundw
              case rel => exact HR.out
              case measure => simp [intOf]; omega
            | true =>
              have HB : Hid (aboutB s key = true) := by show _ = _; rw [HX.out, h1, h2, h3]; rfl
              clear hp
              go_wp2_with fail
              refine (CP.out _ (HE.out.below hbw)).mono ?_
              rintro e w1 ⟨rfl, hb1⟩
              have hown1 := owns_below hown hb1
              have hbw1 := qtrans hbw hb1
              clear hb1 hown hbw c0 keep
              go_wp2_with (at_builtin; refine wpList_append_own _ rfl _ _ 26 rfl w.heap.size 9 i0 (.string ⟨#[]⟩) 1 16 Tryd.underlying26 hi hz0 hz1 hz2 rfl (by decide) _ _ _ rfl (hown1.alloc _) ⟨w1.heap.size, 0, none⟩ 1 1 [.string key] rfl rfl ?y1 ?y2 ?y3 ?y4 ?y5 ?_)
              case y1 => exact cell_one_new _ _ _
              case y2 => intro u hu; simp at hu; subst hu; rfl
              case y3 => unfold maxLen; omega
              case y4 => omega
              case y5 => have := hbw1.size; simp; omega
              intro v' w3 hown3 hgrow3 _
              have hbw3 := below_append hbw1 _ hown1 hgrow3
              clear hgrow3 hown1 hbw1
              go_wp2_with fail
              go_roundw
              case rel => exact ⟨k + 1, by rw [← HN.out]; omega, by go_num, by rw [HT.out, aboutD_yes HB.out, List.length_append, List.map_append]; exact hown3, hbw3⟩
              case measure => simp [intOf]; omega
    · have HT : Hid (l.take k = l) := by
        show _ = _
        exact List.take_of_length_le (by rw [← HN.out]; omega)
      go_wp2_with fail
      go_ret
      refine ⟨_, rfl, ?_, hbw⟩
      rw [HT.out] at hown
      exact hown

def lastD (prev : ByteArray) (ws : List Wd) : ByteArray := match ws.getLast? with | some x => x.2 | none => prev
end Go.Proofs.YtleflnbcgkfojaaDoor
