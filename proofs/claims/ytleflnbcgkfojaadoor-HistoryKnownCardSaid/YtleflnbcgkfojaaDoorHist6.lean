/- What henkanref31.Last and henkanref31.About compute. -/
import Derived.Test.YtleflnbcgkfojaaDoorHist5
import Derived.Test.YtleflnbcgkfojaaDoorKeysS
namespace Go.Proofs.YtleflnbcgkfojaaDoor
open Go.RowKit Go.Lib Go.Shelf Hk Go.Maps
set_option linter.unusedSimpArgs false
set_option linter.unusedVariables false
set_option maxRecDepth 100000

set_option maxHeartbeats 4000000 in
theorem refAbout_calls (A : Option Addr) (cap : Nat) (l : List ByteArray) (s : ByteArray) (w : World) (hl : Lies w w.heap.size 1 A l.length (l.map Value.string)) (hn : l.length ≤ 1048576) (hks : ∀ k ∈ l, k.size ≤ 1048576) (he : Env w) :
    Calls Tryd.prog 18 #[.slice A l.length cap, .string s] w (StrsPost w (aboutD s l)) := by
  obtain ⟨i0, hi, hz0, hz1, hz2⟩ := info_parts Tryd.info9
  have HE := Lib.hid he
  have HL := Lib.hid hl
  have HC := Lib.hid hks
  clear he hl hks
  obtain ⟨n, hnn⟩ : ∃ n, n = l.length := ⟨_, rfl⟩
  have HN := Lib.hid hnn
  rw [← hnn] at hn ⊢
  clear hnn
  go_enter Tryd.func18, Tryd.ntmps18
  go_wp2_with fail
  go_loopw [5, 6] (fun v i wr => AboutAt w s l v i wr) (fun _ i _ => n - (intOf i).toNat)
  case atStart => exact ⟨0, Nat.zero_le _, rfl, World.ownsRow_nil _ _ _ _, Below.refl _ _⟩
  case round =>
    obtain ⟨k, hk, rfl, hown, hbw⟩ := hrel
    rw [← HN.out] at hk
    by_cases hlt : k < n
    · obtain ⟨key, hc⟩ : ∃ c, l[k]? = some c := ⟨_, List.getElem?_eq_getElem (by rw [← HN.out]; exact hlt)⟩
      have hlw := HL.out.below hbw
      rw [← HN.out] at hlw
      obtain ⟨b, off, rfl, hab, c0⟩ := hlw.at1 hlt (u := .string key) (by rw [List.getElem?_map, hc]; rfl)
      have hkb := HC.out key (List.mem_of_getElem? hc)
      have HT := Lib.hid (take_snoc_list l k key hc)
      have CP := Lib.hid fun W => refParse_calls key W (by omega)
      have hlen2 : (aboutD s (l.take k)).length ≤ k := Nat.le_trans (aboutD_len _ _) (List.length_take_le _ _)
      clear hlw hc
      have keep : Hid (∀ w1, Below wr.heap.size wr w1 → aboutB s key = false → AboutAt w s l u5 (.int .i64 ((k : Int) + 1)) w1) := fun w1 hb hf => by
        refine ⟨k + 1, by rw [← HN.out]; omega, by go_num, ?_, qtrans hbw hb⟩
        rw [HT.out, aboutD_no hf]
        exact owns_below hown hb
      cases hp : kparse key.data.toList with
      | none =>
        simp only [ParsePost_none hp] at CP
        have HB : Hid (aboutB s key = false) := by show _ = _; unfold aboutB; rw [hp]
        clear hp
        go_wp2_with fail
        refine (CP.out _).mono ?_
        rintro e w1 ⟨rfl, hb1⟩
        have HR := Lib.hid (keep.out w1 hb1 HB.out)
        clear hb1 hown hbw c0
        go_wp2_with fail
        go_roundw
        case rel => exact HR.out
        case measure => simp [intOf]; omega
      | some x =>
        obtain ⟨kk, a, b'⟩ := x
        simp only [ParsePost_some hp] at CP
        have HX : Hid (aboutB s key = ((b' == s.data.toList) || ((kk == 2) && (a == s.data.toList)))) := by show _ = _; unfold aboutB; rw [hp]
        obtain ⟨a', ha'⟩ : ∃ a' : ByteArray, a' = ⟨a.toArray⟩ := ⟨_, rfl⟩
        obtain ⟨d, hd⟩ : ∃ d : ByteArray, d = ⟨b'.toArray⟩ := ⟨_, rfl⟩
        have ea : a = a'.toList := by rw [ByteArray.toList_eq, ha']
        have ed : b' = d.toList := by rw [ByteArray.toList_eq, hd]
        rw [← ha', ← hd] at CP
        rw [← ByteArray.toList_eq s, ea, ed] at HX
        clear ha' hd ea ed
        cases h1 : (d.toList == s.toList) with
        | true =>
          have HB : Hid (aboutB s key = true) := by show _ = _; rw [HX.out, h1]; rfl
          clear hp
          go_wp2_with fail
          refine (CP.out _).mono ?_
          rintro e w1 ⟨rfl, hb1⟩
          have hown1 := owns_below hown hb1
          have c0' := cell_later hb1 c0
          have hbw1 := qtrans hbw hb1
          clear hb1 hown hbw c0 keep
          go_wp2_with (at_builtin; refine wpList_append_own _ rfl _ _ 26 rfl w.heap.size 9 i0 (.string ⟨#[]⟩) 1 16 Tryd.underlying26 hi hz0 hz1 hz2 rfl (by decide) _ _ _ rfl (hown1.alloc _) ⟨w1.heap.size, 0, none⟩ 1 1 [.string key] rfl rfl ?x1 ?x2 ?x3 ?x4 ?x5 ?_)
          case x1 => exact cell_one_new _ _ _
          case x2 => intro u hu; simp at hu; subst hu; rfl
          case x3 => unfold maxLen; omega
          case x4 => omega
          case x5 => have := hbw1.size; simp; omega
          intro v' w3 hown3 hgrow3 _
          have hbw3 := below_append hbw1 _ hown1 hgrow3
          clear hgrow3 hown1 hbw1
          go_wp2_with fail
          go_roundw
          case rel => exact ⟨k + 1, by rw [← HN.out]; omega, by go_num, by rw [HT.out, aboutD_yes HB.out, List.length_append, List.map_append]; exact hown3, hbw3⟩
          case measure => simp [intOf]; omega
        | false =>
          cases h2 : (kk == 2) with
          | false =>
            have HB : Hid (aboutB s key = false) := by show _ = _; rw [HX.out, h1, h2]; rfl
            clear hp
            go_wp2_with fail
            refine (CP.out _).mono ?_
            rintro e w1 ⟨rfl, hb1⟩
            have HR := Lib.hid (keep.out w1 hb1 HB.out)
            clear hb1 hown hbw c0
            go_wp2_with fail
            go_roundw
            case rel => exact HR.out
            case measure => simp [intOf]; omega
          | true =>
            cases h3 : (a'.toList == s.toList) with
            | false =>
              have HB : Hid (aboutB s key = false) := by show _ = _; rw [HX.out, h1, h2, h3]; rfl
              clear hp
              go_wp2_with fail
              refine (CP.out _).mono ?_
              rintro e w1 ⟨rfl, hb1⟩
              have HR := Lib.hid (keep.out w1 hb1 HB.out)
              clear hb1 hown hbw c0
              go_wp2_with fail
              go_roundw
              case rel => exact HR.out
              case measure => simp [intOf]; omega
            | true =>
              have HB : Hid (aboutB s key = true) := by show _ = _; rw [HX.out, h1, h2, h3]; rfl
              clear hp
              go_wp2_with fail
              refine (CP.out _).mono ?_
              rintro e w1 ⟨rfl, hb1⟩
              have hown1 := owns_below hown hb1
              have c0' := cell_later hb1 c0
              have hbw1 := qtrans hbw hb1
              clear hb1 hown hbw c0 keep
              go_wp2_with (at_builtin; refine wpList_append_own _ rfl _ _ 26 rfl w.heap.size 9 i0 (.string ⟨#[]⟩) 1 16 Tryd.underlying26 hi hz0 hz1 hz2 rfl (by decide) _ _ _ rfl (hown1.alloc _) ⟨w1.heap.size, 0, none⟩ 1 1 [.string key] rfl rfl ?y1 ?y2 ?y3 ?y4 ?y5 ?_)
              case y1 => exact cell_one_new _ _ _
              case y2 => intro u hu; simp at hu; subst hu; rfl
              case y3 => unfold maxLen; omega
              case y4 => omega
              case y5 => have := hbw1.size; simp; omega
              intro v' w3 hown3 hgrow3 _
              have hbw3 := below_append hbw1 _ hown1 hgrow3
              clear hgrow3 hown1 hbw1
              go_wp2_with fail
              go_roundw
              case rel => exact ⟨k + 1, by rw [← HN.out]; omega, by go_num, by rw [HT.out, aboutD_yes HB.out, List.length_append, List.map_append]; exact hown3, hbw3⟩
              case measure => simp [intOf]; omega
    · have HT : Hid (l.take k = l) := by
        show _ = _
        exact List.take_of_length_le (by rw [← HN.out]; omega)
      go_wp2_with fail
      go_ret
      refine ⟨_, rfl, ?_, hbw⟩
      rw [HT.out] at hown
      exact hown

set_option maxHeartbeats 1000000 in
theorem refLast_calls (prev : ByteArray) (A : Option Addr) (cap : Nat) (ws : List Wd) (w : World) (B : Nat) (hl : Lies w B 2 A ws.length (wdCells ws)) (hn : ws.length ≤ 9223372036854775807) :
    Calls Tryd.prog 22 #[.string prev, .slice A ws.length cap] w fun e w' => e = .returned (.string (lastD prev ws)) ∧ w = w' := by
  by_cases h0 : 0 < ws.length
  · obtain ⟨c, hc⟩ : ∃ c, ws[ws.length - 1]? = some c := ⟨_, List.getElem?_eq_getElem (by omega)⟩
    have HD : Hid (lastD prev ws = c.2) := by
      show _ = _
      unfold lastD
      rw [List.getLast?_eq_getElem?, hc]
    obtain ⟨q0, q1⟩ := wdCells_at ws _ c hc
    obtain ⟨b, off, rfl, _, c0, c1⟩ := hl.at2 (k := ws.length - 1) (by omega) q0 q1
    clear hc q0 q1 hl
    obtain ⟨r, s⟩ := c
    simp only at c0 c1
    have q : ((ws.length : Int) == 0) = false := beq_eq_false_iff_ne.2 (by omega)
    generalize ws.length = n at *
    go_enter Tryd.func22, Tryd.ntmps22
    go_wp2_with fail
    go_ret
    exact ⟨ret_str HD.out.symm, rfl⟩
  · have hnil : ws = [] := List.length_eq_zero_iff.1 (by omega)
    subst hnil
    have HD : Hid (lastD prev [] = prev) := rfl
    clear hl hn h0
    go_enter Tryd.func22, Tryd.ntmps22
    go_wp2_with fail
    go_ret
    exact ⟨ret_str HD.out.symm, rfl⟩
end Go.Proofs.YtleflnbcgkfojaaDoor
