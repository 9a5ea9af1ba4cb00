/- What line of henkanref15 computes. -/
import Derived.Test.YtoihfmjnonanjaaDoorPosBA
import Derived.Test.YtoihfmjnonanjaaDoorPosS
import Derived.IntWalk
namespace Go.Proofs.YtoihfmjnonanjaaDoor
open Go.RowKit Go.Lib Go.Shelf Hk
set_option linter.unusedSimpArgs false
set_option linter.unusedVariables false
set_option maxRecDepth 100000

def LinePost (l : List UInt8) (w : World) (e : Ending) (w' : World) : Prop :=
  ∃ (n : ByteArray) (k : Int) (b : Bool), e = .returned (.tuple #[.agg #[.string n, .int .i64 k], .bool b]) ∧ lineL l = (if b = true then some (n, k) else none) ∧ Below w.heap.size w w'
/-- The world in which the result's variable lies. -/
def linW (w : World) : World := w.alloc (.cells #[.string ⟨#[]⟩, .int .i64 0] 86)
theorem linW_below (w : World) : Below w.heap.size w (linW w) := (Below.refl _ _).alloc (Nat.le_refl _) _
theorem linW_at {w wr : World} (h : Below (w.heap.size + 1) (linW w) wr) : wr.heap[w.heap.size]? = some (Obj.cells #[.string ⟨#[]⟩, .int .i64 0] 86 (0, 0)) :=
  (h.block w.heap.size (Nat.lt_succ_self _)).trans (World.alloc_heap_new w _)
theorem linW_cells {w wr : World} (h : Below (w.heap.size + 1) (linW w) wr) : wr.cell? ⟨w.heap.size, 0, none⟩ = some (.string ⟨#[]⟩) ∧ wr.cell? ⟨w.heap.size, 1, none⟩ = some (.int .i64 0) ∧ wr.frozen? ⟨w.heap.size, 0, none⟩ = false ∧ wr.frozen? ⟨w.heap.size, 1, none⟩ = false := by
  have := linW_at h
  refine ⟨?_, ?_, ?_, ?_⟩ <;> simp [World.cell?, World.frozen?, this]
theorem line_none {l : List UInt8} (h : ∀ c ∈ l, c ≠ 9) : lineL l = none := by unfold lineL; rw [tabL_none l h]
theorem tab_at {s : ByteArray} {i : Nat} (h : ∀ c ∈ s.data.toList.take i, c ≠ 9) (hc : s.data.toList[i]? = some 9) : tabL s.data.toList = some ((s.extract 0 i).data.toList, (s.extract (i + 1) s.size).data.toList) := by
  obtain ⟨hlt, he⟩ := List.getElem?_eq_some_iff.1 hc
  have e : s.data.toList = s.data.toList.take i ++ 9 :: s.data.toList.drop (i + 1) := by
    have h1 := (List.take_append_drop i s.data.toList).symm
    rw [List.drop_eq_getElem_cons hlt, he] at h1
    exact h1
  have e0 : (s.extract 0 i).data.toList = s.data.toList.take i := by rw [Lib.extract_data]; simp
  rw [e0, Lib.extract_to_end]
  exact (congrArg tabL e).trans (tabL_some _ _ h)
theorem line_tab {s : ByteArray} {i : Nat} (h : ∀ c ∈ s.data.toList.take i, c ≠ 9) (hc : s.data.toList[i]? = some 9) :
    lineL s.data.toList = if kindI (s.extract (i + 1) s.size) < 0 then none else if nameD (s.extract 0 i) = true then some (s.extract 0 i, kindI (s.extract (i + 1) s.size)) else none := by
  unfold lineL
  rw [tab_at h hc]
  simp only [mk_list]
  rfl
theorem kind_eqW {b : ByteArray} {k : Nat} (hk : k < 3) (h : b = kindW (k : Int)) : kindI b = (k : Int) := by rw [h]; exact kindI_W _ (by omega) (by omega)
theorem kind_notW {b : ByteArray} (h : ∀ j : Nat, j < 3 → b ≠ kindW (j : Int)) : kindI b < 0 := by
  rcases kindI_cases b with e | ⟨_, e⟩ | ⟨_, e⟩ | ⟨_, e⟩
  · omega
  · exact absurd e (h 0 (by omega))
  · exact absurd e (h 1 (by omega))
  · exact absurd e (h 2 (by omega))

theorem below_d1 {R : Nat} {W W' : World} (h : Below R W W') : Below R W W'.drew := h.trans ⟨rfl, rfl, rfl, Nat.le_refl _, fun _ _ => rfl⟩
/-- The result's variable, behind a store. -/
def LinIs (W : World) (R : Nat) (n : ByteArray) (k : Int) : Prop := W.heap[R]? = some (Obj.cells #[.string n, .int .i64 k] 86 (0, 0))
theorem set_first {W : World} {R : Nat} {a b : Value} {t : TypeId} {fr : Nat × Nat} (h : W.heap[R]? = some (Obj.cells #[a, b] t fr)) (v : Value) : (W.setCell ⟨R, 0, none⟩ v).heap[R]? = some (Obj.cells #[v, b] t fr) := by
  obtain ⟨hlt, hk⟩ := Array.getElem?_eq_some_iff.1 h
  show (W.heap.modify R _)[R]? = _
  rw [Array.getElem?_eq_getElem (by rw [Array.size_modify]; exact hlt), Array.getElem_modify_self, hk]
  rfl
theorem set_second {W : World} {R : Nat} {a b : Value} {t : TypeId} {fr : Nat × Nat} (h : W.heap[R]? = some (Obj.cells #[a, b] t fr)) (v : Value) : (W.setCell ⟨R, 1, none⟩ v).heap[R]? = some (Obj.cells #[a, v] t fr) := by
  obtain ⟨hlt, hk⟩ := Array.getElem?_eq_some_iff.1 h
  show (W.heap.modify R _)[R]? = _
  rw [Array.getElem?_eq_getElem (by rw [Array.size_modify]; exact hlt), Array.getElem_modify_self, hk]
  rfl
theorem line_store {W : World} {R : Nat} {n0 : ByteArray} {k0 : Int} (h : LinIs W R n0 k0) (n : ByteArray) (k : Int) : LinIs ((W.setCell ⟨R, 0, none⟩ (.string n)).setCell ⟨R, 1, none⟩ (.int .i64 k)) R n k :=
  set_second (set_first h _) _
theorem line_results (W : World) (R : Nat) (tmps : Array Value) (h2 : tmps.getD 2 undef = .pointer (some ⟨R, 0, none⟩)) (n : ByteArray) (k : Int) (b : Bool) (h : LinIs W R n k) (h3 : tmps.getD 3 undef = .bool b) :
    (results Tryd.f46 tmps).run Tryd.prog W = .ok (.tuple #[.agg #[.string n, .int .i64 k], .bool b]) W := by
  have c0 : W.cell? ⟨R, 0, none⟩ = some (.string n) := by simp [World.cell?, show W.heap[R]? = _ from h]
  have c1 : W.cell? ⟨R, 1, none⟩ = some (.int .i64 k) := by simp [World.cell?, show W.heap[R]? = _ from h]
  rw [Array.getD_eq_getD_getElem?] at h2 h3
  simp [results, Tryd.results46, go_sem, h2, h3, c0, c1]

set_option maxHeartbeats 8000000 in
theorem line_calls (s : ByteArray) (w : World) (hs : s.size ≤ 1048576) : Calls Tryd.prog 46 #[.string s] w (LinePost s.data.toList w) := by
  have CK := Lib.hid kinds_calls
  have CN := Lib.hid fun (s : ByteArray) W (h : s.size ≤ maxLen) => refName_calls s W h
  go_enter Tryd.func46, Tryd.ntmps46
  go_wp2_with fail
  go_loopw [4] (fun i wr => ∃ k : Nat, k ≤ s.size ∧ i = .int .i64 (k : Int) ∧ wr = linW w ∧ Hid (∀ c ∈ s.data.toList.take k, c ≠ 9)) (fun i _ => s.size - (intOf i).toNat)
  case atStart => exact ⟨0, Nat.zero_le _, rfl, rfl, fun c h => by simp at h⟩
  case round =>
    obtain ⟨i, hin, rfl, rfl, HH⟩ := hrel
    obtain ⟨r0, r1, z0, z1⟩ := linW_cells (Below.refl (w.heap.size + 1) (linW w))
    by_cases hlt : i < s.size
    · have hg := bytes_get s i hlt
      by_cases hc : s[i].toNat = 9
      · have h9 : s[i] = 9 := UInt8.toNat_inj.1 hc
        rw [h9] at hg
        have HL := Lib.hid (line_tab HH.out hg)
        have q : ((s[i].toNat : Int) != 9) = false := by simp [hc]
        have HB : Hid (linW w = linW w) := rfl
        have ha : (s.extract 0 i).size ≤ maxLen := by
          have h1 : (s.extract 0 i).size = (s.extract 0 i).data.toList.length := by simp
          have h2 : s.size = s.data.toList.length := by simp
          rw [h1, Lib.extract_data, List.length_take, List.length_drop]
          unfold maxLen
          omega
        have C2 := Lib.hid fun W => CN.out (s.extract 0 i) W ha
        clear hg h9 HH ha CN hc
        go_wp2_with fail
        have HB0 := Lib.hid (Below.refl (w.heap.size + 1) (linW w))
        have hi1 : (i : Int) + 1 ≤ (s.size : Int) := by omega
        have hi0 : (0 : Int) ≤ (i : Int) + 1 := by omega
        have hi2 : i + 1 ≤ s.size := by omega
        have hi3 : (0 : Int) ≤ (i : Int) := by omega
        have hi4 : (i : Int) ≤ (s.size : Int) := by omega
        have hiw : IntKind.i64.wrap ((i : Int) + 1) = (i : Int) + 1 := IntWalk.i64_in _ (by omega)
        clear HB r0 r1 z0 z1
        go_loopw [5] (fun k wr => ∃ j : Nat, j ≤ 3 ∧ k = .int .i64 (j : Int) ∧ Hid (∀ m : Nat, m < j → s.extract (i + 1) s.size ≠ kindW (m : Int)) ∧ Below (w.heap.size + 1) (linW w) wr) (fun k _ => 3 - (intOf k).toNat)
        case atStart => exact ⟨0, Nat.zero_le _, rfl, fun m h => absurd h (Nat.not_lt_zero _), HB0.out⟩
        case round =>
          obtain ⟨j, hj, rfl, HNK, hbw⟩ := hrel
          by_cases hj3 : j < 3
          · have hbd : Below (w.heap.size + 1) (linW w) wr.drew := below_d1 hbw
            obtain ⟨kw, hkw⟩ : ∃ kw, kw = kindW (j : Int) := ⟨_, rfl⟩
            have HKW := Lib.hid hkw
            have heq := eq_toList (s.extract (i + 1) s.size) kw
            by_cases hbk : s.extract (i + 1) s.size = kw
            · rw [decide_eq_true hbk] at heq
              have hki := kind_eqW (b := s.extract (i + 1) s.size) hj3 (hbk.trans hkw)
              have hl := HL.out
              rw [hki, if_neg (by omega)] at hl
              have HLL := Lib.hid hl
              clear hl hki hbk hkw HL HNK hbw
              go_wp2_with fail
              go_region_with (go_at_call 50; refine (CK.out _).mono ?_; rintro e w3 ⟨g, rfl, zz, hb3⟩; have y0 := zz (j : Int) (by omega) (by omega); rw [← HKW.out] at y0; simp only [Int.toNat_natCast] at y0; have hbw3 := hbd.trans (hb3.mono (by have := hbd.size; simp [linW] at this; simp; omega)); clear hb3 zz)
              all_goals
                obtain ⟨r0, r1, z0, z1⟩ := linW_cells hbw3
                go_wp2_with fail
                go_region_with (go_at_call 49; refine (C2.out _).mono ?_; rintro e w4 ⟨rfl, rfl⟩)
              all_goals
                go_wp2_with fail
                refine bodyPost_ret (v := .tuple #[.agg #[.string (s.extract 0 i), .int .i64 (j : Int)], .bool (nameD (s.extract 0 i))]) (line_results _ w.heap.size _ rfl _ _ _ (line_store (linW_at hbw3) _ _) rfl) rfl ?_
                exact ⟨_, _, _, rfl, HLL.out, below_d1 ((((linW_below w).trans (hbw3.mono (Nat.le_succ _))).setCell (p := ⟨w.heap.size, 0, none⟩) (Nat.le_refl _) _).setCell (p := ⟨w.heap.size, 1, none⟩) (Nat.le_refl _) _)⟩
            · rw [decide_eq_false hbk] at heq
              have HNK2 : Hid (∀ m : Nat, m < j + 1 → s.extract (i + 1) s.size ≠ kindW (m : Int)) := by
                intro m hm
                by_cases e : m = j
                · subst e
                  rw [← hkw]
                  exact hbk
                · exact HNK.out m (by omega)
              clear hbk hkw HNK hbw HL C2
              go_wp2_with fail
              go_region_with (go_at_call 50; refine (CK.out _).mono ?_; rintro e w3 ⟨g, rfl, zz, hb3⟩; have y0 := zz (j : Int) (by omega) (by omega); rw [← HKW.out] at y0; simp only [Int.toNat_natCast] at y0; have hbw3 := hbd.trans (hb3.mono (by have := hbd.size; simp [linW] at this; simp; omega)); clear hb3 zz)
              all_goals
                go_wp2_with fail
                go_roundw
                (case rel => exact ⟨j + 1, by omega, by go_num, HNK2, hbw3⟩)
                (case measure => simp [intOf]; omega)
          · obtain rfl : j = 3 := by omega
            have hl := HL.out
            rw [if_pos (kind_notW HNK.out)] at hl
            have HLL := Lib.hid hl
            obtain ⟨r0, r1, z0, z1⟩ := linW_cells hbw
            clear hl HL HNK C2
            go_wp2_with fail
            refine bodyPost_ret (v := .tuple #[.agg #[.string ⟨#[]⟩, .int .i64 0], .bool false]) (line_results _ _ _ rfl _ _ _ (line_store (linW_at hbw) _ _) rfl) rfl ?_
            exact ⟨⟨#[]⟩, 0, false, rfl, HLL.out, (((linW_below w).trans (hbw.mono (Nat.le_succ _))).setCell (p := ⟨w.heap.size, 0, none⟩) (Nat.le_refl _) _).setCell (p := ⟨w.heap.size, 1, none⟩) (Nat.le_refl _) _⟩
      · have HH2 : Hid (∀ c ∈ s.data.toList.take (i + 1), c ≠ 9) := by
          intro c hcm
          rw [List.take_add_one, hg, List.mem_append] at hcm
          rcases hcm with h | h
          · exact HH.out c h
          · simp at h
            subst h
            intro h9
            exact hc (by rw [h9]; rfl)
        have q : ((s[i].toNat : Int) != 9) = true := by rw [bne_iff_ne]; omega
        clear HH hg hc
        go_wp2_with fail
        go_roundw
        case rel => exact ⟨i + 1, by omega, by go_num, by first | trivial | rfl, HH2⟩
        case measure => simp [intOf]; omega
    · have HX : Hid (lineL s.data.toList = none) := by
        refine line_none fun c hc => HH.out c ?_
        rw [List.take_of_length_le (by simp; omega)]
        exact hc
      clear HH
      go_wp2_with fail
      refine bodyPost_ret (v := .tuple #[.agg #[.string ⟨#[]⟩, .int .i64 0], .bool false]) (line_results _ _ _ rfl _ _ _ (line_store (linW_at (Below.refl _ _)) _ _) rfl) rfl ?_
      exact ⟨⟨#[]⟩, 0, false, rfl, HX.out, ((linW_below w).setCell (p := ⟨w.heap.size, 0, none⟩) (Nat.le_refl _) _).setCell (p := ⟨w.heap.size, 1, none⟩) (Nat.le_refl _) _⟩
end Go.Proofs.YtoihfmjnonanjaaDoor
