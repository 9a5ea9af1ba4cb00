/- What pos.Print computes. -/
import Derived.Test.YtoihfmjnonanjaaDoorPosM
import Derived.Test.YtoihfmjnonanjaaDoorBldP
namespace Go.Proofs.YtoihfmjnonanjaaDoor
open Go.RowKit Go.Lib Go.Shelf Hk
set_option linter.unusedSimpArgs false
set_option linter.unusedVariables false
set_option maxRecDepth 100000

/-- What Print returns. -/
def printB (l : List P2) : ByteArray := if okB l = true then ⟨(printL l).toArray⟩ else ⟨#[]⟩
theorem printL_snoc (l : List P2) (p : P2) : printL (l ++ [p]) = printL l ++ (lineOf p ++ [10]) := by simp [printL]
/-- The builder of Print, k elements on. -/
def PrAt (w : World) (l : List P2) (b : Nat) (i : Value) (wr : World) : Prop :=
  ∃ k : Nat, k ≤ l.length ∧ i = .int .i64 (k : Int) ∧ Lib.IsBuilderF 72 5 b b (Lib.byteCells (printL (l.take k))) wr ∧ b ≤ wr.heap.size ∧ Below w.heap.size w wr
theorem KindsW.at0 {w : World} (h : KindsW w) : w.cell? ⟨0, 0, none⟩ = some (.string contentB) := h.cell 0 (by decide)
theorem KindsW.at1 {w : World} (h : KindsW w) : w.cell? ⟨0, 1, none⟩ = some (.string functionB) := h.cell 1 (by decide)
theorem KindsW.at2 {w : World} (h : KindsW w) : w.cell? ⟨0, 2, none⟩ = some (.string prefixB) := h.cell 2 (by decide)

set_option maxHeartbeats 4000000 in
theorem print_calls (A : Option Addr) (cap : Nat) (l : List P2) (w : World) (hl : Lies w w.heap.size 2 A l.length (pcells l)) (hn : l.length ≤ maxLen) (he : Env w) :
    Calls Tryd.prog 16 #[.slice A l.length cap] w fun e w' => e = .returned (.tuple #[.string (printB l), .int .i64 (checkI l)]) ∧ Below w.heap.size w w' := by
  have CC := Lib.hid (check_calls A cap l w hl hn)
  cases hok : okB l with
  | false =>
    have HX : Hid (printB l = ⟨#[]⟩) := by show _ = _; unfold printB; rw [hok]; rfl
    have h5 := checkI_no hok
    rw [h5] at CC ⊢
    clear hl he hok h5 hn
    generalize l.length = n at *
    go_enter Tryd.func16, Tryd.ntmps16
    go_wp2_with fail
    refine CC.out.mono ?_
    rintro e w1 ⟨rfl, hb1⟩
    go_wp2_with fail
    go_ret2
    rw [HX.out]
    exact ⟨rfl, hb1⟩
  | true =>
    have HX : Hid (printB l = ⟨(printL l).toArray⟩) := by show _ = _; unfold printB; rw [hok]; rfl
    have h5 := checkI_yes hok
    have hl64 := (of_decide_eq_true hok).2.1
    have hall := (of_decide_eq_true hok).2.2.2.1
    have HA := Lib.hid hall
    rw [h5] at CC ⊢
    have HE := Lib.hid he
    have HL := Lib.hid hl
    clear he hl hok h5 hall
    obtain ⟨n, hnn⟩ : ∃ n, n = l.length := ⟨_, rfl⟩
    have HN := Lib.hid hnn
    rw [← hnn] at CC HL hl64 ⊢
    clear hnn hn
    go_enter Tryd.func16, Tryd.ntmps16
    go_wp2_with fail
    refine CC.out.mono ?_
    rintro e w1 ⟨rfl, hb1⟩
    have hbb : Below w.heap.size w (w1.alloc (.cells #[.pointer none, .slice none 0 0] 72)) := hb1.alloc hb1.size _
    have hw1 := hb1.size
    clear CC hb1
    go_wp2_with fail
    go_loopw [15] (fun i wr => PrAt w l w1.heap.size i wr) (fun i _ => n - (intOf i).toNat)
    case atStart => exact ⟨0, Nat.zero_le _, rfl, Lib.IsBuilderF.of (Lib.fresh_isBuilder _ _ w1), by simp, hbb⟩
    case round =>
      obtain ⟨k, hk, rfl, hbl, hbs, hbw⟩ := hrel
      rw [← HN.out] at hk
      clear hbb
      by_cases hlt : k < n
      · obtain ⟨x, hx⟩ : ∃ x, l[k]? = some x := ⟨_, List.getElem?_eq_getElem (by rw [← HN.out]; exact hlt)⟩
        obtain ⟨q0, q1⟩ := pcells_at l k x hx
        have hlw := HL.out.below hbw
        obtain ⟨bl, off, rfl, _, c0, c1⟩ := hlw.at2 hlt q0 q1
        have hax := HA.out x (List.mem_of_getElem? hx)
        have hts := take_snoc_list l k x hx
        have hev := (HE.out.below hbw).1
        have hb1 : Below wr.heap.size wr (wr.alloc (.cells #[.string x.1, .int .i64 x.2] 33)) := (Below.refl _ _).alloc (Nat.le_refl _) _
        have hkw := hev.below hb1
        have hlen := printL_length (l.take k) fun p hp => (HA.out p (List.mem_of_mem_take hp)).1
        have hlk : (l.take k).length ≤ k := List.length_take_le _ _
        obtain ⟨xn, xk⟩ := x
        simp only at c0 c1 hax hb1 hkw
        have hnl := (name_ok hax.1).2.1
        have hbl2 : Lib.IsBuilderF 72 5 w1.heap.size w1.heap.size (Lib.byteCells (printL (l.take k))) (wr.alloc (.cells #[.string xn, .int .i64 xk] 33)).drew := hbl.alloc _
        have CW : Hid (∀ s : ByteArray, s.data.toList = lineOf (xn, xk) ++ [10] → Calls Tryd.prog 39 #[.pointer (some ⟨w1.heap.size, 0, none⟩), .string s] (wr.alloc (.cells #[.string xn, .int .i64 xk] 33)).drew
            fun e w' => ∃ v, e = .returned v ∧ PrAt w l w1.heap.size (.int .i64 ((k : Int) + 1)) w') := by
          intro s hs
          have hsz : s.size = (lineOf (xn, xk) ++ [10]).length := by rw [size_list, hs]
          have hlo : (lineOf (xn, xk) ++ [10]).length ≤ 26 := by
            have := (kindW_no xk).2
            unfold lineOf
            simp only [List.length_append, List.length_cons, List.length_nil]
            omega
          refine (Tryd.write_string w1.heap.size w1.heap.size _ s _ hbl2 (by rw [Lib.byteCells_length]; omega) (Nat.le_trans hbs hb1.size)).mono ?_
          rintro e w' ⟨rfl, hat, hbe, _⟩
          have hbw2 : Below w.heap.size w (wr.alloc (.cells #[.string xn, .int .i64 xk] 33)).drew := (qtrans hbw hb1).trans ⟨rfl, rfl, rfl, Nat.le_refl _, fun _ _ => rfl⟩
          refine ⟨_, rfl, k + 1, by rw [← HN.out]; omega, by go_num, ?_, Nat.le_trans (Nat.le_trans hbs hb1.size) hbe.size, hbw2.trans (hbe.mono hw1)⟩
          rw [hts, printL_snoc, ← hs, Lib.byteCells_append]
          exact Or.inr hat
        have hcs : xk = 0 ∨ xk = 1 ∨ xk = 2 := by omega
        have hxs : xn.size ≤ 16 := by rw [size_list]; exact hnl
        have k0 := hkw.at0
        have k1 := hkw.at1
        have k2 := hkw.at2
        clear hkw hev hts hlen hlk hbl hbl2 q0 q1 hlw hx hax hb1 hnl hbw
        rcases hcs with rfl | rfl | rfl
        · have HW : Hid ((kindW 0).data.toList = contentB.data.toList) := rfl
          unfold contentB at k0
          go_wp2_with fail
          go_region_with (go_at_call 39; refine (CW.out _ ?_).mono ?_; (unfold lineOf; rw [HW.out]; simp [contentB]); rintro e w3 ⟨v, rfl, hat⟩)
          all_goals
            clear CW
            go_wp2_with fail
            go_roundw
            (case rel => exact hat)
            (case measure => simp [intOf]; omega)
        · have HW : Hid ((kindW 1).data.toList = functionB.data.toList) := rfl
          unfold functionB at k1
          go_wp2_with fail
          go_region_with (go_at_call 39; refine (CW.out _ ?_).mono ?_; (unfold lineOf; rw [HW.out]; simp [functionB]); rintro e w3 ⟨v, rfl, hat⟩)
          all_goals
            clear CW
            go_wp2_with fail
            go_roundw
            (case rel => exact hat)
            (case measure => simp [intOf]; omega)
        · have HW : Hid ((kindW 2).data.toList = prefixB.data.toList) := rfl
          unfold prefixB at k2
          go_wp2_with fail
          go_region_with (go_at_call 39; refine (CW.out _ ?_).mono ?_; (unfold lineOf; rw [HW.out]; simp [prefixB]); rintro e w3 ⟨v, rfl, hat⟩)
          all_goals
            clear CW
            go_wp2_with fail
            go_roundw
            (case rel => exact hat)
            (case measure => simp [intOf]; omega)
      · have HT : Hid (l.take k = l) := by
          show _ = _
          exact List.take_of_length_le (by rw [← HN.out]; omega)
        rw [HT.out] at hbl
        have CD := Lib.hid (Tryd.Builder_String_any_k w1.heap.size w1.heap.size (printL l) wr hbl hbs)
        clear hbl
        go_wp2_with fail
        refine CD.out.mono ?_
        rintro e w2 ⟨rfl, _, hb2, _⟩
        go_wp2_with fail
        go_ret2
        rw [HX.out]
        exact ⟨rfl, hbw.trans (hb2.mono hw1)⟩
end Go.Proofs.YtoihfmjnonanjaaDoor
