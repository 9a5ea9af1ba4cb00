/- What the reference's Print computes. -/
import Derived.Test.YtoihfmjnonanjaaDoorPosR
namespace Go.Proofs.YtoihfmjnonanjaaDoor
open Go.RowKit Go.Lib Go.Shelf Hk
set_option linter.unusedSimpArgs false
set_option linter.unusedVariables false
set_option maxRecDepth 100000

/-- The reference's words for the kinds: a new row each time. -/
theorem kinds_calls (w : World) : Calls Tryd.prog 50 #[] w fun e w' => ∃ g, e = .returned (.slice (some ⟨g, 0, none⟩) 3 3) ∧ (∀ k : Int, 0 ≤ k → k ≤ 2 → w'.cell? ⟨g, k.toNat, none⟩ = some (.string (kindW k))) ∧ Below w.heap.size w w' := by
  go_enter Tryd.func50, Tryd.ntmps50
  go_wp2_with fail
  go_ret
  refine ⟨_, rfl, fun k h0 h2 => ?_, (Below.refl _ _).alloc (Nat.le_refl _) _⟩
  have : k = 0 ∨ k = 1 ∨ k = 2 := by omega
  rcases this with rfl | rfl | rfl
  · rw [show kindW 0 = contentB by decide +kernel]; simp [contentB]
  · rw [show kindW 1 = functionB by decide +kernel]; simp [functionB]
  · rw [show kindW 2 = prefixB by decide +kernel]; simp [prefixB]

/-- The reference's Print, k elements on. -/
def RpAt (w : World) (l : List P2) (s i : Value) (wr : World) : Prop :=
  ∃ (k : Nat) (S : ByteArray), k ≤ l.length ∧ i = .int .i64 (k : Int) ∧ s = .string S ∧ Hid (S.data.toList = printL (l.take k)) ∧ Below w.heap.size w wr
theorem rp_next {w : World} {l : List P2} {wr : World} {k : Nat} {p : P2} {S : ByteArray} (hp : l[k]? = some p) (hS : S.data.toList = printL (l.take k)) (hb : Below w.heap.size w wr) (T : ByteArray) (hT : T.data.toList = S.data.toList ++ (lineOf p ++ [10])) :
    RpAt w l (.string T) (.int .i64 ((k : Int) + 1)) wr := by
  obtain ⟨hlt, _⟩ := List.getElem?_eq_some_iff.1 hp
  refine ⟨k + 1, T, by omega, by go_num, rfl, ?_, hb⟩
  show _ = _
  rw [hT, hS, take_snoc_list l k p hp, printL_snoc]

set_option maxHeartbeats 8000000 in
theorem refPrint_calls (A : Option Addr) (cap : Nat) (l : List P2) (w : World) (hl : Lies w w.heap.size 2 A l.length (pcells l)) (hok : okB l = true) :
    Calls Tryd.prog 32 #[.slice A l.length cap] w fun e w' => e = .returned (.string (printB l)) ∧ Below w.heap.size w w' := by
  have HX : Hid (printB l = ⟨(printL l).toArray⟩) := by show _ = _; unfold printB; rw [hok]; rfl
  have hl64 := (of_decide_eq_true hok).2.1
  have hall := (of_decide_eq_true hok).2.2.2.1
  have HA := Lib.hid hall
  have CK := Lib.hid kinds_calls
  have HL := Lib.hid hl
  clear hl hok hall
  obtain ⟨n, hnn⟩ : ∃ n, n = l.length := ⟨_, rfl⟩
  have HN := Lib.hid hnn
  rw [← hnn] at HL hl64 ⊢
  clear hnn
  go_enter Tryd.func32, Tryd.ntmps32
  go_wp2_with fail
  go_loopw [3, 4] (fun s i wr => RpAt w l s i wr) (fun _ i _ => n - (intOf i).toNat)
  case atStart => exact ⟨0, ⟨#[]⟩, Nat.zero_le _, rfl, rfl, rfl, Below.refl _ _⟩
  case round =>
    obtain ⟨k, S, hk, rfl, rfl, HS, hbw⟩ := hrel
    rw [← HN.out] at hk
    by_cases hlt : k < n
    · obtain ⟨x, hx⟩ : ∃ x, l[k]? = some x := ⟨_, List.getElem?_eq_getElem (by rw [← HN.out]; exact hlt)⟩
      obtain ⟨q0, q1⟩ := pcells_at l k x hx
      have hlw := HL.out.below hbw
      obtain ⟨bl, off, rfl, _, c0, c1⟩ := hlw.at2 hlt q0 q1
      have hax := HA.out x (List.mem_of_getElem? hx)
      have hlen := printL_length (l.take k) fun p hp => (HA.out p (List.mem_of_mem_take hp)).1
      have hlk : (l.take k).length ≤ k := List.length_take_le _ _
      have hSs : S.size ≤ 1664 := by rw [size_list, HS.out]; omega
      have HR := Lib.hid fun wr hb T hT => @rp_next w l wr k x S hx HS.out hb T hT
      obtain ⟨xn, xk⟩ := x
      simp only at c0 c1 hax
      have hnl := (name_ok hax.1).2.1
      have hxs : xn.size ≤ 16 := by rw [size_list]; exact hnl
      have hk0 : 0 ≤ xk := hax.2.1
      have hk2 : xk ≤ 2 := hax.2.2
      have hk3 : xk < 3 := by omega
      have hks : (kindW xk).size ≤ 8 := by rw [size_list]; exact (kindW_no xk).2
      have hbd : Below w.heap.size w wr.drew := hbw.trans ⟨rfl, rfl, rfl, Nat.le_refl _, fun _ _ => rfl⟩
      have HW : Hid (lineOf (xn, xk) = xn.data.toList ++ 9 :: (kindW xk).data.toList) := rfl
      clear hlen hlk q0 q1 hlw hx hnl hbw hax HS
      obtain ⟨kw, hkw⟩ : ∃ kw, kindW xk = kw := ⟨_, rfl⟩
      have HKW := Lib.hid hkw
      rw [hkw] at hks HW
      clear hkw
      go_wp2_with fail
      go_region_with (go_at_call 50; refine (CK.out _).mono ?_; rintro e w3 ⟨g, rfl, zz, hb3⟩; have c0' := cell_later hb3 c0; have c1' := cell_later hb3 c1; have z0 := zz xk hk0 hk2; rw [HKW.out] at z0; have hbw3 := qtrans hbd hb3; clear hb3 zz)
      all_goals
        go_wp2_with fail
        go_roundw
        (case rel => exact HR.out _ hbw3 _ (by rw [HW.out]; simp))
        (case measure => simp [intOf]; omega)
    · have HT : Hid (l.take k = l) := by
        show _ = _
        exact List.take_of_length_le (by rw [← HN.out]; omega)
      go_wp2_with fail
      go_ret
      rw [HX.out]
      refine ⟨ret_bs ?_, hbw⟩
      have := HS.out
      rw [HT.out] at this
      rw [← this]
end Go.Proofs.YtoihfmjnonanjaaDoor
