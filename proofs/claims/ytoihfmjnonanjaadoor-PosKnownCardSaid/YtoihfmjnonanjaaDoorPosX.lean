/- What pos.Encode computes. -/
import Derived.Test.YtoihfmjnonanjaaDoorPosW
import Derived.IntWalk
namespace Go.Proofs.YtoihfmjnonanjaaDoor
open Go.RowKit Go.Lib Go.Shelf Hk
set_option linter.unusedSimpArgs false
set_option linter.unusedVariables false
set_option maxRecDepth 100000

/-- What Encode returns. -/
def encB (l : List P2) : List UInt8 := if okB l = true then encL l else []
def EncPost (l : List P2) (w : World) (e : Ending) (w' : World) : Prop := ∃ v, e = .returned (.tuple #[v, .int .i64 (checkI l)]) ∧ w'.ownsRow w.heap.size 5 1 v (encB l).length (byteCells (encB l)) ∧ Below w.heap.size w w'

set_option maxHeartbeats 8000000 in
theorem encode_calls (A : Option Addr) (cap : Nat) (l : List P2) (w : World) (hl : Lies w w.heap.size 2 A l.length (pcells l)) (hn : l.length ≤ maxLen) :
    Calls Tryd.prog 17 #[.slice A l.length cap] w (EncPost l w) := by
  have CC := Lib.hid (check_calls A cap l w hl hn)
  cases hok : okB l with
  | false =>
    have HX : Hid (encB l = []) := by show _ = _; unfold encB; rw [hok]; rfl
    have h5 := checkI_no hok
    unfold EncPost
    rw [h5] at CC ⊢
    clear hl hok h5 hn
    generalize l.length = n at *
    go_enter Tryd.func17, Tryd.ntmps17
    go_wp2_with fail
    refine CC.out.mono ?_
    rintro e w1 ⟨rfl, hb1⟩
    go_wp2_with fail
    go_ret2
    rw [HX.out]
    exact ⟨_, rfl, World.ownsRow_nil _ _ _ _, hb1⟩
  | true =>
    have HX : Hid (encB l = encL l) := by show _ = _; unfold encB; rw [if_pos hok]
    have h5 := checkI_yes hok
    have hl64 := (of_decide_eq_true hok).2.1
    have hall := (of_decide_eq_true hok).2.2.2.1
    have HA := Lib.hid hall
    have HEL := Lib.hid fun k => encK_len l k (fun p hp => (hall p hp).1) hl64
    unfold EncPost
    rw [h5] at CC ⊢
    have CU := Lib.hid fun (v : Value) (bs : List UInt8) (base n : Nat) (W : World) (h : W.ownsRow base 5 1 v bs.length (byteCells bs)) (hb : bs.length ≤ 1048576) (hn : n < 18446744073709551616) => putUint_calls v bs base n W h hb hn
    have CT := Lib.hid fun (v : Value) (bs : List UInt8) (base : Nat) (s : ByteArray) (W : World) (h : W.ownsRow base 5 1 v bs.length (byteCells bs)) (hb : bs.length ≤ 1048000) (hs : s.size ≤ 1048576) => putText_calls v bs base s W h hb hs
    have HL := Lib.hid hl
    clear hl hok hall hn h5
    obtain ⟨n, hnn⟩ : ∃ n, n = l.length := ⟨_, rfl⟩
    have HN := Lib.hid hnn
    rw [← hnn] at HL hl64 CC ⊢
    clear hnn
    have CU0 := Lib.hid fun W => CU.out (.slice none 0 0) [] 0 n W (World.ownsRow_nil _ _ _ _) (by decide) (by omega)
    simp only [List.nil_append] at CU0
    go_enter Tryd.func17, Tryd.ntmps17
    go_wp2_with fail
    refine CC.out.mono ?_
    rintro e w1 ⟨rfl, hb1⟩
    go_wp2_with fail
    refine (CU0.out _).mono ?_
    rintro e w2 ⟨v2, rfl, ho2, hb2⟩
    have ho2' := ho2.mono hb1.size
    replace hb2 := qtrans hb1 hb2
    have HO := Lib.hid ho2'
    clear hb1 CC CU0 ho2 ho2'
    go_wp2_with fail
    go_loopw [5, 19] (fun v i wr => EnAt w l v i wr) (fun _ i _ => n - (intOf i).toNat)
    case atStart => exact ⟨0, Nat.zero_le _, rfl, by rw [encK_zero, ← HN.out]; exact HO.out, hb2⟩
    case round =>
      obtain ⟨k, hk, rfl, hown, hbw⟩ := hrel
      rw [← HN.out] at hk
      clear HO hb2
      by_cases hlt : k < n
      · obtain ⟨x, hx⟩ : ∃ x, l[k]? = some x := ⟨_, List.getElem?_eq_getElem (by rw [← HN.out]; exact hlt)⟩
        obtain ⟨q0, q1⟩ := pcells_at l k x hx
        have hlw := HL.out.below hbw
        obtain ⟨bl, off, rfl, hbl, c0, c1⟩ := hlw.at2 hlt q0 q1
        have hax := HA.out x (List.mem_of_getElem? hx)
        obtain ⟨xn, xk⟩ := x
        simp only at c0 c1 hax
        obtain ⟨m, rfl⟩ : ∃ m : Nat, xk = (m : Int) := ⟨xk.toNat, by omega⟩
        have hnl := (name_ok hax.1).2.1
        have hm : m ≤ 2 := by omega
        have HX2 := Lib.hid (encK_next l k xn m hx)
        have hel := HEL.out (k + 1)
        rw [HX2.out, List.length_append, List.length_append] at hel
        have hb1 : Below wr.heap.size wr (wr.alloc (.cells #[.string xn, .int .i64 (m : Int)] 33)).drew := ((Below.refl _ _).alloc (Nat.le_refl _) _).trans ⟨rfl, rfl, rfl, Nat.le_refl _, fun _ _ => rfl⟩
        have hown1 := owns_below hown hb1
        have hbw1 := qtrans hbw hb1
        have e0 : (wr.alloc (.cells #[.string xn, .int .i64 (m : Int)] 33)).drew.cell? ⟨wr.heap.size, 0, none⟩ = some (.string xn) := by simp
        have e1 : (wr.alloc (.cells #[.string xn, .int .i64 (m : Int)] 33)).drew.cell? ⟨wr.heap.size, 1, none⟩ = some (.int .i64 (m : Int)) := by simp
        have E1 := Lib.hid e1
        have C1 := Lib.hid (CT.out _ (encK l k) _ xn _ hown1 (by omega) (by rw [size_list]; omega))
        have C2 : Hid (∀ W v, W.ownsRow (wr.alloc (.cells #[.string xn, .int .i64 (m : Int)] 33)).drew.heap.size 5 1 v (encK l k ++ textL xn.data.toList).length (byteCells (encK l k ++ textL xn.data.toList)) → Below w.heap.size w W →
            Calls Tryd.prog 41 #[v, .int .u64 (m : Int)] W fun e W' => ∃ v', e = .returned v' ∧ EnAt w l v' (.int .i64 ((k : Int) + 1)) W') := by
          intro W v ho hbW
          refine (CU.out v _ _ m W ho (by rw [List.length_append]; omega) (by omega)).mono ?_
          rintro e W' ⟨v', rfl, ho', hb'⟩
          refine ⟨v', rfl, k + 1, by rw [← HN.out]; omega, by go_num, ?_, qtrans hbW hb'⟩
          rw [HX2.out]
          exact ho'.mono hbW.size
        clear q0 q1 hlw hx e0 e1 hown hbw hb1 hown1 hel HX2
        generalize encK l k ++ textL xn.data.toList = E at *
        have hwrap : IntKind.u64.wrap (m : Int) = (m : Int) := IntWalk.u64_in _ (by omega)
        go_wp2_with fail
        go_region_with (first
          | (go_at_call 42; (go_loud (with_reducible refine C1.out.mono ?_)); rintro e w3 ⟨v3, rfl, ho3, hb3⟩; have e1' := cell_later hb3 E1.out; have hbw3 := qtrans hbw1 hb3; clear hb3)
          | (go_at_call 41; (go_loud (with_reducible refine (C2.out _ _ ho3 hbw3).mono ?_)); rintro e w4 ⟨v4, rfl, hat⟩))
        all_goals
          clear C1 C2
          go_wp2_with fail
          go_roundw
          (case rel => exact hat)
          (case measure => simp [intOf]; omega)
      · have HT := Lib.hid (encK_all l k (by rw [← HN.out]; omega))
        go_wp2_with fail
        go_ret2
        refine ⟨_, rfl, ?_, hbw⟩
        rw [HT.out] at hown
        rw [HX.out]
        exact hown
end Go.Proofs.YtoihfmjnonanjaaDoor
