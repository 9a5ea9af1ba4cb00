/- What coding.PutText, pos.Encode and henkanref15.Encode compute. -/
import Derived.Test.YtoihfmjnonanjaaDoorPosV
namespace Go.Proofs.YtoihfmjnonanjaaDoor
open Go.RowKit Go.Lib Go.Shelf Hk
set_option linter.unusedSimpArgs false
set_option linter.unusedVariables false
set_option maxRecDepth 100000

set_option maxHeartbeats 1000000 in
theorem putText_calls (v : Value) (bs : List UInt8) (base : Nat) (s : ByteArray) (w : World) (h : w.ownsRow base 5 1 v bs.length (byteCells bs)) (hn : bs.length ≤ 1048000) (hs : s.size ≤ 1048576) :
    Calls Tryd.prog 42 #[v, .string s] w (NewU8 (bs ++ textL s.data.toList) w) := by
  obtain ⟨i0, hi, hz0, hz1, hz2⟩ := info_parts Tryd.info5
  have hls := size_list s
  have hul := (uintL_len s.size).2
  have CU := Lib.hid (putUint_calls v bs base s.size w h (by omega) (by omega))
  have HT : Hid (bs ++ textL s.data.toList = (bs ++ uintL s.size) ++ s.data.toList) := by show _ = _; unfold textL; rw [hls, List.append_assoc]
  have hel : (bs ++ uintL s.size).length ≤ 1048010 := by rw [List.length_append]; omega
  clear hls h hul
  generalize bs ++ uintL s.size = U at *
  go_enter Tryd.func42, Tryd.ntmps42
  go_wp2_with fail
  refine CU.out.mono ?_
  rintro e w1 ⟨v, rfl, hown, hb1⟩
  have hbs := hb1.size
  go_wp2_with (at_builtin; refine wpList_append_own_string _ rfl _ _ 29 9 rfl w.heap.size 5 i0 Tryd.underlying29 Tryd.underlying9 hi hz0 hz1 hz2 _ _ _ rfl hown s rfl (by unfold maxLen; omega) (by omega) hbs ?_)
  intro v' w2 hown2 hg2 _
  have hb2 : Below w.heap.size w w2 := hb1.grown hg2 hbs fun k hk => (hown.lt k hk).1
  clear hg2 hown hb1
  go_wp2_with fail
  go_ret
  refine ⟨_, rfl, ?_, hb2⟩
  rw [HT.out, List.length_append, Lib.byteCells_append]
  rw [size_list, strCells_eq] at hown2
  exact hown2

/-- The code of a list, k elements on. -/
def encK (l : List P2) (k : Nat) : List UInt8 := uintL l.length ++ (l.take k).flatMap elL
theorem encK_zero (l : List P2) : encK l 0 = uintL l.length := by simp [encK]
theorem encK_all (l : List P2) (k : Nat) (h : l.length ≤ k) : encK l k = encL l := by unfold encK encL; rw [List.take_of_length_le h]
theorem encK_next (l : List P2) (k : Nat) (n : ByteArray) (m : Nat) (h : l[k]? = some (n, (m : Int))) : encK l (k + 1) = (encK l k ++ textL n.data.toList) ++ uintL m := by
  unfold encK
  rw [take_snoc_list l k _ h, List.flatMap_append, List.flatMap_cons, List.flatMap_nil, List.append_nil, elL, Int.toNat_natCast]
  simp
theorem elL_len (p : P2) (h : nameD p.1 = true) : (elL p).length ≤ 36 := by
  have h1 := (name_ok h).2.1
  have h2 := (uintL_len p.1.data.toList.length).2
  have h3 := (uintL_len p.2.toNat).2
  unfold elL textL
  simp only [List.length_append]
  omega
theorem flat_len : ∀ (l : List P2), (∀ p ∈ l, nameD p.1 = true) → (l.flatMap elL).length ≤ l.length * 36
  | [], _ => Nat.le_refl _
  | p :: l, h => by
    have ih := flat_len l fun q hq => h q (List.mem_cons_of_mem _ hq)
    have := elL_len p (h p List.mem_cons_self)
    rw [List.flatMap_cons, List.length_append, List.length_cons]
    omega
theorem encK_len (l : List P2) (k : Nat) (h : ∀ p ∈ l, nameD p.1 = true) (hl : l.length ≤ 64) : (encK l k).length ≤ 4096 := by
  have h1 := flat_len (l.take k) fun p hp => h p (List.mem_of_mem_take hp)
  have h2 := (uintL_len l.length).2
  have h3 : (l.take k).length ≤ 64 := by rw [List.length_take]; omega
  unfold encK
  rw [List.length_append]
  omega
def EnAt (w : World) (l : List P2) (v i : Value) (wr : World) : Prop :=
  ∃ k : Nat, k ≤ l.length ∧ i = .int .i64 (k : Int) ∧ wr.ownsRow w.heap.size 5 1 v (encK l k).length (byteCells (encK l k)) ∧ Below w.heap.size w wr

set_option maxHeartbeats 4000000 in
theorem refEncode_calls (A : Option Addr) (cap : Nat) (l : List P2) (w : World) (hl : Lies w w.heap.size 2 A l.length (pcells l)) (hok : okB l = true) :
    Calls Tryd.prog 33 #[.slice A l.length cap] w (NewU8 (encL l) w) := by
  obtain ⟨i0, hi, hz0, hz1, hz2⟩ := info_parts Tryd.info5
  have hl64 := (of_decide_eq_true hok).2.1
  have hall := (of_decide_eq_true hok).2.2.2.1
  have HA := Lib.hid hall
  have HEL := Lib.hid fun k => encK_len l k (fun p hp => (hall p hp).1) hl64
  have CU := Lib.hid fun (n : Nat) (W : World) (hn : n < 18446744073709551616) => refUint_calls n W hn
  have CT := Lib.hid fun (s : ByteArray) (W : World) (hs : s.size ≤ 1048576) => refText_calls s W hs
  have HL := Lib.hid hl
  clear hl hok hall
  obtain ⟨n, hnn⟩ : ∃ n, n = l.length := ⟨_, rfl⟩
  have HN := Lib.hid hnn
  rw [← hnn] at HL hl64 ⊢
  clear hnn
  go_enter Tryd.func33, Tryd.ntmps33
  go_wp2_with fail
  refine (CU.out n _ (by omega)).mono ?_
  rintro e w1 ⟨v1, rfl, ho1, hb1⟩
  go_wp2_with fail
  go_loopw [3, 4] (fun v i wr => EnAt w l v i wr) (fun _ i _ => n - (intOf i).toNat)
  case atStart => exact ⟨0, Nat.zero_le _, rfl, by rw [encK_zero, ← HN.out]; exact ho1, hb1⟩
  case round =>
    obtain ⟨k, hk, rfl, hown, hbw⟩ := hrel
    rw [← HN.out] at hk
    clear ho1 hb1
    by_cases hlt : k < n
    · obtain ⟨x, hx⟩ : ∃ x, l[k]? = some x := ⟨_, List.getElem?_eq_getElem (by rw [← HN.out]; exact hlt)⟩
      obtain ⟨q0, q1⟩ := pcells_at l k x hx
      have hlw := HL.out.below hbw
      obtain ⟨bl, off, rfl, hbl, c0, c1⟩ := hlw.at2 hlt q0 q1
      have hax := HA.out x (List.mem_of_getElem? hx)
      obtain ⟨xn, xk⟩ := x
      simp only at c0 c1 hax
      obtain ⟨m, rfl⟩ : ∃ m : Nat, xk = (m : Int) := ⟨xk.toNat, by omega⟩
      have hnl := (name_ok hax.1).2.1
      have hm : m ≤ 2 := by omega
      have HX := Lib.hid (encK_next l k xn m hx)
      have hel := HEL.out (k + 1)
      rw [HX.out, List.length_append, List.length_append] at hel
      clear q0 q1 hlw hx
      have C1 := Lib.hid fun W => CT.out xn W (by rw [size_list]; omega)
      have C2 := Lib.hid fun W => CU.out m W (by omega)
      generalize encK l k = E at *
      generalize textL xn.data.toList = T at *
      generalize uintL m = U at *
      go_wp2_with fail
      refine (C1.out _).mono ?_
      rintro e w2 ⟨v2, rfl, ho2, hb2⟩
      obtain ⟨A2, k2, rfl, _, _, l2⟩ := own_lies ho2
      have hown2 := owns_below hown hb2
      have hbw2 := qtrans hbw hb2
      have c1' := cell_later hb2 c1
      have hT : ∀ u ∈ byteCells T, u.oneCell' = true := by
        intro u hu
        simp only [byteCells, List.mem_map] at hu
        obtain ⟨c, _, rfl⟩ := hu
        rfl
      have hU : ∀ u ∈ byteCells U, u.oneCell' = true := by
        intro u hu
        simp only [byteCells, List.mem_map] at hu
        obtain ⟨c, _, rfl⟩ := hu
        rfl
      have HT := Lib.hid hT
      have HU := Lib.hid hU
      clear hb2 ho2 hown hbw c0 c1 hT hU
      go_wp2_with (at_builtin; refine wpList_append_lies _ rfl _ _ 29 rfl w.heap.size 5 i0 (.int .u8 0) 1 1 Tryd.underlying29 hi hz0 hz1 hz2 rfl (by omega) _ _ _ rfl hown2 w2.heap.size A2 T.length k2 (byteCells T) rfl l2 HT.out ?l1 ?l2 ?l3 ?_)
      case l1 => unfold maxLen; omega
      case l2 => omega
      case l3 => exact hbw2.size
      intro v3 w3 ho3 hg3
      have hb3 : Below w.heap.size w w3 := hbw2.grown hg3 hbw2.size fun k hk => (hown2.lt k hk).1
      have c1'' : w3.cell? ⟨bl, off + k * 2 + 1, none⟩ = some (.int .i64 (m : Int)) := by
        rw [World.cell?_of_block (a := ⟨bl, off + k * 2 + 1, none⟩) (hg3.block bl (Nat.lt_of_lt_of_le hbl hbw2.size) (fun e => by have := (hown2.lt _ e.symm).1; omega))]
        exact c1'
      clear hg3 l2 hown2 hbw2 c1'
      go_wp2_with fail
      refine (C2.out _).mono ?_
      rintro e w4 ⟨v4, rfl, ho4, hb4⟩
      obtain ⟨A4, k4, rfl, _, _, l4⟩ := own_lies ho4
      have hown4 := owns_below ho3 hb4
      have hbw4 := qtrans hb3 hb4
      clear hb4 ho4 hb3 ho3 c1''
      go_wp2_with (at_builtin; refine wpList_append_lies _ rfl _ _ 29 rfl w.heap.size 5 i0 (.int .u8 0) 1 1 Tryd.underlying29 hi hz0 hz1 hz2 rfl (by omega) _ _ _ rfl hown4 w4.heap.size A4 U.length k4 (byteCells U) rfl l4 HU.out ?l1 ?l2 ?l3 ?_)
      case l1 => unfold maxLen; omega
      case l2 => omega
      case l3 => exact hbw4.size
      intro v5 w5 ho5 hg5
      have hb5 : Below w.heap.size w w5 := hbw4.grown hg5 hbw4.size fun k hk => (hown4.lt k hk).1
      have H5 := Lib.hid ho5
      clear hg5 l4 hown4 hbw4 ho5
      go_wp2_with fail
      go_roundw
      case rel => exact ⟨k + 1, by rw [← HN.out]; omega, by go_num, by rw [HX.out, Lib.byteCells_append, Lib.byteCells_append, List.length_append, List.length_append, List.append_assoc]; exact H5.out, hb5⟩
      case measure => simp [intOf]; omega
    · have HT := Lib.hid (encK_all l k (by rw [← HN.out]; omega))
      go_wp2_with fail
      go_ret
      refine ⟨_, rfl, ?_, hbw⟩
      rw [HT.out] at hown
      exact hown
end Go.Proofs.YtoihfmjnonanjaaDoor
