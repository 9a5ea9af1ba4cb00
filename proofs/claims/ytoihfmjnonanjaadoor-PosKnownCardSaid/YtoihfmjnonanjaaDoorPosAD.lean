/- What pos.Decode computes. -/
import Derived.Test.YtoihfmjnonanjaaDoorPosAC
namespace Go.Proofs.YtoihfmjnonanjaaDoor
open Go.RowKit Go.Lib Go.Shelf Hk
set_option linter.unusedSimpArgs false
set_option linter.unusedVariables false
set_option maxRecDepth 100000

/-- What Decode returns. -/
def decR (bs : List UInt8) : List P2 := (decL bs).getD []
def decE (bs : List UInt8) : Int := if (decL bs).isSome = true then 0 else 5
theorem decR_none {bs : List UInt8} (h : decL bs = none) : decR bs = [] := by unfold decR; rw [h]; rfl
theorem decE_none {bs : List UInt8} (h : decL bs = none) : decE bs = 5 := by unfold decE; rw [h]; rfl
theorem decR_some {bs : List UInt8} {r : List P2} (h : decL bs = some r) : decR bs = r := by unfold decR; rw [h]; rfl
theorem decE_some {bs : List UInt8} {r : List P2} (h : decL bs = some r) : decE bs = 0 := by unfold decE; rw [h]; rfl
def DecPost (bs : List UInt8) (w : World) (e : Ending) (w' : World) : Prop :=
  ∃ v, e = .returned (.tuple #[v, .int .i64 (decE bs)]) ∧ w'.ownsRow w.heap.size 33 2 v (decR bs).length (pcells (decR bs)) ∧ Below w.heap.size w w'
theorem dec_err {bs : List UInt8} {w w' : World} (h : decL bs = none) (hb : Below w.heap.size w w') : DecPost bs w (.returned (.tuple #[.slice none 0 0, .int .i64 5])) w' := by
  refine ⟨.slice none 0 0, ?_, ?_, hb⟩
  · rw [decE_none h]
  · rw [decR_none h]
    exact World.ownsRow_nil _ _ _ _
theorem dec_ok {bs : List UInt8} {r : List P2} {w w' : World} {v : Value} (h : decL bs = some r) (ho : w'.ownsRow w.heap.size 33 2 v r.length (pcells r)) (hb : Below w.heap.size w w') : DecPost bs w (.returned (.tuple #[v, .int .i64 0])) w' := by
  refine ⟨v, ?_, ?_, hb⟩
  · rw [decE_some h]
  · rw [decR_some h]
    exact ho
theorem de_more {m k q : Nat} {acc : List P2} {bs : List UInt8} (hk : k < m) (h : decL bs = decI (m - k) acc (bs.drop q)) : ∃ j, j = m - (k + 1) ∧ decL bs = decI (j + 1) acc (bs.drop q) := ⟨m - (k + 1), rfl, by rw [h, show m - k = m - (k + 1) + 1 by omega]⟩
/-- The loop of Decode: k elements have come. -/
def DeAt (bs : List UInt8) (n : Nat) (w : World) (p v i : Value) (wr : World) : Prop :=
  ∃ (k q : Nat) (acc : List P2), k ≤ n ∧ acc.length = k ∧ q ≤ bs.length ∧ p = .int .i64 (q : Int) ∧ i = .int .u64 (k : Int) ∧ Hid (decL bs = decI (n - k) acc (bs.drop q)) ∧ wr.ownsRow w.heap.size 33 2 v k (pcells acc) ∧ Below w.heap.size w wr

set_option maxHeartbeats 8000000 in
theorem decode_calls (A : Option Addr) (n cap : Nat) (bs : List UInt8) (w : World) (hl : Lies w w.heap.size 1 A n (byteCells bs)) (hn : n = bs.length) (hc : n ≤ cap) (hcm : cap ≤ maxLen) :
    Calls Tryd.prog 18 #[.slice A n cap] w (DecPost bs w) := by
  obtain ⟨i0, hi, hz0, hz1, hz2⟩ := info_parts Tryd.info33
  have hcm2 := hcm
  unfold maxLen at hcm2
  have CU := Lib.hid fun (p : Nat) (W : World) (hb : Below w.heap.size w W) (hp : p ≤ 9223372036854775807) => uintC_calls A n cap bs p W ((hl.below hb).up hb.size) hn (by omega) hp
  have CT := Lib.hid fun (p : Nat) (W : World) (hb : Below w.heap.size w W) (hp : p ≤ 9223372036854775807) => textC_calls A n cap bs p W ((hl.below hb).up hb.size) hn hc hcm hp
  have C0 := Lib.hid (CU.out 0 w (Below.refl _ _) (by omega))
  have HN := Lib.hid hn
  clear hl hn hcm
  go_enter Tryd.func18, Tryd.ntmps18
  go_wp2_with fail
  refine C0.out.mono ?_
  rintro e w1 ⟨rfl, hb1⟩
  rw [List.drop_zero]
  rcases h0 : rdU 0 bs with _ | ⟨m, c⟩
  · have HX := Lib.hid (decL_none1 h0)
    clear CU CT C0 h0
    simp only [uRes]
    go_wp2_with fail
    go_ret2
    exact dec_err HX.out hb1
  · simp only [uRes]
    by_cases hm : 64 < m
    · have HX := Lib.hid (decL_none2 h0 hm)
      clear CU CT C0 h0
      go_wp2_with fail
      go_ret2
      exact dec_err HX.out hb1
    · have HX := Lib.hid (decL_go h0 hm)
      obtain ⟨_, _, hcl, _⟩ := rdU_take h0
      rw [Nat.zero_add]
      have HB1 := Lib.hid hb1
      clear C0 h0 hb1
      go_wp2_with fail
      go_loopw [5, 7, 27] (fun p v i wr => DeAt bs m w p v i wr) (fun _ _ i _ => m - (intOf i).toNat)
      case atStart => exact ⟨0, c, [], Nat.zero_le _, rfl, hcl, rfl, rfl, HX, World.ownsRow_nil _ _ _ _, HB1.out⟩
      case round =>
        obtain ⟨k, q, acc, hk, hal, hq, rfl, rfl, HD, hown, hbw⟩ := hrel
        have hqb : q ≤ 9223372036854775807 := by have := HN.out; omega
        by_cases hlt : k < m
        · obtain ⟨j, hj, hd⟩ := de_more hlt HD.out
          have HD1 := Lib.hid hd
          have HJ := Lib.hid hj
          have C1 := Lib.hid (CT.out q wr hbw hqb)
          clear HX HB1 HD hd hj
          rcases h1 : rdT (bs.drop q) with _ | ⟨s, c1⟩
          · have HE : Hid (decL bs = none) := by
              show _ = _
              rw [HD1.out]
              exact decI_none h1
            rw [h1] at C1
            clear HD1 h1
            go_wp2_with fail
            refine C1.out.mono ?_
            rintro e w2 ⟨rfl, hb2⟩
            have hbw2 := qtrans hbw hb2
            have C2 := Lib.hid (CU.out 0 w2 hbw2 (by omega))
            simp only [sRes]
            clear C1
            go_wp2_with fail
            refine C2.out.mono ?_
            rintro e w3 ⟨rfl, hb3⟩
            have hbw3 := qtrans hbw2 hb3
            clear C2 hb3 hbw hbw2
            rcases rdU 0 (bs.drop 0) with _ | ⟨x, y⟩
            all_goals
              simp only [uRes]
              go_wp2_with fail
              go_ret2
              exact dec_err HE.out hbw3
          · obtain ⟨ht1, ht2, _, _⟩ := rdT_spec h1
            rw [List.length_drop] at ht1
            rw [h1] at C1
            obtain ⟨p2, hp2⟩ : ∃ p2, p2 = q + c1 := ⟨_, rfl⟩
            have hp2b : p2 ≤ 9223372036854775807 := by have := HN.out; omega
            simp only [sRes] at C1
            rw [← hp2] at C1
            have hdd : (bs.drop q).drop c1 = bs.drop p2 := by rw [List.drop_drop, hp2]
            rcases h2 : rdU 0 (bs.drop p2) with _ | ⟨kd, d⟩
            · have HE : Hid (decL bs = none) := by
                show _ = _
                rw [HD1.out]
                exact decI_kind h1 (by rw [hdd]; exact h2)
              have C2 : Hid (∀ W, Below w.heap.size w W → Calls Tryd.prog 43 #[.slice A n cap, .int .i64 (p2 : Int)] W fun e w' => e = .returned (.tuple #[.int .u64 0, .int .i64 0, .bool false]) ∧ Below W.heap.size W w') := by
                intro W hW
                have := CU.out p2 W hW hp2b
                rw [h2] at this
                exact this
              clear HD1 h1 h2 hdd hp2 ht1 ht2 CU CT
              go_wp2_with fail
              refine C1.out.mono ?_
              rintro e w2 ⟨rfl, hb2⟩
              have hbw2 := qtrans hbw hb2
              clear C1
              go_wp2_with fail
              refine (C2.out w2 hbw2).mono ?_
              rintro e w3 ⟨rfl, hb3⟩
              have hbw3 := qtrans hbw2 hb3
              clear C2 hb3 hbw hbw2
              go_wp2_with fail
              go_ret2
              exact dec_err HE.out hbw3
            · obtain ⟨_, _, hu3, _⟩ := rdU_take h2
              rw [List.length_drop] at hu3
              obtain ⟨p3, hp3⟩ : ∃ p3, p3 = p2 + d := ⟨_, rfl⟩
              have hp3b : p3 ≤ bs.length := by omega
              have C2 : Hid (∀ W, Below w.heap.size w W → Calls Tryd.prog 43 #[.slice A n cap, .int .i64 (p2 : Int)] W fun e w' => e = .returned (.tuple #[.int .u64 (kd : Int), .int .i64 (p3 : Int), .bool true]) ∧ Below W.heap.size W w') := by
                intro W hW
                have := CU.out p2 W hW hp2b
                rw [h2] at this
                rw [hp3]
                exact this
              by_cases hkd : 2 < kd
              · have HE : Hid (decL bs = none) := by
                  show _ = _
                  rw [HD1.out]
                  exact decI_more h1 (by rw [hdd]; exact h2) hkd
                clear HD1 h1 h2 hdd hp2 hp3 ht1 ht2 CU CT
                go_wp2_with fail
                refine C1.out.mono ?_
                rintro e w2 ⟨rfl, hb2⟩
                have hbw2 := qtrans hbw hb2
                clear C1
                go_wp2_with fail
                refine (C2.out w2 hbw2).mono ?_
                rintro e w3 ⟨rfl, hb3⟩
                have hbw3 := qtrans hbw2 hb3
                clear C2 hb3 hbw hbw2
                go_wp2_with fail
                go_ret2
                exact dec_err HE.out hbw3
              · have HE : Hid (decL bs = decI (m - (k + 1)) (acc ++ [(⟨s.toArray⟩, (kd : Int))]) (bs.drop p3)) := by
                  show _ = _
                  rw [HD1.out, HJ.out, decI_next h1 (by rw [hdd]; exact h2) hkd, List.drop_drop, hp3, hp2, Nat.add_assoc]
                clear HD1 h1 h2 hdd hp2 hp3 ht1 ht2 CU CT HJ
                have hwrap : IntKind.i64.wrap (kd : Int) = (kd : Int) := IntWalk.i64_in _ (by omega)
                have hwk : IntKind.u64.wrap ((k : Int) + 1) = (k : Int) + 1 := IntWalk.u64_in _ (by omega)
                go_wp2_with fail
                refine C1.out.mono ?_
                rintro e w2 ⟨rfl, hb2⟩
                have hbw2 := qtrans hbw hb2
                have ho2 := owns_below hown hb2
                clear C1
                go_wp2_with fail
                refine (C2.out w2 hbw2).mono ?_
                rintro e w3 ⟨rfl, hb3⟩
                have hbw3 := qtrans hbw2 hb3
                have ho3 := owns_below ho2 hb3
                clear C2 hb3 hbw hbw2 hb2 ho2 hown
                have hpc : pcells (acc ++ [((⟨s.toArray⟩ : ByteArray), (kd : Int))]) = pcells acc ++ [.string ⟨s.toArray⟩, .int .i64 (kd : Int)] := pcells_one _ _
                have HPC := Lib.hid hpc
                have hl24 : (k + 1) * 24 ≤ 140737488355328 := by omega
                clear hpc
                go_wp2_with (at_builtin; refine wpList_append_own _ rfl _ _ 24 rfl w.heap.size 33 i0 (.agg #[.string ⟨#[]⟩, .int .i64 0]) 2 24 Tryd.underlying24 hi hz0 hz1 hz2 rfl (by decide) _ _ _ rfl (ho3.alloc _) ⟨w3.heap.size, 0, none⟩ 1 1 [.string ⟨s.toArray⟩, .int .i64 (kd : Int)] rfl rfl ?c1 ?c2 ?c3 ?c4 ?c5 ?_)
                case c1 => exact cells_new w3 [.string ⟨s.toArray⟩, .int .i64 (kd : Int)] 33
                case c2 => intro u hu; simp at hu; rcases hu with rfl | rfl <;> rfl
                case c3 => unfold maxLen; omega
                case c4 => exact hl24
                case c5 => have := hbw3.size; simp at this ⊢; omega
                intro v' w4 hown4 hgrow4 _
                have hbw4 := below_append hbw3 _ ho3 hgrow4
                clear hgrow4 ho3 hbw3
                go_wp2_with fail
                go_roundw
                case rel => exact ⟨k + 1, p3, _, by omega, by rw [List.length_append, hal]; rfl, hp3b, rfl, by go_num, HE, by rw [HPC.out]; exact hown4, hbw4⟩
                case measure => simp [intOf]; omega
        · obtain rfl : k = m := by omega
          have hd := HD.out
          rw [Nat.sub_self, decI] at hd
          have HD1 := Lib.hid hd
          clear HX HB1 HD CU CT hd
          by_cases hqn : q = n
          · have q1 : ((q : Int) != (n : Int)) = false := by simp [hqn]
            have CC := Lib.hid fun A' cap' (W : World) (h : Lies W W.heap.size 2 A' acc.length (pcells acc)) => check_calls A' cap' acc W h (by unfold maxLen; omega)
            rw [hal] at CC
            obtain ⟨A', c', rfl, _, _⟩ := own_slice hown
            have C1 := Lib.hid (CC.out A' c' wr (Lies.of_own hown))
            have hlen : (bs.drop q).length = 0 := by rw [List.length_drop, ← HN.out]; omega
            clear CC
            cases hok : okB acc with
            | false =>
              have HE : Hid (decL bs = none) := by
                show _ = _
                rw [HD1.out, hok, if_neg (by simp)]
              rw [checkI_no hok] at C1
              clear HD1 hlen hok
              go_wp2_with fail
              refine C1.out.mono ?_
              rintro e w2 ⟨rfl, hb2⟩
              have hbw2 := qtrans hbw hb2
              clear C1
              go_wp2_with fail
              go_ret2
              exact dec_err HE.out hbw2
            | true =>
              have HE : Hid (decL bs = some acc) := by
                show _ = _
                rw [HD1.out, hok, if_pos ⟨hlen, rfl⟩]
              rw [checkI_yes hok] at C1
              clear HD1 hlen hok
              go_wp2_with fail
              refine C1.out.mono ?_
              rintro e w2 ⟨rfl, hb2⟩
              have hbw2 := qtrans hbw hb2
              have ho2 := owns_below hown hb2
              clear C1
              go_wp2_with fail
              go_ret2
              exact dec_ok HE.out (by rw [hal]; exact ho2) hbw2
          · have HE : Hid (decL bs = none) := by
              show _ = _
              rw [HD1.out, if_neg]
              rw [List.length_drop, ← HN.out]
              have := HN.out
              omega
            have q1 : ((q : Int) != (n : Int)) = true := by rw [bne_iff_ne]; omega
            clear HD1
            go_wp2_with fail
            go_ret2
            exact dec_err HE.out hbw
end Go.Proofs.YtoihfmjnonanjaaDoor
