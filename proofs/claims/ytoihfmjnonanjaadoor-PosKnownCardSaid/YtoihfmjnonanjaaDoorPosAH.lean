/- What Decode of henkanref15 computes. -/
import Derived.Test.YtoihfmjnonanjaaDoorPosAG
namespace Go.Proofs.YtoihfmjnonanjaaDoor
open Go.RowKit Go.Lib Go.Shelf Hk
set_option linter.unusedSimpArgs false
set_option linter.unusedVariables false
set_option maxRecDepth 100000

/-- What Decode of the reference returns. -/
def RDecPost (bs : List UInt8) (w : World) (e : Ending) (w' : World) : Prop :=
  ∃ v acc b, e = .returned (.tuple #[v, .bool b]) ∧ decL bs = (if b = true then some acc else none) ∧ w'.ownsRow w.heap.size 86 2 v acc.length (pcells acc) ∧ Below w.heap.size w w'
theorem rdec_err {bs : List UInt8} {w w' : World} (h : decL bs = none) (hb : Below w.heap.size w w') : RDecPost bs w (.returned (.tuple #[.slice none 0 0, .bool false])) w' :=
  ⟨_, [], false, rfl, h, World.ownsRow_nil _ _ _ _, hb⟩
def RDeAt (bs : List UInt8) (n : Nat) (w : World) (p v i : Value) (wr : World) : Prop :=
  ∃ (k q : Nat) (acc : List P2), k ≤ n ∧ acc.length = k ∧ q ≤ bs.length ∧ p = .int .i64 (q : Int) ∧ i = .int .i64 (k : Int) ∧ Hid (decL bs = decI (n - k) acc (bs.drop q)) ∧ Hid (∀ c ∈ acc, c.1.size ≤ bs.length) ∧ wr.ownsRow w.heap.size 86 2 v k (pcells acc) ∧ Below w.heap.size w wr

set_option maxHeartbeats 8000000 in
theorem refDecode_calls (A : Option Addr) (n cap : Nat) (bs : List UInt8) (B : Nat) (w : World) (hl : Lies w B 1 A n (byteCells bs)) (hB : B ≤ w.heap.size) (hn : n = bs.length) (hc : n ≤ cap) (hcm : cap ≤ maxLen) :
    Calls Tryd.prog 34 #[.slice A n cap] w (RDecPost bs w) := by
  obtain ⟨i0, hi, hz0, hz1, hz2⟩ := info_parts Tryd.info86
  have hcm2 := hcm
  unfold maxLen at hcm2
  have hlw := hl.up hB
  have CU := Lib.hid fun (p : Nat) (W : World) (hb : Below w.heap.size w W) (hp : p ≤ n) => readUint_calls A n cap bs p _ W (hlw.below hb) hb.size hn hp (by omega)
  have CT := Lib.hid fun (p : Nat) (W : World) (hb : Below w.heap.size w W) (hp : p ≤ n) => readText_calls A n cap bs p _ W (hlw.below hb) hb.size hn hp hc hcm
  have C0 := Lib.hid (CU.out 0 w (Below.refl _ _) (by omega))
  have HN := Lib.hid hn
  clear hl hlw hn hcm
  go_enter Tryd.func34, Tryd.ntmps34
  go_wp2_with fail
  refine C0.out.mono ?_
  rintro e w1 ⟨rfl, hb1⟩
  rw [List.drop_zero]
  rcases h0 : rdU 0 bs with _ | ⟨m, c⟩
  · have HX := Lib.hid (decL_none1 h0)
    clear CU CT C0 h0
    simp only [uRes]
    go_wp2_with fail
    go_ret2
    exact rdec_err HX.out hb1
  · simp only [uRes]
    by_cases hm : 64 < m
    · have HX := Lib.hid (decL_none2 h0 hm)
      clear CU CT C0 h0
      go_wp2_with fail
      go_ret2
      exact rdec_err HX.out hb1
    · have HX := Lib.hid (decL_go h0 hm)
      obtain ⟨_, _, hcl, _⟩ := rdU_take h0
      rw [Nat.zero_add]
      have HB1 := Lib.hid hb1
      have hwm : IntKind.i64.wrap (m : Int) = (m : Int) := IntWalk.i64_in _ (by omega)
      clear C0 h0 hb1
      go_wp2_with fail
      go_loopw [5, 7, 8] (fun p v i wr => RDeAt bs m w p v i wr) (fun _ _ i _ => m - (intOf i).toNat)
      case atStart => exact ⟨0, c, [], Nat.zero_le _, rfl, hcl, rfl, rfl, HX, fun c h => by simp at h, World.ownsRow_nil _ _ _ _, HB1.out⟩
      case round =>
        obtain ⟨k, q, acc, hk, hal, hq, rfl, rfl, HD, HF, hown, hbw⟩ := hrel
        have hqb : q ≤ n := by have := HN.out; omega
        by_cases hlt : k < m
        · obtain ⟨j, hj, hd⟩ := de_more hlt HD.out
          have HD1 := Lib.hid hd
          have HJ := Lib.hid hj
          have C1 := Lib.hid (CT.out q wr hbw hqb)
          clear HX HB1 HD hd hj
          rcases h1 : rdT (bs.drop q) with _ | ⟨s, c1⟩
          · have HE : Hid (decL bs = none) := by
              show _ = _
              rw [HD1.out]
              exact decI_none h1
            rw [h1] at C1
            simp only [sRes] at C1
            clear HD1 h1
            go_wp2_with fail
            refine C1.out.mono ?_
            rintro e w2 ⟨rfl, hb2⟩
            have hbw2 := qtrans hbw hb2
            clear C1 CU CT
            go_wp2_with fail
            go_ret2
            exact rdec_err HE.out hbw2
          · obtain ⟨ht1, ht2, ht3, _⟩ := rdT_spec h1
            rw [List.length_drop] at ht1
            have hsl : s.length ≤ bs.length := by
              have := congrArg List.length ht3
              unfold textL at this
              rw [List.length_append, List.length_take, List.length_drop] at this
              omega
            rw [h1] at C1
            obtain ⟨p2, hp2⟩ : ∃ p2, p2 = q + c1 := ⟨_, rfl⟩
            have hp2b : p2 ≤ n := by have := HN.out; omega
            simp only [sRes] at C1
            rw [← hp2] at C1
            have hdd : (bs.drop q).drop c1 = bs.drop p2 := by rw [List.drop_drop, hp2]
            rcases h2 : rdU 0 (bs.drop p2) with _ | ⟨kd, d⟩
            · have HE : Hid (decL bs = none) := by
                show _ = _
                rw [HD1.out]
                exact decI_kind h1 (by rw [hdd]; exact h2)
              have C2 : Hid (∀ W, Below w.heap.size w W → Calls Tryd.prog 53 #[.slice A n cap, .int .i64 (p2 : Int)] W fun e w' => e = .returned (.tuple #[.int .u64 0, .int .i64 0, .bool false]) ∧ Below W.heap.size W w') := by
                intro W hW
                have := CU.out p2 W hW hp2b
                rw [h2] at this
                exact this
              clear HD1 h1 h2 hdd hp2 ht1 ht2 ht3 CU CT
              go_wp2_with fail
              refine C1.out.mono ?_
              rintro e w2 ⟨rfl, hb2⟩
              have hbw2 := qtrans hbw hb2
              clear C1
              go_wp2_with fail
              refine (C2.out w2 hbw2).mono ?_
              rintro e w3 ⟨rfl, hb3⟩
              have hbw3 := qtrans hbw2 hb3
              clear C2 hb3 hbw hbw2
              go_wp2_with fail
              go_ret2
              exact rdec_err HE.out hbw3
            · obtain ⟨_, _, hu3, _⟩ := rdU_take h2
              rw [List.length_drop] at hu3
              obtain ⟨p3, hp3⟩ : ∃ p3, p3 = p2 + d := ⟨_, rfl⟩
              have hp3b : p3 ≤ bs.length := by have := HN.out; omega
              have C2 : Hid (∀ W, Below w.heap.size w W → Calls Tryd.prog 53 #[.slice A n cap, .int .i64 (p2 : Int)] W fun e w' => e = .returned (.tuple #[.int .u64 (kd : Int), .int .i64 (p3 : Int), .bool true]) ∧ Below W.heap.size W w') := by
                intro W hW
                have := CU.out p2 W hW hp2b
                rw [h2] at this
                rw [hp3]
                exact this
              by_cases hkd : 2 < kd
              · have HE : Hid (decL bs = none) := by
                  show _ = _
                  rw [HD1.out]
                  exact decI_more h1 (by rw [hdd]; exact h2) hkd
                clear HD1 h1 h2 hdd hp2 hp3 ht1 ht2 ht3 CU CT
                go_wp2_with fail
                refine C1.out.mono ?_
                rintro e w2 ⟨rfl, hb2⟩
                have hbw2 := qtrans hbw hb2
                clear C1
                go_wp2_with fail
                refine (C2.out w2 hbw2).mono ?_
                rintro e w3 ⟨rfl, hb3⟩
                have hbw3 := qtrans hbw2 hb3
                clear C2 hb3 hbw hbw2
                go_wp2_with fail
                go_ret2
                exact rdec_err HE.out hbw3
              · have HE : Hid (decL bs = decI (m - (k + 1)) (acc ++ [(⟨s.toArray⟩, (kd : Int))]) (bs.drop p3)) := by
                  show _ = _
                  rw [HD1.out, HJ.out, decI_next h1 (by rw [hdd]; exact h2) hkd, List.drop_drop, hp3, hp2, Nat.add_assoc]
                have HF2 : Hid (∀ c ∈ acc ++ [((⟨s.toArray⟩ : ByteArray), (kd : Int))], c.1.size ≤ bs.length) := by
                  intro c hc
                  rw [List.mem_append, List.mem_singleton] at hc
                  rcases hc with h | rfl
                  · exact HF.out c h
                  · exact hsl
                clear HD1 h1 h2 hdd hp2 hp3 ht1 ht2 ht3 CU CT HJ
                have hwrap : IntKind.i64.wrap (kd : Int) = (kd : Int) := IntWalk.i64_in _ (by omega)
                go_wp2_with fail
                refine C1.out.mono ?_
                rintro e w2 ⟨rfl, hb2⟩
                have hbw2 := qtrans hbw hb2
                have ho2 := owns_below hown hb2
                clear C1
                go_wp2_with fail
                refine (C2.out w2 hbw2).mono ?_
                rintro e w3 ⟨rfl, hb3⟩
                have hbw3 := qtrans hbw2 hb3
                have ho3 := owns_below ho2 hb3
                clear C2 hb3 hbw hbw2 hb2 ho2 hown
                have hpc : pcells (acc ++ [((⟨s.toArray⟩ : ByteArray), (kd : Int))]) = pcells acc ++ [.string ⟨s.toArray⟩, .int .i64 (kd : Int)] := pcells_one _ _
                have HPC := Lib.hid hpc
                have hl24 : (k + 1) * 24 ≤ 140737488355328 := by omega
                clear hpc
                go_wp2_with (at_builtin; refine wpList_append_own _ rfl _ _ 40 rfl w.heap.size 86 i0 (.agg #[.string ⟨#[]⟩, .int .i64 0]) 2 24 Tryd.underlying40 hi hz0 hz1 hz2 rfl (by decide) _ _ _ rfl (ho3.alloc _) ⟨w3.heap.size, 0, none⟩ 1 1 [.string ⟨s.toArray⟩, .int .i64 (kd : Int)] rfl rfl ?c1 ?c2 ?c3 ?c4 ?c5 ?_)
                case c1 => exact cells_new w3 [.string ⟨s.toArray⟩, .int .i64 (kd : Int)] 86
                case c2 => intro u hu; simp at hu; rcases hu with rfl | rfl <;> rfl
                case c3 => unfold maxLen; omega
                case c4 => exact hl24
                case c5 => have := hbw3.size; simp at this ⊢; omega
                intro v' w4 hown4 hgrow4 _
                have hbw4 := below_append hbw3 _ ho3 hgrow4
                clear hgrow4 ho3 hbw3
                go_wp2_with fail
                go_roundw
                case rel => exact ⟨k + 1, p3, _, by omega, by rw [List.length_append, hal]; rfl, hp3b, rfl, by go_num, HE, HF2, by rw [HPC.out]; exact hown4, hbw4⟩
                case measure => simp [intOf]; omega
        · obtain rfl : k = m := by omega
          have hd := HD.out
          rw [Nat.sub_self, decI] at hd
          have HD1 := Lib.hid hd
          clear HX HB1 HD CU CT hd
          by_cases hqn : q = n
          · have q1 : ((q : Int) == (n : Int)) = true := by simp [hqn]
            have hfit : Fit acc := fun c hc => by
              have := HF.out c hc
              have := HN.out
              unfold maxLen
              omega
            have CC := Lib.hid fun A' cap' (W : World) (h : Lies W W.heap.size 2 A' acc.length (pcells acc)) => refValid_calls A' cap' acc _ W h (by unfold maxLen; omega) hfit
            have HAL := Lib.hid hal
            rw [hal] at CC
            obtain ⟨A', c', rfl, _, _⟩ := own_slice hown
            have C1 := Lib.hid (CC.out A' c' wr (Lies.of_own hown))
            have hlen : (bs.drop q).length = 0 := by rw [List.length_drop, ← HN.out]; omega
            have HE : Hid (decL bs = if okB acc = true then some acc else none) := by
              show _ = _
              rw [HD1.out]
              simp only [hlen, true_and]
            clear CC HD1 hlen hfit HF hqn hal
            generalize okB acc = ob at *
            go_wp2_with fail
            refine C1.out.mono ?_
            rintro e w2 ⟨rfl, rfl⟩
            clear C1
            go_wp2_with fail
            go_ret2
            exact ⟨_, acc, ob, rfl, HE.out, by rw [HAL.out]; exact hown, hbw⟩
          · have HE : Hid (decL bs = none) := by
              show _ = _
              rw [HD1.out, if_neg]
              rw [List.length_drop, ← HN.out]
              have := HN.out
              omega
            have q1 : ((q : Int) == (n : Int)) = false := by rw [beq_eq_false_iff_ne]; omega
            have HAL := Lib.hid hal
            clear HD1 hal HF
            go_wp2_with fail
            go_ret2
            exact ⟨_, acc, false, rfl, HE.out, by rw [HAL.out]; exact hown, hbw⟩
end Go.Proofs.YtoihfmjnonanjaaDoor
