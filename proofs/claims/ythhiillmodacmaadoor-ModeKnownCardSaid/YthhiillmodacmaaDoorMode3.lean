/- What henkanlaw07.after computes. -/
import Derived.Test.YthhiillmodacmaaDoorMode2
namespace Go.Proofs.YthhiillmodacmaaDoor
open Go.RowKit Go.Lib Go.Shelf Hk
set_option linter.unusedSimpArgs false
set_option linter.unusedVariables false
set_option maxRecDepth 100000

def afterD (m : Int) (l : List UInt8) : Int := l.foldl (fun m c => toggleD m (c.toNat : Int)) m
theorem afterD_snoc (m : Int) (l : List UInt8) (c : UInt8) : afterD m (l ++ [c]) = toggleD (afterD m l) (c.toNat : Int) := by simp [afterD, List.foldl_append]
set_option maxHeartbeats 1000000 in
theorem after_calls (m : Int) (s : ByteArray) (w : World) (hs : s.size ≤ 1048576) (he : EnvM w) : Calls Tryd.prog 25 #[.int .i64 m, .string s] w fun e w' => e = .returned (.int .i64 (afterD m s.data.toList)) ∧ Below w.heap.size w w' := by
  have HE := Lib.hid he
  have CT := Lib.hid toggle_calls
  have hsz : s.size = s.data.toList.length := by simp
  have HSZ := Lib.hid hsz
  obtain ⟨res, hres⟩ : ∃ r, r = afterD m s.data.toList := ⟨_, rfl⟩
  have HR := Lib.hid hres
  rw [← hres]
  clear he hsz hres
  go_enter Tryd.func25, Tryd.ntmps25
  go_wp2_with fail
  go_loopw [0, 8] (fun m' i wr => ∃ k : Nat, k ≤ s.size ∧ i = .int .i64 (k : Int) ∧ m' = .int .i64 (afterD m (s.data.toList.take k)) ∧ Below w.heap.size w wr) (fun _ i _ => s.size - (intOf i).toNat)
  case atStart => exact ⟨0, Nat.zero_le _, rfl, rfl, Below.refl _ _⟩
  case round =>
    obtain ⟨k, hk, rfl, rfl, hbw⟩ := hrel
    by_cases hlt : k < s.size
    · have HT : Hid (afterD m (s.data.toList.take (k + 1)) = toggleD (afterD m (s.data.toList.take k)) ((s[k]).toNat : Int)) := by
        show _ = _
        rw [List.take_succ_eq_append_getElem (by rw [← HSZ.out]; exact hlt), afterD_snoc]
        rfl
      have CT1 := Lib.hid fun W (hW : EnvM W) => CT.out (afterD m (s.data.toList.take k)) ((s[k]).toNat : Int) W hW.2
      generalize afterD m (s.data.toList.take k) = a at *
      go_wp2_with fail
      refine (CT1.out _ (HE.out.below hbw)).mono ?_
      rintro e w1 ⟨rfl, hb1⟩
      have hb := qtrans hbw hb1
      clear hb1 hbw
      go_wp2_with fail
      go_roundw
      case rel => exact ⟨k + 1, by omega, by go_num, by rw [HT.out], hb⟩
      case measure => simp [intOf]; omega
    · have HF : Hid (afterD m (s.data.toList.take k) = res) := by show _ = _; rw [List.take_of_length_le (by rw [← HSZ.out]; omega), HR.out]
      rw [HF.out]
      go_wp2_with fail
      go_ret
      exact ⟨rfl, hbw⟩
end Go.Proofs.YthhiillmodacmaaDoor
