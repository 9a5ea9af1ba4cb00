/- What henkanref01.Code, Text and Count compute. -/
import Derived.Test.YthhiillmodacmaaDoorKanaE
import Derived.Lib.AppendStr
import Derived.Lib.UnsafeStr
import Derived.Lib.BufferRead
import Derived.Lib.SmallJoins
import Derived.Outline
namespace Go.Proofs.YthhiillmodacmaaDoor
open Go.RowKit Go.Lib Hk
set_option linter.unusedSimpArgs false
set_option linter.unusedVariables false
set_option maxRecDepth 100000

/-! ### The code of a character, as the reference makes it -/
def limD (k : Nat) : Nat := if k = 0 then 0 else if k = 1 then 128 else if k = 2 then 2048 else 65536
theorem lim_at (k : Nat) (h : k < 4) : #[Value.int .i32 0, .int .i32 128, .int .i32 2048, .int .i32 65536][k]? = some (.int .i32 (limD k : Nat)) := by
  have : k = 0 ∨ k = 1 ∨ k = 2 ∨ k = 3 := by omega
  rcases this with rfl | rfl | rfl | rfl <;> rfl
def codeN (r : Nat) : Nat := if r < 128 then 1 else if r < 2048 then 2 else if r < 65536 then 3 else 4
theorem codeN_le (r : Nat) : 1 ≤ codeN r ∧ codeN r ≤ 4 := by unfold codeN; (repeat' split) <;> omega
theorem codeN_lim (r k : Nat) (h : 1 ≤ k) (h4 : k < 4) (hk : k ≤ codeN r) : limD k ≤ r ↔ k < codeN r := by
  have : k = 1 ∨ k = 2 ∨ k = 3 := by omega
  unfold codeN at *
  unfold limD
  rcases this with rfl | rfl | rfl <;> (repeat' split at *) <;> omega
def firstD (m : Nat) : Nat := if m = 2 then 192 else if m = 3 then 224 else if m = 4 then 240 else 0
theorem first_at (m : Nat) (h : m < 5) : #[Value.int .i32 0, .int .i32 0, .int .i32 192, .int .i32 224, .int .i32 240][m]? = some (.int .i32 (firstD m : Nat)) := by
  have : m = 0 ∨ m = 1 ∨ m = 2 ∨ m = 3 ∨ m = 4 := by omega
  rcases this with rfl | rfl | rfl | rfl | rfl <;> rfl
/-- The last j bytes. -/
def conts (r : Nat) : Nat → List UInt8
  | 0 => []
  | j + 1 => (128 + r / 64 ^ j % 64).toUInt8 :: conts r j
theorem conts_len (r : Nat) : ∀ j, (conts r j).length = j
  | 0 => rfl
  | j + 1 => by rw [conts, List.length_cons, conts_len r j]
theorem enc_one (r : Nat) (h : r < 128) : encodeRune (r : Int) = [r.toUInt8] := by
  unfold encodeRune
  rw [encodeRuneZ_one (by omega) (by omega)]
  simp
theorem enc_many (r : Nat) (h : isRune r) (h1 : 2 ≤ codeN r) : encodeRune (r : Int) = (firstD (codeN r) + r / 64 ^ (codeN r - 1)).toUInt8 :: conts r (codeN r - 1) := by
  unfold isRune at h
  unfold encodeRune
  by_cases c1 : r < 128
  · unfold codeN at h1; rw [if_pos c1] at h1; omega
  by_cases c2 : r < 2048
  · have e : codeN r = 2 := by unfold codeN; rw [if_neg c1, if_pos c2]
    rw [encodeRuneZ_two (by omega) (by omega), e]
    simp only [List.map_cons, List.map_nil, conts, firstD, Nat.reduceSub, Nat.pow_one, Nat.pow_zero, Nat.div_one, if_true]
    rw [toU8_eq (n := 192 + r / 64) (by omega), toU8_eq (n := 128 + r % 64) (by omega)]
  by_cases c3 : r < 65536
  · have e : codeN r = 3 := by unfold codeN; rw [if_neg c1, if_neg c2, if_pos c3]
    rw [encodeRuneZ_three (by omega), e]
    simp only [List.map_cons, List.map_nil, conts, firstD, Nat.reduceSub, Nat.reducePow, Nat.pow_one, Nat.pow_zero, Nat.div_one]
    rw [toU8_eq (n := 224 + r / 4096) (by omega), toU8_eq (n := 128 + r / 64 % 64) (by omega), toU8_eq (n := 128 + r % 64) (by omega)]
    rfl
  · have e : codeN r = 4 := by unfold codeN; rw [if_neg c1, if_neg c2, if_neg c3]
    rw [encodeRuneZ_four (by omega) (by omega), e]
    simp only [List.map_cons, List.map_nil, conts, firstD, Nat.reduceSub, Nat.reducePow, Nat.pow_one, Nat.pow_zero, Nat.div_one]
    rw [toU8_eq (n := 240 + r / 262144) (by omega), toU8_eq (n := 128 + r / 4096 % 64) (by omega), toU8_eq (n := 128 + r / 64 % 64) (by omega), toU8_eq (n := 128 + r % 64) (by omega)]
    rfl

/-- The string of bytes that a row of the call's own holds. -/
theorem conv_own {w : World} {base n : Nat} {v : Value} {l : List UInt8} (h : w.ownsRow base 5 1 v n (byteCells l)) : (convert 22 9 v).run Tryd.prog w = .ok (.string (bstr l)) w := by
  have hn : l.length = n := by have := h.1; rw [byteCells_length] at this; omega
  rcases h.2 with ⟨rfl, rfl⟩ | ⟨g, cap, cur, rfl, _, hg, h1, h2, h3, htk⟩
  · have : l = [] := List.length_eq_zero_iff.1 hn
    subst this
    exact run_convert_nil_bytes w _ _ _ 0 Tryd.underlying22 Tryd.underlying5 Tryd.underlying9
  · subst hn
    exact run_convert_bytes_back (P := Tryd.prog) w 22 9 5 ⟨g, 0, none⟩ cap l Tryd.underlying22 Tryd.underlying5 Tryd.underlying9 (bytes_of_row hg (by rw [Nat.mul_one] at htk; exact htk))
/-- A row that was just laid whole. -/
theorem own_whole {w : World} {base : Nat} {e : TypeId} {size n : Nat} (cs : List Value) (hb : base ≤ w.heap.size) (hm : n ≤ maxLen) (hs : cs.length = n * size) :
    (w.alloc (.cells cs.toArray e)).ownsRow base e size (.slice (some ⟨w.heap.size, 0, none⟩) n n) n cs :=
  ⟨hs, .inr ⟨w.heap.size, n, cs.toArray, rfl, hb, heap_alloc_new w _, Nat.le_refl _, hm, by simpa using hs, by rw [← hs]; simp⟩⟩
theorem byte_val {q : Nat} (h : q < 256) : [Value.int .u8 (q : Int)] = byteCells [q.toUInt8] := by
  have e : (q.toUInt8).toNat = q := by
    have : q % 256 = q := Nat.mod_eq_of_lt h
    simpa using this
  unfold byteCells
  rw [List.map_cons, List.map_nil, e]
theorem Tryd.info5 : (Tryd.prog.info? 5).map (fun i => (i.zero, i.size, i.bytes)) = some (some (.int .u8 0), 1, 1) := by kernel_rfl
theorem lead_lt (r : Nat) (h : r ≤ 1114111) : firstD (codeN r) + r / 64 ^ (codeN r - 1) < 256 := by
  unfold codeN firstD
  by_cases c1 : r < 128
  · rw [if_pos c1]; simp; omega
  · by_cases c2 : r < 2048
    · rw [if_neg c1, if_pos c2]; simp only [Nat.reduceSub, Nat.pow_one, if_true]; omega
    · by_cases c3 : r < 65536
      · rw [if_neg c1, if_neg c2, if_pos c3]; simp only [Nat.reduceSub, Nat.reducePow]; simp; omega
      · rw [if_neg c1, if_neg c2, if_neg c3]; simp only [Nat.reduceSub, Nat.reducePow]; simp; omega

/-- How long a slice is. -/
def lenOf : Value → Nat
  | .slice _ n _ => n
  | _ => 0
/-- The loop that makes the last bytes. -/
def ContsAt (w : World) (r m : Nat) (c b : Value) (wr : World) : Prop :=
  ∃ j q : Nat, j ≤ m - 1 ∧ c = .int .i32 (q : Int) ∧ Hid (q = r / 64 ^ j) ∧ q ≤ 1114111 ∧ wr.ownsRow w.heap.size 5 1 b j (byteCells (conts r j)) ∧ Below w.heap.size w wr

set_option maxHeartbeats 4000000 in
theorem code_calls (r : Nat) (w : World) (hr : isRune r) : Calls Tryd.prog 74 #[.int .i32 (r : Int)] w fun e w' => e = .returned (.string (bstr (encodeRune (r : Int)))) ∧ Below w.heap.size w w' := by
  obtain ⟨i0, hi, hz0, hz1, hz2⟩ := info_parts Tryd.info5
  have hr11 : r ≤ 1114111 := by unfold isRune at hr; omega
  obtain ⟨m, hm⟩ : ∃ m, codeN r = m := ⟨_, rfl⟩
  have hml := codeN_le r
  have HLIM := Lib.hid (codeN_lim r)
  have HLEAD := Lib.hid (lead_lt r hr11)
  have HE1 := Lib.hid (enc_one r)
  have HEM := Lib.hid (enc_many r hr)
  have HC1 : Hid (m = 1 → r < 128) := fun h => by
    unfold codeN at hm
    split at hm
    · assumption
    · (repeat' split at hm) <;> omega
  rw [hm] at hml HLIM HLEAD HEM
  clear hr hm
  obtain ⟨hm1, hm4⟩ := hml
  go_enter Tryd.func74, Tryd.ntmps74
  go_wp2_with fail
  go_loopw [3] (fun n wr => ∃ k : Nat, 1 ≤ k ∧ k ≤ m ∧ n = .int .i64 (k : Int) ∧ Below w.heap.size w wr) (fun n _ => m - (intOf n).toNat)
  case atStart => exact ⟨1, Nat.le_refl _, hm1, rfl, Below.refl _ _⟩
  case round =>
    obtain ⟨k, hk1, hkm, rfl, hbw⟩ := hrel
    by_cases hk4 : k < 4
    · have hiff := HLIM.out k hk1 hk4 hkm
      have hbx := hbw.alloc hbw.size (.cells #[.int .i32 0, .int .i32 128, .int .i32 2048, .int .i32 65536] 21)
      obtain ⟨L, hL⟩ : ∃ L, limD k = L := ⟨_, rfl⟩
      have hget : [Value.int .i32 0, Value.int .i32 128, Value.int .i32 2048, Value.int .i32 65536][k]'(by simpa using hk4) = .int .i32 (L : Int) := by
        have := lim_at k hk4
        rw [hL] at this
        exact (List.getElem?_eq_some_iff.1 (by simpa using this)).2
      rw [hL] at hiff
      clear hL
      by_cases hle : L ≤ r
      · have hkm2 : k < m := hiff.1 hle
        clear hiff
        go_wp2_with fail
        go_roundw
        case rel => exact ⟨k + 1, by omega, by omega, by go_num, hbx⟩
        case measure => simp [intOf]; omega
      · have hkm2 : m = k := by
          have : ¬ k < m := fun e => hle (hiff.2 e)
          omega
        subst hkm2
        clear hiff
        by_cases hm11 : m = 1
        · subst hm11
          have hr128 := HC1.out rfl
          have HE := Lib.hid (HE1.out hr128)
          have hcv := conv_own (own_whole (w := wr.alloc (.cells #[.int .i32 0, .int .i32 128, .int .i32 2048, .int .i32 65536] 21)) (base := w.heap.size) (e := 5) (size := 1) (n := 1) (byteCells [r.toUInt8]) hbx.size (by unfold maxLen; omega) rfl)
          rw [← byte_val (by omega : r < 256)] at hcv
          simp only [World.size_alloc] at hcv
          have hL128 : L = 128 := by
            have := hget
            simp at this
            omega
          subst hL128
          clear hle hget
          go_wp2_with fail
          go_ret
          exact ⟨by rw [HE.out]; rfl, hbx.alloc hbx.size _⟩
        · have q1 : ((m : Int) == 1) = false := by simp; omega
          go_wp2_with fail
          clear hle hget
          have hun : ¬ (m : Int) = 1 := by simpa using q1
          go_loopw [0, 4] (fun c b wz => ContsAt w r m c b wz) (fun _ b _ => m - lenOf b)
          case atStart => exact ⟨0, r, Nat.zero_le _, rfl, by show _ = _; simp, hr11, World.ownsRow_nil _ _ _ _, hbx⟩
          case round =>
            obtain ⟨j, q, hj, rfl, HQ, hq, hown, hbz⟩ := hrel
            obtain ⟨A, cb, rfl, hjc, hcm, hlies⟩ := own_lies hown
            have hl1 := byteCells_one (conts r j)
            by_cases hlt : j < m - 1
            · have HB : Hid (Value.int .u8 (128 + (q : Int) % 64) :: byteCells (conts r j) = byteCells (conts r (j + 1))) := by
                show _ = _
                rw [conts, ← HQ.out, show (Value.int .u8 (128 + (q : Int) % 64)) = .int .u8 ((128 + q % 64 : Nat) : Int) from int_congr (by omega)]
                exact congrArg (fun z => z ++ byteCells (conts r j)) (byte_val (q := 128 + q % 64) (by omega))
              have HQ2 : Hid (q / 64 = r / 64 ^ (j + 1)) := by show _ = _; rw [HQ.out, Nat.div_div_eq_div_mul, Nat.pow_succ]
              have ho1 := own_whole (w := wr) (base := w.heap.size) (e := 5) (size := 1) (n := 1) [.int .u8 (128 + (q : Int) % 64)] hbz.size (by unfold maxLen; omega) rfl
              have hl2 := hlies.alloc (Nat.le_refl _) (.cells #[.int .u8 (128 + (q : Int) % 64)] 5)
              have hbz2 := hbz.alloc hbz.size (.cells #[.int .u8 (128 + (q : Int) % 64)] 5)
              clear hown hlies
              go_wp2_with (at_builtin; refine wpList_append_lies _ rfl (.tmp 33) (.tmp 34) 22 rfl w.heap.size 5 i0 (.int .u8 0) 1 1 Tryd.underlying22 hi hz0 hz1 hz2 rfl (by omega) _ 1 [.int .u8 (128 + (q : Int) % 64)] rfl ho1 wr.heap.size A j cb (byteCells (conts r j)) rfl hl2 hl1 (by unfold maxLen; omega) (by omega) hbz2.size ?_)
              intro v' w3 ho3 hg3
              have hb3 := hbz2.grown hg3 hbz2.size fun g e => (ho1.lt g e).1
              rw [HB.out, Nat.add_comm 1 j] at ho3
              have HO3 := Lib.hid ho3
              obtain ⟨A3, c3, rfl, _, _⟩ := own_slice ho3
              clear ho1 hl2 hg3 ho3
              go_wp2_with fail
              go_roundw
              case rel => exact ⟨j + 1, q / 64, by omega, by go_num, HQ2, by omega, HO3.out, hb3⟩
              case measure => simp [lenOf]; omega
            · have hjm : j = m - 1 := by omega
              obtain ⟨F, hF⟩ : ∃ F, firstD m = F := ⟨_, rfl⟩
              have hlead := HLEAD.out
              rw [hF, ← hjm, ← HQ.out] at hlead
              have HE : Hid (Value.int .u8 ((F : Int) + (q : Int)) :: byteCells (conts r j) = byteCells (encodeRune (r : Int))) := by
                show _ = _
                rw [HEM.out (by omega), hF, ← hjm, ← HQ.out, show (Value.int .u8 ((F : Int) + (q : Int))) = .int .u8 ((F + q : Nat) : Int) from int_congr (by omega)]
                exact congrArg (fun z => z ++ byteCells (conts r j)) (byte_val (q := F + q) hlead)
              have hget2 : [Value.int .i32 0, Value.int .i32 0, Value.int .i32 192, Value.int .i32 224, Value.int .i32 240][m]'(by simp; omega) = .int .i32 (F : Int) := by
                have := first_at m (by omega)
                rw [hF] at this
                exact (List.getElem?_eq_some_iff.1 (by simpa using this)).2
              have hby := hbz.alloc hbz.size (.cells #[.int .i32 0, .int .i32 0, .int .i32 192, .int .i32 224, .int .i32 240] 21)
              have ho1 := own_whole (w := wr.alloc (.cells #[.int .i32 0, .int .i32 0, .int .i32 192, .int .i32 224, .int .i32 240] 21)) (base := w.heap.size) (e := 5) (size := 1) (n := 1) [.int .u8 ((F : Int) + (q : Int))] hby.size (by unfold maxLen; omega) rfl
              have hl2 := (hlies.alloc (Nat.le_refl _) (.cells #[.int .i32 0, .int .i32 0, .int .i32 192, .int .i32 224, .int .i32 240] 21)).alloc (by simp) (.cells #[.int .u8 ((F : Int) + (q : Int))] 5)
              have hbz2 := hby.alloc hby.size (.cells #[.int .u8 ((F : Int) + (q : Int))] 5)
              simp only [World.size_alloc] at ho1
              have hq1 : ((F : Int) + (q : Int)) < 256 := by omega
              have hm5 : m < 5 := by omega
              clear hown hlies hF hjm
              go_wp2_with (at_builtin; refine wpList_append_lies _ rfl (.tmp 46) (.tmp 47) 22 rfl w.heap.size 5 i0 (.int .u8 0) 1 1 Tryd.underlying22 hi hz0 hz1 hz2 rfl (by omega) _ 1 [.int .u8 ((F : Int) + (q : Int))] rfl ho1 wr.heap.size A j cb (byteCells (conts r j)) rfl hl2 hl1 (by unfold maxLen; omega) (by omega) hbz2.size ?_)
              intro v' w3 ho3 hg3
              have hb3 := hbz2.grown hg3 hbz2.size fun g e => (ho1.lt g e).1
              rw [HE.out] at ho3
              have hcv := conv_own ho3
              clear ho1 hl2 hg3 ho3 hget2
              go_wp2_with fail
              go_ret
              exact ⟨rfl, hb3⟩
    · have hm44 : m = k := by omega
      subst hm44
      have hbx := hbw
      have q1 : ((m : Int) == 1) = false := by simp; omega
      go_wp2_with fail
      have hun : ¬ (m : Int) = 1 := by simpa using q1
      go_loopw [0, 4] (fun c b wz => ContsAt w r m c b wz) (fun _ b _ => m - lenOf b)
      case atStart => exact ⟨0, r, Nat.zero_le _, rfl, by show _ = _; simp, hr11, World.ownsRow_nil _ _ _ _, hbx⟩
      case round =>
        obtain ⟨j, q, hj, rfl, HQ, hq, hown, hbz⟩ := hrel
        obtain ⟨A, cb, rfl, hjc, hcm, hlies⟩ := own_lies hown
        have hl1 := byteCells_one (conts r j)
        by_cases hlt : j < m - 1
        · have HB : Hid (Value.int .u8 (128 + (q : Int) % 64) :: byteCells (conts r j) = byteCells (conts r (j + 1))) := by
            show _ = _
            rw [conts, ← HQ.out, show (Value.int .u8 (128 + (q : Int) % 64)) = .int .u8 ((128 + q % 64 : Nat) : Int) from int_congr (by omega)]
            exact congrArg (fun z => z ++ byteCells (conts r j)) (byte_val (q := 128 + q % 64) (by omega))
          have HQ2 : Hid (q / 64 = r / 64 ^ (j + 1)) := by show _ = _; rw [HQ.out, Nat.div_div_eq_div_mul, Nat.pow_succ]
          have ho1 := own_whole (w := wr) (base := w.heap.size) (e := 5) (size := 1) (n := 1) [.int .u8 (128 + (q : Int) % 64)] hbz.size (by unfold maxLen; omega) rfl
          have hl2 := hlies.alloc (Nat.le_refl _) (.cells #[.int .u8 (128 + (q : Int) % 64)] 5)
          have hbz2 := hbz.alloc hbz.size (.cells #[.int .u8 (128 + (q : Int) % 64)] 5)
          clear hown hlies
          go_wp2_with (at_builtin; refine wpList_append_lies _ rfl (.tmp 33) (.tmp 34) 22 rfl w.heap.size 5 i0 (.int .u8 0) 1 1 Tryd.underlying22 hi hz0 hz1 hz2 rfl (by omega) _ 1 [.int .u8 (128 + (q : Int) % 64)] rfl ho1 wr.heap.size A j cb (byteCells (conts r j)) rfl hl2 hl1 (by unfold maxLen; omega) (by omega) hbz2.size ?_)
          intro v' w3 ho3 hg3
          have hb3 := hbz2.grown hg3 hbz2.size fun g e => (ho1.lt g e).1
          rw [HB.out, Nat.add_comm 1 j] at ho3
          have HO3 := Lib.hid ho3
          obtain ⟨A3, c3, rfl, _, _⟩ := own_slice ho3
          clear ho1 hl2 hg3 ho3
          go_wp2_with fail
          go_roundw
          case rel => exact ⟨j + 1, q / 64, by omega, by go_num, HQ2, by omega, HO3.out, hb3⟩
          case measure => simp [lenOf]; omega
        · have hjm : j = m - 1 := by omega
          obtain ⟨F, hF⟩ : ∃ F, firstD m = F := ⟨_, rfl⟩
          have hlead := HLEAD.out
          rw [hF, ← hjm, ← HQ.out] at hlead
          have HE : Hid (Value.int .u8 ((F : Int) + (q : Int)) :: byteCells (conts r j) = byteCells (encodeRune (r : Int))) := by
            show _ = _
            rw [HEM.out (by omega), hF, ← hjm, ← HQ.out, show (Value.int .u8 ((F : Int) + (q : Int))) = .int .u8 ((F + q : Nat) : Int) from int_congr (by omega)]
            exact congrArg (fun z => z ++ byteCells (conts r j)) (byte_val (q := F + q) hlead)
          have hget2 : [Value.int .i32 0, Value.int .i32 0, Value.int .i32 192, Value.int .i32 224, Value.int .i32 240][m]'(by simp; omega) = .int .i32 (F : Int) := by
            have := first_at m (by omega)
            rw [hF] at this
            exact (List.getElem?_eq_some_iff.1 (by simpa using this)).2
          have hby := hbz.alloc hbz.size (.cells #[.int .i32 0, .int .i32 0, .int .i32 192, .int .i32 224, .int .i32 240] 21)
          have ho1 := own_whole (w := wr.alloc (.cells #[.int .i32 0, .int .i32 0, .int .i32 192, .int .i32 224, .int .i32 240] 21)) (base := w.heap.size) (e := 5) (size := 1) (n := 1) [.int .u8 ((F : Int) + (q : Int))] hby.size (by unfold maxLen; omega) rfl
          have hl2 := (hlies.alloc (Nat.le_refl _) (.cells #[.int .i32 0, .int .i32 0, .int .i32 192, .int .i32 224, .int .i32 240] 21)).alloc (by simp) (.cells #[.int .u8 ((F : Int) + (q : Int))] 5)
          have hbz2 := hby.alloc hby.size (.cells #[.int .u8 ((F : Int) + (q : Int))] 5)
          simp only [World.size_alloc] at ho1
          have hq1 : ((F : Int) + (q : Int)) < 256 := by omega
          have hm5 : m < 5 := by omega
          clear hown hlies hF hjm
          go_wp2_with (at_builtin; refine wpList_append_lies _ rfl (.tmp 46) (.tmp 47) 22 rfl w.heap.size 5 i0 (.int .u8 0) 1 1 Tryd.underlying22 hi hz0 hz1 hz2 rfl (by omega) _ 1 [.int .u8 ((F : Int) + (q : Int))] rfl ho1 wr.heap.size A j cb (byteCells (conts r j)) rfl hl2 hl1 (by unfold maxLen; omega) (by omega) hbz2.size ?_)
          intro v' w3 ho3 hg3
          have hb3 := hbz2.grown hg3 hbz2.size fun g e => (ho1.lt g e).1
          rw [HE.out] at ho3
          have hcv := conv_own ho3
          clear ho1 hl2 hg3 ho3 hget2
          go_wp2_with fail
          go_ret
          exact ⟨rfl, hb3⟩
end Go.Proofs.YthhiillmodacmaaDoor
