/- What henkanref01.Text and Count compute. -/
import Derived.Test.YthhiillmodacmaaDoorRef3
import Derived.Outline
namespace Go.Proofs.YthhiillmodacmaaDoor
open Go.RowKit Go.Lib Hk
set_option linter.unusedSimpArgs false
set_option linter.unusedVariables false
set_option maxRecDepth 100000

theorem rchar_rune {r : Nat} (h : isRune r) : rchar r = true := by
  unfold isRune at h
  simp only [rchar, Bool.and_eq_true, Bool.or_eq_true, decide_eq_true_eq]
  omega
theorem rune_at {w : World} {B n : Nat} {A : Option Addr} {rs : List Nat} (h : Lies w B 1 A n (runeCellsOf rs)) {k r : Nat} (hk : k < n) (hr : rs[k]? = some r) : ∃ b off, A = some ⟨b, off, none⟩ ∧ b < B ∧ w.cell? ⟨b, off + k, none⟩ = some (.int .i32 (r : Int)) :=
  h.at1 hk (by unfold runeCellsOf; rw [List.getElem?_map, hr]; rfl)
theorem encT_take (rs : List Nat) (k r : Nat) (h : rs[k]? = some r) : encT (rs.take (k + 1)) = encT (rs.take k) ++ encodeRune (r : Int) := by
  obtain ⟨hlt, e⟩ := List.getElem?_eq_some_iff.1 h
  rw [List.take_succ_eq_append_getElem hlt, e, encT_snoc]

/-- The loop of Text. -/
def TextAt (w : World) (rs : List Nat) (b i : Value) (wr : World) : Prop :=
  ∃ k : Nat, k ≤ rs.length ∧ i = .int .i64 (k : Int) ∧ wr.ownsRow w.heap.size 5 1 b (encT (rs.take k)).length (byteCells (encT (rs.take k))) ∧ Below w.heap.size w wr

set_option maxHeartbeats 4000000 in
theorem refText_calls (A : Option Addr) (cap : Nat) (rs : List Nat) (n : Nat) (w : World) (B : Nat) (hn0 : rs.length = n) (hl : Lies w B 1 A n (runeCellsOf rs)) (hB : B ≤ w.heap.size) (hr : ∀ r ∈ rs, isRune r) (hn : n ≤ 33554432) :
    Calls Tryd.prog 57 #[.slice A n cap] w fun e w' => e = .returned (.string (bstr (encT rs))) ∧ Below w.heap.size w w' := by
  obtain ⟨i0, hi, hz0, hz1, hz2⟩ := info_parts Tryd.info5
  have HL := Lib.hid (hl.up hB)
  have HR := Lib.hid hr
  have HN := Lib.hid hn0
  have CC := Lib.hid character_calls
  have CD := Lib.hid code_calls
  clear hl hr hn0
  go_enter Tryd.func57, Tryd.ntmps57
  go_wp2_with fail
  go_loopw [3, 4] (fun b i wr => TextAt w rs b i wr) (fun _ i _ => n - (intOf i).toNat)
  case atStart => exact ⟨0, Nat.zero_le _, rfl, World.ownsRow_nil _ _ _ _, Below.refl _ _⟩
  case round =>
    obtain ⟨k, hk, rfl, hown, hbw⟩ := hrel
    rw [HN.out] at hk
    by_cases hlt : k < n
    · obtain ⟨r, hr⟩ : ∃ r, rs[k]? = some r := ⟨_, List.getElem?_eq_getElem (by rw [HN.out]; exact hlt)⟩
      obtain ⟨b, off, rfl, hab, c0⟩ := rune_at HL.out hlt hr
      have hrr := HR.out r (List.mem_of_getElem? hr)
      have d0 := cell_later hbw c0
      have HT := Lib.hid (encT_take rs k r hr)
      have hrl := (show r < 2147483648 by unfold isRune at hrr; omega)
      have C1 := Lib.hid fun W => CC.out r W hrl
      rw [rchar_rune hrr] at C1
      have C2 := Lib.hid fun W => CD.out r W hrr
      have hlen := (encT_len (rs.take k)).2
      have hlen2 := (enc_len (r : Int)).2
      rw [List.length_take, HN.out] at hlen
      have hlen3 : (encT (rs.take k)).length ≤ 4 * k := Nat.le_trans hlen (by omega)
      have hkeep := Lib.hid fun (W : World) (hW : Below wr.heap.size wr W) => cell_later hW d0
      clear hr hrr c0 hlen
      go_wp2_with fail
      refine (C1.out _).mono ?_
      rintro e w1 ⟨rfl, rfl⟩
      go_wp2_with fail
      refine (C2.out _).mono ?_
      rintro e w1 ⟨rfl, hb1⟩
      have hown1 := owns_below hown hb1
      have hbw1 := qtrans hbw hb1
      have hsz : (bstr (encodeRune (r : Int))).size ≤ 4 := by rw [bstr_size]; exact hlen2
      clear hown hb1 hbw d0 hkeep
      go_wp2_with (at_builtin; refine wpList_append_own_string _ rfl (.tmp 16) (.tmp 21) 22 9 rfl w.heap.size 5 i0 Tryd.underlying22 Tryd.underlying9 hi hz0 hz1 hz2 _ _ _ rfl hown1 (bstr (encodeRune (r : Int))) rfl (by unfold maxLen; omega) (by omega) hbw1.size ?_)
      intro v' w3 hown3 hg3 _
      have hbw3 := hbw1.grown hg3 hbw1.size fun g e => (hown1.lt g e).1
      rw [strCells_eq, bstr_data, bstr_size, ← byteCells_append, ← List.length_append, ← HT.out] at hown3
      clear hg3 hown1
      go_wp2_with fail
      go_roundw
      case rel => exact ⟨k + 1, by rw [HN.out]; omega, by go_num, hown3, hbw3⟩
      case measure => simp [intOf]; omega
    · have HT : Hid (encT (rs.take k) = encT rs) := by show _ = _; rw [List.take_of_length_le (by rw [HN.out]; omega)]
      rw [HT.out] at hown
      have hcv := conv_own hown
      clear hown
      generalize hXX : bstr (encT rs) = X at *
      have HXX := Lib.hid hXX
      clear hXX
      go_wp2_with fail
      go_ret
      exact ⟨by rw [HXX.out]; rfl, hbw⟩

/-- How many characters a string has; -1: it is not valid. -/
def countD (l : List UInt8) : Int := match runesD l with
  | some rs => (rs.length : Int)
  | none => -1
end Go.Proofs.YthhiillmodacmaaDoor
