/- Letters of keys, made wide and narrow again. -/
import Derived.Test.YthhiillmodacmaaDoorMode4
namespace Go.Proofs.YthhiillmodacmaaDoor
open Go.RowKit Go.Lib Go.Shelf Hk
set_option linter.unusedSimpArgs false
set_option linter.unusedVariables false
set_option maxRecDepth 100000

def ltC (c : Nat) : Nat := 32 + c % 95
def ltL (l : List Nat) : List Nat := l.map ltC
theorem ltC_le (c : Nat) : 32 ≤ ltC c ∧ ltC c ≤ 126 := by unfold ltC; omega
theorem ltL_rune (l : List Nat) : ∀ r ∈ ltL l, isRune r := by
  intro r hr
  obtain ⟨c, _, rfl⟩ := List.mem_map.1 hr
  have := ltC_le c
  unfold isRune; omega
theorem ltL_narrow (l : List Nat) : (ltL l).map narrowC = ltL l := by
  conv => rhs; rw [← List.map_id (ltL l)]
  refine List.map_congr_left fun r hr => ?_
  obtain ⟨c, _, rfl⟩ := List.mem_map.1 hr
  have := ltC_le c
  unfold narrowC
  (repeat' split) <;> simp <;> omega
def keyS (l : List Nat) : ByteArray := bstr (encT (ltL l))
def widS (l : List Nat) : ByteArray := bstr (encT ((ltL l).map wideC))
theorem chS_enc (c : Nat) : chS c = bstr (encT [c]) := by unfold chS; rw [encT_cons, encT_nil, List.append_nil]
theorem wide_keyS (l : List Nat) : wideS (keyS l) = widS l := strB_at (ltL_rune l)
theorem narrow_keyS (l : List Nat) : narrowS (widS l) = keyS l := by
  rw [← wide_keyS, narrow_of_wide]
  show strB _ _ = _
  unfold keyS
  rw [strB_at (ltL_rune l), ltL_narrow]
theorem keyS_snoc (l : List Nat) (k c : Nat) (h : l[k]? = some c) : keyS (l.take (k + 1)) = keyS (l.take k) ++ chS (ltC c) := by
  unfold keyS ltL
  rw [take_snoc_nat l k c h, List.map_append, chS_enc, bstr_append, ← encT_append]; rfl
theorem widS_one (c : Nat) : wideS (chS (ltC c)) = bstr (encT [wideC (ltC c)]) := by
  rw [chS_enc]
  show strB _ (bstr (encT (ltL [c]))) = _
  rw [strB_at (ltL_rune [c])]; rfl
theorem widS_snoc (l : List Nat) (k c : Nat) (h : l[k]? = some c) : widS (l.take (k + 1)) = widS (l.take k) ++ wideS (chS (ltC c)) := by
  rw [widS_one]
  unfold widS ltL
  rw [take_snoc_nat l k c h, List.map_append, List.map_append, bstr_append, ← encT_append]; rfl
theorem narrow_one (c : Nat) : narrowS (wideS (chS (ltC c))) = chS (ltC c) := by
  have := narrow_keyS [c]
  rw [← wide_keyS] at this
  rw [chS_enc]
  exact this
theorem enc_low : ∀ rs : List Nat, (∀ r ∈ rs, r < 128) → (encT rs).length = rs.length
  | [], _ => rfl
  | r :: rs, h => by
    rw [encT_cons, enc_one r (h r List.mem_cons_self), List.length_append, enc_low rs fun x hx => h x (List.mem_cons_of_mem _ hx)]
    simp; omega
theorem keyS_size (l : List Nat) : (keyS l).size = l.length := by
  unfold keyS
  rw [bstr_size, enc_low _ fun r hr => by
    obtain ⟨c, _, rfl⟩ := List.mem_map.1 hr
    have := ltC_le c; omega]
  simp [ltL]
theorem widS_size (l : List Nat) : (widS l).size ≤ 4 * l.length := by
  unfold widS
  rw [bstr_size]
  have := (encT_len ((ltL l).map wideC)).2
  rw [List.length_map] at this
  simp [ltL] at this ⊢
  exact this
/-- Form 10, with a wider bound. -/
theorem form10_calls (r : ByteArray) (w : World) (hr : r.size ≤ 16777216) (he : Env w) : Calls Tryd.prog 13 #[.int .i64 10, .string ⟨#[]⟩, .string r] w fun e w' => e = .returned (.tuple #[.string (narrowS r), .bool true]) ∧ Below w.heap.size w w' := by
  have HE := Lib.hid he
  have C0 := Lib.hid (fun W (hW : Env W) => narrow_calls r W hr hW)
  clear he
  go_enter Tryd.func13, Tryd.ntmps13
  go_wp2_with fail
  refine (C0.out _ (HE.out)).mono ?_
  rintro e w1 ⟨rfl, hb1⟩
  go_wp2_with fail
  go_ret2
  exact ⟨rfl, hb1⟩
end Go.Proofs.YthhiillmodacmaaDoor
