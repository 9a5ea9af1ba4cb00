/- Plain laws of the forms of strings: once is enough, and back. -/
import Derived.Test.YthhiillmodacmaaDoorKanaE
namespace Go.Proofs.YthhiillmodacmaaDoor
open Go.RowKit Go.Lib Hk
set_option linter.unusedSimpArgs false
set_option linter.unusedVariables false

theorem map2 {f g h : Nat → Nat} (e : ∀ r, f (g r) = h r) (rs : List Nat) : (rs.map g).map f = rs.map h := by
  rw [List.map_map]
  exact List.map_congr_left fun r _ => e r
theorem hira_once (s : ByteArray) : hiraS (hiraS s) = hiraS s := (strB_strB keeps_hira s).trans (strB_congr (map2 hira_hira) s)
theorem kata_once (s : ByteArray) : kataS (kataS s) = kataS s := (strB_strB keeps_kata s).trans (strB_congr (map2 kata_kata) s)
theorem wide_once (s : ByteArray) : wideS (wideS s) = wideS s := (strB_strB keeps_wide s).trans (strB_congr (map2 wide_wide) s)
theorem narrow_once (s : ByteArray) : narrowS (narrowS s) = narrowS s := (strB_strB keeps_narrow s).trans (strB_congr (map2 narrow_narrow) s)
theorem half_once (s : ByteArray) : halfS (halfS s) = halfS s := (strB_strB keeps_half s).trans (strB_congr half_half s)
theorem full_once (s : ByteArray) : fullS (fullS s) = fullS s := (strB_strB keeps_full s).trans (strB_congr full_full s)
theorem hira_of_kata (s : ByteArray) : hiraS (kataS s) = hiraS s := (strB_strB keeps_kata s).trans (strB_congr (map2 hira_kata) s)
theorem kata_of_hira (s : ByteArray) : kataS (hiraS s) = kataS s := (strB_strB keeps_hira s).trans (strB_congr (map2 kata_hira) s)
theorem narrow_of_wide (s : ByteArray) : narrowS (wideS s) = narrowS s := (strB_strB keeps_wide s).trans (strB_congr (map2 narrow_wide) s)
theorem wide_of_narrow (s : ByteArray) : wideS (narrowS s) = wideS s := (strB_strB keeps_narrow s).trans (strB_congr (map2 wide_narrow) s)
theorem hira_size (s : ByteArray) : (hiraS s).size ≤ 8 * s.size := strB_size (map_len2 hiraC) s
theorem kata_size (s : ByteArray) : (kataS s).size ≤ 8 * s.size := strB_size (map_len2 kataC) s
theorem wide_size (s : ByteArray) : (wideS s).size ≤ 8 * s.size := strB_size (map_len2 wideC) s
theorem narrow_size (s : ByteArray) : (narrowS s).size ≤ 8 * s.size := strB_size (map_len2 narrowC) s
theorem half_size (s : ByteArray) : (halfS s).size ≤ 8 * s.size := strB_size half_len2 s
theorem full_size (s : ByteArray) : (fullS s).size ≤ 8 * s.size := strB_size full_len2 s
/-- Two valid strings, one behind the other. -/
theorem strB_app {g : List Nat → List Nat} {s t : ByteArray} {a b : List Nat} (ha : runesD s.data.toList = some a) (hb : runesD t.data.toList = some b) (hg : g (a ++ b) = g a ++ g b) : strB g (s ++ t) = strB g s ++ strB g t := by
  have hr : runesD (s ++ t).data.toList = some (a ++ b) := by
    rw [ByteArray.data_append, Array.toList_append]
    exact runesD_append ha hb
  rw [strB_some hr, strB_some ha, strB_some hb, bstr_append, ← encT_append, hg]
theorem strB_count {g : List Nat → List Nat} (hg : KeepsR g) {s : ByteArray} {rs : List Nat} (h : runesD s.data.toList = some rs) : runesD (strB g s).data.toList = some (g rs) := by
  rw [strB_runes hg, h]; rfl
end Go.Proofs.YthhiillmodacmaaDoor
