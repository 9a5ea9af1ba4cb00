/- Conversions between characters and strings, as the model makes them; what a string becomes. -/
import Derived.Test.YthhiillmodacmaaDoorKanaD
import Derived.Test.YthhiillmodacmaaDoorMem
import Derived.Laws.Runes
import Derived.Laws.Cover4
import Derived.Laws.IdiomStrings
namespace Go.Proofs.YthhiillmodacmaaDoor
open Go.RowKit Go.Lib Hk
set_option linter.unusedSimpArgs false
set_option linter.unusedVariables false
set_option maxRecDepth 100000

/-- A string of bytes. -/
def bstr (l : List UInt8) : ByteArray := ⟨l.toArray⟩
theorem bstr_data (l : List UInt8) : (bstr l).data.toList = l := by simp [bstr]
theorem bstr_toList (l : List UInt8) : (bstr l).toList = l := by rw [ByteArray.toList_eq, bstr_data]
theorem bstr_size (l : List UInt8) : (bstr l).size = l.length := by show (List.toArray l).size = _; simp
theorem bstr_eta (s : ByteArray) : bstr s.data.toList = s := by simp [bstr]
theorem ba_ext {a b : ByteArray} (h : a.data.toList = b.data.toList) : a = b := by rw [← bstr_eta a, h, bstr_eta]
theorem bstr_append (a b : List UInt8) : bstr a ++ bstr b = bstr (a ++ b) := by
  apply ba_ext
  rw [bstr_data, ByteArray.data_append, Array.toList_append, bstr_data, bstr_data]

theorem toU8_eq {z : Int} {n : Nat} (h : z = (n : Int)) : z.toNat.toUInt8 = n.toUInt8 := by subst h; simp
theorem utf8_encode (r : Nat) (h : isRune r) : Utf8.encode (r : Int) = bstr (encodeRune (r : Int)) := by
  apply ba_ext
  rw [bstr_data]
  unfold isRune at h
  have v : Utf8.valid (r : Int) = true := by simp [Utf8.valid]; omega
  unfold encodeRune
  by_cases c1 : r < 128
  · rw [encodeRuneZ_one (by omega) (by omega)]
    simp [Utf8.encode, v, c1]
  by_cases c2 : r < 2048
  · rw [encodeRuneZ_two (by omega) (by omega)]
    simp only [List.map_cons, List.map_nil]
    rw [toU8_eq (n := 192 + r / 64) (by omega), toU8_eq (n := 128 + r % 64) (by omega)]
    simp only [Utf8.encode, v, Int.toNat_natCast, c1, c2, if_true, if_false]
  by_cases c3 : r < 65536
  · rw [encodeRuneZ_three (by omega)]
    simp only [List.map_cons, List.map_nil]
    rw [toU8_eq (n := 224 + r / 4096) (by omega), toU8_eq (n := 128 + r / 64 % 64) (by omega), toU8_eq (n := 128 + r % 64) (by omega)]
    simp only [Utf8.encode, v, Int.toNat_natCast, c1, c2, c3, if_true, if_false]
  · rw [encodeRuneZ_four (by omega) (by omega)]
    simp only [List.map_cons, List.map_nil]
    rw [toU8_eq (n := 240 + r / 262144) (by omega), toU8_eq (n := 128 + r / 4096 % 64) (by omega), toU8_eq (n := 128 + r / 64 % 64) (by omega), toU8_eq (n := 128 + r % 64) (by omega)]
    simp only [Utf8.encode, v, Int.toNat_natCast, c1, c2, c3, if_true, if_false]

theorem runesBytes_from : ∀ (rs : List Nat) (s : ByteArray), (∀ r ∈ rs, isRune r) → (rs.map fun (r : Nat) => (r : Int)).foldl (fun r n => r ++ Utf8.encode n) s = s ++ bstr (encT rs)
  | [], s, _ => by simp [encT_nil, bstr]; apply ba_ext; simp
  | r :: rs, s, h => by
    rw [List.map_cons, List.foldl_cons, runesBytes_from rs _ fun x hx => h x (List.mem_cons_of_mem _ hx), utf8_encode r (h r List.mem_cons_self), encT_cons, ByteArray.append_assoc, bstr_append]
theorem runesBytes_eq (rs : List Nat) (h : ∀ r ∈ rs, isRune r) : runesBytes (rs.map fun (r : Nat) => (r : Int)) = bstr (encT rs) := by
  unfold runesBytes
  rw [runesBytes_from rs _ h]
  apply ba_ext
  simp

theorem runesFrom_eq (s : ByteArray) : ∀ (f pos : Nat) (rs : List Nat) (acc : Array Value), s.size ≤ pos + f → runesD (s.data.toList.drop pos) = some rs → Conv.runesFrom s f pos acc = acc ++ (runeCellsOf rs).toArray
  | 0, pos, rs, acc, h, hr => by
    have hn : s.data.toList.drop pos = [] := List.drop_eq_nil_of_le (by have h2 : s.size = s.data.toList.length := by simp
                                                                        omega)
    rw [hn, runesD_nil] at hr
    obtain rfl := Option.some.inj hr
    simp [Conv.runesFrom, runeCellsOf]
  | f + 1, pos, rs, acc, h, hr => by
    have h2 : s.size = s.data.toList.length := by simp
    unfold Conv.runesFrom
    by_cases hp : pos < s.size
    · rw [if_pos hp]
      have hne := drop_ne_nil s pos hp
      rw [runesD_step _ hne] at hr
      by_cases hb : badAt (s.data.toList.drop pos)
      · rw [if_pos hb] at hr; cases hr
      · rw [if_neg hb] at hr
        obtain ⟨rs', h1, rfl⟩ := Option.map_eq_some_iff.1 hr
        have hw := decodeL_width (s.data.toList.drop pos)
        rw [decodeL_drop] at hw h1 ⊢
        rw [List.drop_drop] at h1
        show Conv.runesFrom s f (pos + (Utf8.decode s pos).2) (acc.push (.int .i32 (Int.ofNat (Utf8.decode s pos).1))) = _
        rw [runesFrom_eq s f _ rs' _ (by omega) h1]
        simp [runeCellsOf]
    · rw [if_neg hp]
      have hn : s.data.toList.drop pos = [] := List.drop_eq_nil_of_le (by omega)
      rw [hn, runesD_nil] at hr
      obtain rfl := Option.some.inj hr
      simp [runeCellsOf]
theorem runesFrom_all (s : ByteArray) (rs : List Nat) (h : runesD s.data.toList = some rs) : Conv.runesFrom s s.size 0 #[] = (runeCellsOf rs).toArray := by
  rw [runesFrom_eq s s.size 0 rs #[] (by omega) (by simpa using h)]
  simp

/-- What becomes of a string by what becomes of its characters; a string that is not valid stays. -/
def strF (g : List Nat → List Nat) (l : List UInt8) : List UInt8 := match runesD l with
  | some rs => encT (g rs)
  | none => l
def strB (g : List Nat → List Nat) (s : ByteArray) : ByteArray := bstr (strF g s.data.toList)
abbrev hiraS : ByteArray → ByteArray := strB (List.map hiraC)
abbrev kataS : ByteArray → ByteArray := strB (List.map kataC)
abbrev wideS : ByteArray → ByteArray := strB (List.map wideC)
abbrev narrowS : ByteArray → ByteArray := strB (List.map narrowC)
abbrev halfS : ByteArray → ByteArray := strB (fun rs => rs.flatMap halfC)
abbrev fullS : ByteArray → ByteArray := strB fullC
theorem strB_none {g : List Nat → List Nat} {s : ByteArray} (h : runesD s.data.toList = none) : strB g s = s := by unfold strB strF; rw [h]; exact bstr_eta s
theorem strB_some {g : List Nat → List Nat} {s : ByteArray} {rs : List Nat} (h : runesD s.data.toList = some rs) : strB g s = bstr (encT (g rs)) := by unfold strB strF; rw [h]
/-- What keeps characters characters. -/
def KeepsR (g : List Nat → List Nat) : Prop := ∀ rs, (∀ r ∈ rs, isRune r) → ∀ r ∈ g rs, isRune r
theorem keeps_map {f : Nat → Nat} (h : ∀ {r}, isRune r → isRune (f r)) : KeepsR (List.map f) := fun rs hr r hm => by
  obtain ⟨x, hx, rfl⟩ := List.mem_map.1 hm
  exact h (hr x hx)
theorem keeps_hira : KeepsR (List.map hiraC) := keeps_map hira_rune
theorem keeps_kata : KeepsR (List.map kataC) := keeps_map kata_rune
theorem keeps_wide : KeepsR (List.map wideC) := keeps_map wide_rune
theorem keeps_narrow : KeepsR (List.map narrowC) := keeps_map narrow_rune
theorem keeps_half : KeepsR (fun rs => rs.flatMap halfC) := fun rs h => half_rune h
theorem keeps_full : KeepsR fullC := fun rs h => full_rune rs h
theorem strB_runes {g : List Nat → List Nat} (hg : KeepsR g) (s : ByteArray) : runesD (strB g s).data.toList = (runesD s.data.toList).map g := by
  cases h : runesD s.data.toList with
  | none => rw [strB_none h, h]; rfl
  | some rs =>
    rw [strB_some h, bstr_data]
    exact runesD_enc _ (hg rs (runesD_are h))
theorem strB_strB {f g : List Nat → List Nat} (hg : KeepsR g) (s : ByteArray) : strB f (strB g s) = strB (fun rs => f (g rs)) s := by
  cases h : runesD s.data.toList with
  | none => rw [strB_none h, strB_none h, strB_none h]
  | some rs =>
    have := strB_runes hg s
    rw [h] at this
    rw [strB_some this, strB_some h]
theorem strB_congr {f g : List Nat → List Nat} (h : ∀ rs, f rs = g rs) (s : ByteArray) : strB f s = strB g s := by rw [show f = g from funext h]
theorem strB_size {g : List Nat → List Nat} (hg : ∀ rs, (g rs).length ≤ 2 * rs.length) (s : ByteArray) : (strB g s).size ≤ 8 * s.size := by
  cases h : runesD s.data.toList with
  | none => rw [strB_none h]; omega
  | some rs =>
    rw [strB_some h, bstr_size]
    have h1 := (encT_len (g rs)).2
    have h2 := hg rs
    have h3 := runesD_length _ _ _ (Nat.le_refl _) h
    have h4 : s.size = s.data.toList.length := by simp
    omega
theorem map_len2 (f : Nat → Nat) (rs : List Nat) : (rs.map f).length ≤ 2 * rs.length := by rw [List.length_map]; omega
theorem half_len2 (rs : List Nat) : (rs.flatMap halfC).length ≤ 2 * rs.length := (half_len rs).2
theorem full_len2 (rs : List Nat) : (fullC rs).length ≤ 2 * rs.length := by have := (full_len rs).1; omega
theorem strB_valid {g : List Nat → List Nat} (hg : KeepsR g) (s : ByteArray) : validD (strB g s).data.toList = validD s.data.toList := by
  rw [validD_eq, validD_eq, strB_runes hg]
  cases runesD s.data.toList <;> rfl
end Go.Proofs.YthhiillmodacmaaDoor
