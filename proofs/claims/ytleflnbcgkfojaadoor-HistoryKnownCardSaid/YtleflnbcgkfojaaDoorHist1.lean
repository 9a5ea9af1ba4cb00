/- What the function literal of history.Keys does. -/
import Derived.Test.YtleflnbcgkfojaaDoorKeysR
import Derived.Test.YtleflnbcgkfojaaDoorKana1
import Derived.Test.YtleflnbcgkfojaaDoorMap
namespace Go.Proofs.YtleflnbcgkfojaaDoor
open Go.RowKit Go.Lib Go.Shelf Hk Go.Maps
set_option linter.unusedSimpArgs false
set_option linter.unusedVariables false
set_option maxRecDepth 100000

instance memDec (s : ByteArray) (l : List ByteArray) : Decidable (s ∈ l) := @List.instDecidableMemOfLawfulBEq ByteArray instBEqOfDecidableEq _ s l

/-- The strings of a list as what a map of bools holds. -/
def setF (l : List ByteArray) : Lit → Option Lit
  | .string bs => if (⟨bs.toArray⟩ : ByteArray) ∈ l then some (.bool true) else none
  | _ => none
theorem mk_list (s : ByteArray) : (⟨s.data.toList.toArray⟩ : ByteArray) = s := by simp
theorem setF_at (l : List ByteArray) (s : ByteArray) : setF l (.string s.data.toList) = if decide (s ∈ l) then some (.bool true) else none := by
  show (if _ then _ else _) = _
  rw [mk_list]
  by_cases h : s ∈ l <;> simp [h]
theorem setF_put (l : List ByteArray) (s : ByteArray) : putF (setF l) (.string s.data.toList) (.bool true) = setF (l ++ [s]) := by
  funext y
  by_cases hy : y = .string s.data.toList
  · subst hy
    rw [putF_same, setF_at]
    simp
  · rw [putF_other _ _ hy]
    cases y with
    | string bs =>
      unfold setF
      have hne : (⟨bs.toArray⟩ : ByteArray) ≠ s := fun e => hy (by rw [← e])
      simp only [List.mem_append, List.mem_singleton, hne, or_false]
    | _ => rfl
theorem setF_nil : setF [] = fun _ => none := by
  funext y
  cases y <;> simp [setF]

/-- The keys so far, each once, at most 64: one more. -/
def addK (l : List ByteArray) : Option (List UInt8) → List ByteArray
  | some k => if l.length < 64 ∧ (⟨k.toArray⟩ : ByteArray) ∉ l then l ++ [⟨k.toArray⟩] else l
  | none => l
theorem addK_some (l : List ByteArray) (k : List UInt8) (S : ByteArray) (hS : S = ⟨k.toArray⟩) : addK l (some k) = if l.length < 64 ∧ S ∉ l then l ++ [S] else l := by subst hS; rfl
theorem addK_len (l : List ByteArray) (o : Option (List UInt8)) (h : l.length ≤ 64) : (addK l o).length ≤ 64 := by
  cases o with
  | none => exact h
  | some k =>
    rw [addK_some l k _ rfl]
    split
    · rw [List.length_append, List.length_singleton]; omega
    · exact h

/-- The variables of history.Keys: the box of seen, the box of l, the map, the list. -/
structure KSt (w : World) (B gs gl m : Nat) (l : List ByteArray) : Prop where
  seen : w.heap[gs]? = some (.cells #[.map (some m)] 31 (0, 0))
  list : ∃ v, w.heap[gl]? = some (.cells #[v] 26 (0, 0)) ∧ w.ownsRow B 9 1 v l.length (l.map Value.string)
  map : MapIs w 9 4 m l.length (setF l)
  low : B ≤ gs ∧ B ≤ gl ∧ B ≤ m

/-- Blocks of other types than strings, but for the list's box, are as they were. -/
def Keeps (gl : Nat) (w w' : World) : Prop := ∀ k c t, w.heap[k]? = some (.cells c t (0, 0)) → t ≠ 9 → k ≠ gl → w'.heap[k]? = some (.cells c t (0, 0))

theorem KSt.below {w w' : World} {B gs gl m : Nat} {l : List ByteArray} (h : KSt w B gs gl m l) (hb : Below w.heap.size w w') : KSt w' B gs gl m l := by
  obtain ⟨v, h1, h2⟩ := h.list
  exact ⟨(hb.block gs (heap_lt h.seen)).trans h.seen, ⟨v, (hb.block gl (heap_lt h1)).trans h1, owns_below h2 hb⟩, h.map.below hb, h.low⟩
theorem Keeps.of_below {gl : Nat} {w w' : World} (hb : Below w.heap.size w w') : Keeps gl w w' := fun k c t h _ _ => (hb.block k (heap_lt h)).trans h
theorem Keeps.trans {gl : Nat} {a b c : World} (h : Keeps gl a b) (k : Keeps gl b c) : Keeps gl a c := fun i x t hi ht hg => k i x t (h i x t hi ht hg) ht hg

theorem law_str : Keyed Tryd.prog 9 := string_keyed Tryd.underlying9
theorem zero_bool (w : World) : (zeroValue 4).run Tryd.prog w = .ok (.bool false) w := by kernel_rfl
theorem Tryd.info9 : (Tryd.prog.info? 9).map (fun i => (i.zero, i.size, i.bytes)) = some (some (.string ⟨#[]⟩), 1, 16) := by kernel_rfl

/-- A key was stored in the map and put behind the list. -/
theorem KSt.put {w1 w2 w3 : World} {B gs gl m : Nat} {l : List ByteArray} {v v' : Value} {s : ByteArray} (hs : w1.heap[gs]? = some (.cells #[.map (some m)] 31 (0, 0))) (hl : w1.heap[gl]? = some (.cells #[v] 26 (0, 0)))
    (ho : w1.ownsRow B 9 1 v l.length (l.map Value.string)) (hm1 : MapIs w1 9 4 m l.length (setF l)) (low : B ≤ gs ∧ B ≤ gl ∧ B ≤ m) (hB : B ≤ w1.heap.size)
    (hm2 : MapIs w2 9 4 m (l.length + 1) (putF (setF l) (.string s.data.toList) (.bool true))) (hg2 : w1.grownBy w2 (some m))
    (ho3 : w3.ownsRow B 9 1 v' (l.length + 1) (l.map Value.string ++ [.string s])) (hg3 : (w2.alloc (.cells #[.string s] 9)).grownBy w3 v.ownBlock) :
    KSt (w3.setCell ⟨gl, 0, none⟩ v') B gs gl m (l ++ [s]) ∧ Below B w1 (w3.setCell ⟨gl, 0, none⟩ v') ∧ Keeps gl w1 (w3.setCell ⟨gl, 0, none⟩ v') ∧ w3.heap[gl]? = some (.cells #[v] 26 (0, 0)) := by
  have step : ∀ (k : Nat) (c : Array Value) (t : TypeId), w1.heap[k]? = some (Obj.cells c t (0, 0)) → t ≠ 9 → w3.heap[k]? = some (Obj.cells c t (0, 0)) := by
    intro k c t hk ht
    have hlt := heap_lt hk
    have h2 : w2.heap[k]? = some (.cells c t (0, 0)) := (hg2.block k hlt (fun e => hm1.notCells hk (by injection e))).trans hk
    have h2a : (w2.alloc (.cells #[.string s] 9)).heap[k]? = some (.cells c t (0, 0)) := (Below.heap_alloc w2 _ k (heap_lt h2)).trans h2
    exact (hg3.block k (heap_lt h2a) (fun e => own_other ho hk ht e.symm)).trans h2a
  have hs3 := step gs _ _ hs (by decide)
  have hl3 := step gl _ _ hl (by decide)
  have hgne : gs ≠ gl := by
    rintro rfl
    rw [hs] at hl
    cases hl
  have hm3 : MapIs w3 9 4 m (l.length + 1) (setF (l ++ [s])) := by
    rw [← setF_put]
    exact (hm2.kept (World.grownBy_alloc w2 _ none) (by simp)).kept hg3 (fun e => own_notMap ho hm1 e.symm)
  have hgm : some m ≠ some gl := fun e => hm3.notCells hl3 (by injection e with e; exact e.symm)
  refine ⟨⟨?_, ⟨v', heap_store_same hl3, ?_⟩, ?_, low⟩, ?_, ?_, hl3⟩
  · exact (Below.heap_setCell w3 _ _ gs hgne).trans hs3
  · have := ho3.kept (grown_setCell w3 ⟨gl, 0, none⟩ v') (.inr (own_other ho3 hl3 (by decide)))
    simpa using this
  · have := hm3.kept (grown_setCell w3 ⟨gl, 0, none⟩ v') hgm
    simpa using this
  · have hb2 : Below B w1 w2 := (Below.refl B w1).grown hg2 hB fun g e => by injection e with e; rw [← e]; exact low.2.2
    have hb3 : Below B w1 w3 := (hb2.alloc (Nat.le_trans hB hb2.size) _).grown hg3 (by have := hb2.size; simp; omega) fun g e => (ho.lt g e).1
    exact hb3.setCell low.2.1 _
  · intro k c t hk ht hne
    exact (Below.heap_setCell w3 _ _ k hne).trans (step k c t hk ht)

def AddPost (kind : Int) (a b : ByteArray) (w : World) (B gs gl m : Nat) (l : List ByteArray) (e : Ending) (w' : World) : Prop :=
  e = .returned (.bool (kmk kind a.data.toList b.data.toList).isSome) ∧ KSt w' B gs gl m (addK l (kmk kind a.data.toList b.data.toList)) ∧ Below B w w' ∧ Keeps gl w w'

set_option maxHeartbeats 2000000 in
theorem add_calls (kind : Int) (a b : ByteArray) (w : World) (B gs gl m : Nat) (l : List ByteArray) (h : KSt w B gs gl m l) (hl : l.length ≤ 64) (ha : a.size ≤ 4611686018427387903) (hb : b.size ≤ 4611686018427387903) (hB : B ≤ w.heap.size) (he : Env w) :
    Calls Tryd.prog 27 #[.int .i64 kind, .string a, .string b, .pointer (some ⟨gs, 0, none⟩), .pointer (some ⟨gl, 0, none⟩)] w (AddPost kind a b w B gs gl m l) := by
  obtain ⟨i0, hi, hz0, hz1, hz2⟩ := info_parts Tryd.info9
  have CM := Lib.hid (make_calls kind a b w ha hb he)
  have HS := Lib.hid h
  clear h he ha hb
  cases hk : kmk kind a.data.toList b.data.toList with
  | none =>
    rw [MakePost_none hk] at CM
    have HK := Lib.hid hk
    clear hk
    go_enter Tryd.func27, Tryd.ntmps27
    go_wp2_with fail
    refine CM.out.mono ?_
    rintro e w1 ⟨rfl, hb1⟩
    go_wp2_with fail
    go_ret
    refine ⟨by rw [HK.out]; exact ret_bool rfl, ?_, hb1.mono hB, Keeps.of_below hb1⟩
    rw [HK.out]
    exact HS.out.below hb1
  | some key =>
    rw [MakePost_some hk] at CM
    have hkl : key.length ≤ 400 := by
      obtain ⟨_, _, _, h1, rfl⟩ := kmk_some hk
      simp only [List.length_cons, List.length_append]; omega
    have HK := Lib.hid hk
    clear hk
    obtain ⟨S, hS⟩ : ∃ S : ByteArray, S = ⟨key.toArray⟩ := ⟨_, rfl⟩
    have hSs : S.size ≤ maxLen := by
      rw [hS]
      show key.toArray.size ≤ _
      unfold maxLen
      simp; omega
    have hkey : keyOf Tryd.prog 9 (.string S) = some (.string S.data.toList) := Go.WideMaps.keyOf_string_mk Tryd.underlying9 hSs
    have hHS := Lib.hid hS
    rw [← hS] at CM
    clear hS
    go_enter Tryd.func27, Tryd.ntmps27
    go_wp2_with fail
    refine CM.out.mono ?_
    rintro e w1 ⟨rfl, hb1⟩
    have hS1 := HS.out.below hb1
    obtain ⟨v, hlv, hown⟩ := hS1.list
    have hseen := hS1.seen
    have hmap := hS1.map
    have c1 := heap_cell hseen
    have c2 := heap_cell hlv
    have hlook := hmap.look_bool (t := 31) law_str Tryd.underlying31 Tryd.underlying4 (zero_bool _) hkey (by trivial) (setF_at l S)
    have HS1 := Lib.hid hS1
    obtain ⟨A, cv, rfl, hvc, _⟩ := own_slice hown
    by_cases hin : S ∈ l
    · rw [decide_eq_true hin] at hlook
      have HA : Hid (addK l (some key) = l) := by
        show _ = _
        rw [addK_some l key S hHS.out, if_neg (fun e => e.2 hin)]
      clear hS1 hlv hown hseen hmap hin hkey
      go_wp2_with fail
      go_ret
      refine ⟨by rw [HK.out]; exact ret_bool rfl, ?_, hb1.mono hB, Keeps.of_below hb1⟩
      rw [HK.out, HA.out]
      exact HS1.out
    · rw [decide_eq_false hin] at hlook
      by_cases hfull : l.length < 64
      · have HA : Hid (addK l (some key) = l ++ [S]) := by
          show _ = _
          rw [addK_some l key S hHS.out, if_pos ⟨hfull, hin⟩]
        have g1 : decide ((l.length : Int) < 64) = true := decide_eq_true (by omega)
        have g2 : decide (l.length < 64) = true := decide_eq_true (by omega)
        have H1 := Lib.hid hseen
        have H2 := Lib.hid hlv
        have low := hS1.low
        have hB1 := Nat.le_trans hB hb1.size
        clear hin hS1 hlv hseen HS1 HS
        go_wp2_with (at_mapUpdate; refine wpList_put hmap rfl _ _ _ rfl law_str Tryd.underlying31 rfl ?n1 (.string S) (.bool true) (.string S.data.toList) (.bool true) rfl rfl hkey trivial (plainElem_bool Tryd.underlying4 true) ?_)
        case n1 => unfold maxLen; omega
        intro w2 hm2 hg2
        have H3 : Hid (w2.heap[gl]? = some (.cells #[.slice A l.length cv] 26 (0, 0))) := (hg2.block gl (heap_lt H2.out) (fun e => hmap.notCells H2.out (by injection e))).trans H2.out
        have c2' := heap_cell H3.out
        have ho2 := hown.kept hg2 (.inr (own_notMap hown hmap))
        clear c1 c2 hlook g1 g2
        go_wp2_with (at_builtin; refine wpList_append_own _ rfl _ _ 26 rfl B 9 i0 (.string ⟨#[]⟩) 1 16 Tryd.underlying26 hi hz0 hz1 hz2 rfl (by decide) _ _ _ rfl (ho2.alloc _) ⟨w2.heap.size, 0, none⟩ 1 1 [.string S] rfl rfl ?k1 ?k2 ?k3 ?k4 ?k5 ?_)
        case k1 => exact cell_one_new _ _ _
        case k2 => intro u hu; simp at hu; subst hu; rfl
        case k3 => unfold maxLen; omega
        case k4 => omega
        case k5 => have := hg2.size; simp; omega
        intro v' w3 ho3 hg3 _
        obtain ⟨A3, cv3, rfl, _⟩ := own_slice ho3
        obtain ⟨p1, p2, p3, p4⟩ := KSt.put (s := S) H1.out H2.out hown hmap low hB1 hm2 hg2 ho3 hg3
        have c3 := heap_cell p4
        have f3 := heap_free p4
        clear c2' ho2 ho3 hg3 hm2 hg2 hown hmap
        have P1 := Lib.hid p1
        have P4 := Lib.hid p4
        clear p1 p4
        go_wp2_with fail
        go_ret
        refine ⟨by rw [HK.out]; exact ret_bool rfl, ?_, (hb1.mono hB).trans p2, (Keeps.of_below hb1).trans p3⟩
        rw [HK.out, HA.out]
        exact P1.out
      · have HA : Hid (addK l (some key) = l) := by
          show _ = _
          rw [addK_some l key S hHS.out, if_neg (fun e => hfull e.1)]
        have g1 : decide ((l.length : Int) < 64) = false := decide_eq_false (by omega)
        have g2 : decide (l.length < 64) = false := decide_eq_false (by omega)
        clear hin hS1 hlv hown hseen hmap hkey
        generalize l.length = n at *
        go_wp2_with fail
        go_ret
        refine ⟨by rw [HK.out]; exact ret_bool rfl, ?_, hb1.mono hB, Keeps.of_below hb1⟩
        rw [HK.out, HA.out]
        exact HS1.out
end Go.Proofs.YtleflnbcgkfojaaDoor
