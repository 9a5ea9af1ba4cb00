/- Plain laws about the map of kana.Full: from half-width forms to characters; what it holds while it is being filled, in whatever order. -/
import Derived.Test.YthhiillmodacmaaDoorKanaF
import Derived.Maps.RangeWalk
import Derived.Maps.StringElems
namespace Go.Proofs.YthhiillmodacmaaDoor
open Go.RowKit Go.Lib Go.Maps Hk
set_option linter.unusedSimpArgs false
set_option linter.unusedVariables false
set_option maxRecDepth 100000

theorem encT_inj {a b : List Nat} (ha : ∀ r ∈ a, isRune r) (hb : ∀ r ∈ b, isRune r) (h : encT a = encT b) : a = b := by
  have h1 := runesD_enc a ha
  rw [h, runesD_enc b hb] at h1
  exact (Option.some.inj h1).symm

/-- The two marks. -/
noncomputable def baseF : Lit → Option Lit := putF (putF (fun _ => none) (.string (encT [65438])) (.string (encT [12443]))) (.string (encT [65439])) (.string (encT [12444]))
/-- What the map holds when those that are left are still to come. -/
noncomputable def revF (left : Lit → Bool) : List (Nat × List Nat) → Lit → Option Lit
  | [] => baseF
  | (c, h) :: l => if left (.int .i32 (c : Int)) = true then revF left l else putF (revF left l) (.string (encT h)) (.string (encT [c]))
theorem putF_comm (f : Lit → Option Lit) {a b u v : Lit} (h : a ≠ b) : putF (putF f a u) b v = putF (putF f b v) a u := by
  funext y
  by_cases h1 : y = b
  · subst h1
    rw [putF_same, putF_other _ _ (Ne.symm h), putF_same]
  · rw [putF_other _ _ h1]
    by_cases h2 : y = a
    · subst h2
      rw [putF_same, putF_same]
    · rw [putF_other _ _ h2, putF_other _ _ h2, putF_other _ _ h1]
theorem revF_congr {left left' : Lit → Bool} : ∀ l : List (Nat × List Nat), (∀ x ∈ l, left (.int .i32 (x.1 : Int)) = left' (.int .i32 (x.1 : Int))) → revF left l = revF left' l
  | [], _ => rfl
  | (c, h) :: l, hh => by
    have h1 := hh _ List.mem_cons_self
    have h2 := revF_congr l fun x hx => hh x (List.mem_cons_of_mem _ hx)
    simp only at h1
    rw [revF, revF, h1, h2]
theorem revF_start {left : Lit → Bool} : ∀ l : List (Nat × List Nat), (∀ x ∈ l, left (.int .i32 (x.1 : Int)) = true) → revF left l = baseF
  | [], _ => rfl
  | (c, h) :: l, hh => by
    have h1 := hh _ List.mem_cons_self
    simp only at h1
    rw [revF, if_pos h1, revF_start l fun x hx => hh x (List.mem_cons_of_mem _ hx)]
/-- No two entries have one character or one form. -/
def distB : List (Nat × List Nat) → Bool
  | [] => true
  | x :: l => (l.all fun y => !(y.1 == x.1) && !(y.2 == x.2)) && distB l
theorem forms_dist : distB formsL = true := by decide +kernel
theorem key_ne {a b : Nat} (h : a ≠ b) : Lit.int .i32 (a : Int) ≠ .int .i32 (b : Int) := fun e => by
  injection e with _ e
  omega
theorem sameKey_int (a b : Nat) : (Lit.int .i32 (a : Int)).sameKey (.int .i32 (b : Int)) = decide (a = b) := by
  by_cases h : a = b
  · subst h; simp [Lit.sameKey]
  · rw [decide_eq_false h]
    simp [Lit.sameKey]
    omega
def runesB (h : List Nat) : Bool := h.all runeB
theorem runesB_iff {h : List Nat} (e : runesB h = true) : ∀ r ∈ h, isRune r := all_rune e
theorem forms_runes : formsL.all (fun x => runesB x.2 && runeB x.1) = true := by decide +kernel
theorem revF_step {left : Lit → Bool} (x : Nat) (hx : List Nat) (hl : left (.int .i32 (x : Int)) = true) : ∀ l : List (Nat × List Nat), distB l = true → l.all (fun y => runesB y.2 && runeB y.1) = true → (x, hx) ∈ l →
    putF (revF left l) (.string (encT hx)) (.string (encT [x])) = revF (fun z => left z && !z.sameKey (.int .i32 (x : Int))) l
  | [], _, _, h => by cases h
  | (c, h) :: l, hd, hr, hm => by
    unfold distB at hd
    rw [Bool.and_eq_true, List.all_eq_true] at hd
    obtain ⟨hd1, hd2⟩ := hd
    rw [List.all_cons, Bool.and_eq_true] at hr
    obtain ⟨hr1, hr2⟩ := hr
    rw [Bool.and_eq_true] at hr1
    by_cases hc : c = x
    · subst hc
      have hh : h = hx := by
        rcases List.mem_cons.1 hm with e | e
        · injection e with _ e2; exact e2.symm
        · have := hd1 _ e
          simp at this
      subst hh
      rw [revF, if_pos hl, revF]
      have e1 : ((left (.int .i32 (c : Int))) && !(Lit.int .i32 (c : Int)).sameKey (.int .i32 (c : Int))) = false := by rw [sameKey_int]; simp
      simp only [e1]
      rw [if_neg (by simp)]
      congr 1
      refine revF_congr l fun y hy => ?_
      have := hd1 y hy
      simp only [Bool.and_eq_true, Bool.not_eq_true', beq_eq_false_iff_ne] at this
      rw [sameKey_int, decide_eq_false this.1]
      simp
    · have hm2 : (x, hx) ∈ l := by
        rcases List.mem_cons.1 hm with e | e
        · injection e with e1 e2; exact absurd e1.symm hc
        · exact e
      have ih := revF_step x hx hl l hd2 hr2 hm2
      have hne : h ≠ hx := by
        have := hd1 _ hm2
        simp only [Bool.and_eq_true, Bool.not_eq_true', beq_eq_false_iff_ne] at this
        exact fun e => this.2 e.symm
      have hrx := List.all_eq_true.1 hr2 _ hm2
      rw [Bool.and_eq_true] at hrx
      have hke : Lit.string (encT h) ≠ .string (encT hx) := fun e => by
        injection e with e
        exact hne (encT_inj (runesB_iff hr1.1) (runesB_iff hrx.1) e)
      rw [revF, revF]
      simp only [sameKey_int, decide_eq_false hc, Bool.not_false, Bool.and_true]
      by_cases hlc : left (.int .i32 (c : Int)) = true
      · rw [if_pos hlc, if_pos hlc, ih]
      · rw [if_neg hlc, if_neg hlc, putF_comm _ hke, ih]

/-- The full map, asked by characters. -/
theorem revF_at (q : List Nat) (hq : ∀ r ∈ q, isRune r) : ∀ l : List (Nat × List Nat), l.all (fun y => runesB y.2 && runeB y.1) = true →
    revF (fun _ => false) l (.string (encT q)) = match l.find? (fun x => x.2 == q) with
      | some x => some (.string (encT [x.1]))
      | none => baseF (.string (encT q))
  | [], _ => rfl
  | (c, h) :: l, hr => by
    rw [List.all_cons, Bool.and_eq_true] at hr
    obtain ⟨hr1, hr2⟩ := hr
    rw [Bool.and_eq_true] at hr1
    rw [revF, if_neg (by simp), List.find?_cons]
    by_cases hh : h = q
    · subst hh
      rw [putF_same]
      simp
    · have hke : Lit.string (encT q) ≠ .string (encT h) := fun e => by
        injection e with e
        exact hh (encT_inj (runesB_iff hr1.1) hq e.symm)
      have hb : (h == q) = false := by simpa using hh
      rw [putF_other _ _ hke, revF_at q hq l hr2]
      simp only [hb]
theorem baseF_at (q : List Nat) (hq : ∀ r ∈ q, isRune r) : baseF (.string (encT q)) = if q = [65438] then some (.string (encT [12443])) else if q = [65439] then some (.string (encT [12444])) else none := by
  have inj : ∀ z : Nat, isRune z → q ≠ [z] → Lit.string (encT q) ≠ .string (encT [z]) := fun z hz hne e => by
    injection e with e
    exact hne (encT_inj hq (fun r hr => by simp at hr; subst hr; exact hz) e)
  have i1 := inj 65438 (by unfold isRune; omega)
  have i2 := inj 65439 (by unfold isRune; omega)
  unfold baseF
  by_cases h1 : q = [65439]
  · subst h1
    rw [putF_same, if_neg (by simp), if_pos rfl]
  · rw [putF_other _ _ (i2 h1)]
    by_cases h2 : q = [65438]
    · subst h2
      rw [putF_same, if_pos rfl]
    · rw [putF_other _ _ (i1 h2), if_neg h2, if_neg h1]
theorem tab_mem : ∀ i : Fin 61, (tableL.getD i.val 0, [65377 + i.val]) ∈ formsL := by decide +kernel
theorem mark_mem : ∀ i : Fin 61, (markedD (tableL.getD i.val 0) 65438 = 0 ∨ (markedD (tableL.getD i.val 0) 65438, [65377 + i.val, 65438]) ∈ formsL) ∧ (markedD (tableL.getD i.val 0) 65439 = 0 ∨ (markedD (tableL.getD i.val 0) 65439, [65377 + i.val, 65439]) ∈ formsL) := by decide +kernel
theorem find_none {q : List Nat} (h : formsL.find? (fun x => x.2 == q) = none) (c : Nat) : (c, q) ∉ formsL := fun hm => by
  have := List.find?_eq_none.1 h _ hm
  simp at this
theorem find_some {q : List Nat} {x : Nat × List Nat} (h : formsL.find? (fun x => x.2 == q) = some x) : formOk x = true ∧ x.2 = q := by
  have hm := List.mem_of_find?_eq_some h
  have hp := List.find?_some h
  exact ⟨List.all_eq_true.1 forms_ok _ hm, by simpa using hp⟩
/-- One character. -/
theorem full_one (c : Nat) (hc : isRune c) : revF (fun _ => false) formsL (.string (encT [c])) = if inTab c = true then some (.string (encT [tabD c])) else if c = 65438 ∨ c = 65439 then some (.string (encT [markC c])) else none := by
  rw [revF_at [c] (fun r hr => by simp at hr; subst hr; exact hc) _ forms_runes]
  cases hf : formsL.find? (fun x => x.2 == [c]) with
  | some x =>
    obtain ⟨h1, h2⟩ := find_some hf
    obtain ⟨x1, x2⟩ := x
    simp only at h2
    subst h2
    unfold formOk at h1
    simp only [Bool.and_eq_true, beq_iff_eq, decide_eq_true_eq] at h1
    rw [if_pos h1.1.1, h1.1.2]
  | none =>
    have ht : inTab c = false := by
      rw [← Bool.not_eq_true, inTab_iff]
      intro h
      have := tab_mem ⟨c - 65377, by omega⟩
      simp only at this
      rw [show 65377 + (c - 65377) = c by omega] at this
      exact find_none hf _ this
    rw [ht, if_neg (by simp), baseF_at _ (fun r hr => by simp at hr; subst hr; exact hc)]
    by_cases h1 : c = 65438
    · subst h1; rfl
    · by_cases h2 : c = 65439
      · subst h2; rfl
      · simp [h1, h2]
/-- Two characters. -/
theorem full_two (c m : Nat) (hc : isRune c) (hm : isRune m) : revF (fun _ => false) formsL (.string (encT [c, m])) = if inTab c = true ∧ markedD (tabD c) m ≠ 0 then some (.string (encT [markedD (tabD c) m])) else none := by
  have hr : ∀ r ∈ [c, m], isRune r := fun r hr => by
    simp at hr
    rcases hr with rfl | rfl
    · exact hc
    · exact hm
  rw [revF_at [c, m] hr _ forms_runes]
  cases hf : formsL.find? (fun x => x.2 == [c, m]) with
  | some x =>
    obtain ⟨h1, h2⟩ := find_some hf
    obtain ⟨x1, x2⟩ := x
    simp only at h2
    subst h2
    unfold formOk at h1
    simp only [Bool.and_eq_true, Bool.or_eq_true, beq_iff_eq, decide_eq_true_eq] at h1
    obtain ⟨⟨⟨g1, g2⟩, g3⟩, g4⟩ := h1
    rw [if_pos ⟨g1, by rw [g3]; omega⟩, g3]
  | none =>
    rw [if_neg, baseF_at _ hr]
    · simp
    · rintro ⟨h1, h2⟩
      rw [inTab_iff] at h1
      have hi := mark_mem ⟨c - 65377, by omega⟩
      simp only at hi
      rw [show 65377 + (c - 65377) = c by omega] at hi
      rcases marked_ok (tabD c) m with e | ⟨_, _, rfl | rfl⟩
      · exact h2 e
      · rcases hi.1 with e | e
        · exact h2 e
        · exact find_none hf _ e
      · rcases hi.2 with e | e
        · exact h2 e
        · exact find_none hf _ e

/-- 'm[k] = v' of a map literal, for the walk. -/
theorem wpList_insert {w : World} {k e t : TypeId} {b n : Nat} {f : Lit → Option Lit} (h : MapIs w k e b n f) {ops : Array Oper} {rest : List Oper} {o : Oper} {a : Act} {Q : Exit → Act → World → Prop} (hg : o.guard = none) (m x v : Operand) (hop : o.op = Op.insert t m x v)
    (K : Keyed Tryd.prog k) (ht : Tryd.prog.underlying t = some (.map k e)) (hm : a.eval m = .map (some b)) (hn : n < maxLen) (key val : Value) (kl vl : Lit) (hx : a.eval x = key) (hv : a.eval v = val) (hkey : keyOf Tryd.prog k key = some kl) (hkl : WideAt.IsKeyLit kl)
    (hval : plainElem (H := Unit) Tryd.prog e val = some (.lit vl, []))
    (hK : ∀ w', MapIs w' k e b (n + 1) (putF f kl vl) → w.grownBy w' (some b) → wpList Tryd.prog ops Q rest (a.put o.dst undef) w') : wpList Tryd.prog ops Q (o :: rest) a w := by
  obtain ⟨D, ho, hD, hat⟩ := h
  refine wpList_plain hg fun K' hK' => ?_
  obtain ⟨w', hrun, ho', hg'⟩ := ho.update K ht hn hkey hval
  unfold Oper.wp
  simp [execOp, hop, hm, hx, hv, hrun, Result.andThen]
  refine hK' _ _ (hK w' ⟨_, ho', hD.put _ _, fun y hy z => ?_⟩ hg')
  by_cases hyk : y = kl
  · subst hyk
    rw [atKey_put_same hD hkl, putF_same]
  · rw [atKey_put_other hyk, hat y hy z, putF_other _ _ hyk]

/-- '[]rune(s)' of a valid string. -/
theorem runes_conv (w : World) (s : ByteArray) (rs : List Nat) (h : runesD s.data.toList = some rs) (hl : rs.length ≤ 16777216) : ∃ cap c, (convert 9 62 (.string s)).run Tryd.prog w = .ok (.slice (some ⟨w.heap.size, 0, none⟩) rs.length cap) (w.drew.alloc (.cells c 21)) ∧ rs.length ≤ cap ∧
    Lies (w.drew.alloc (.cells c 21)) (w.heap.size + 1) 1 (some ⟨w.heap.size, 0, none⟩) rs.length (runeCellsOf rs) := by
  have hs : (runeCellsOf rs).toArray.size = rs.length := by rw [List.size_toArray, runeCellsOf_length]
  have hrun := run_runes_of_string (P := Tryd.prog) w 9 62 21 s Tryd.underlying9 Tryd.underlying62 Tryd.underlying21 (by rw [runesFrom_all s rs h, hs]; omega)
  rw [runesFrom_all s rs h, hs] at hrun
  refine ⟨_, _, hrun, grownCap_ge _ _ _ _, Lies.of_addr (by rw [runeCellsOf_length]; omega) (by omega) (by show w.heap.size < _; omega) fun j u hu => ?_⟩
  have hadd : (⟨w.heap.size, 0, none⟩ : Addr).add j = ⟨w.heap.size, j, none⟩ := by unfold Addr.add; split <;> simp_all
  rw [hadd]
  have hn := heap_alloc_new w.drew (.cells ((runeCellsOf rs).toArray ++ Array.replicate (grownCap w rs.length 0 21 - rs.length) (.int .i32 0)) 21)
  have hn' : (w.drew.alloc (.cells ((runeCellsOf rs).toArray ++ Array.replicate (grownCap w rs.length 0 21 - rs.length) (.int .i32 0)) 21)).heap[w.heap.size]? = _ := hn
  rw [cell_of_row _ w.heap.size j _ _ _ hn', Array.getElem?_append_left]
  · simpa using hu
  · have := (List.getElem?_eq_some_iff.1 hu).1
    simpa using this
end Go.Proofs.YthhiillmodacmaaDoor
