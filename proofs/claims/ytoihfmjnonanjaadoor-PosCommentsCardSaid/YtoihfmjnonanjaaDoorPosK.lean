/- What pos.Parse finds in a line: the cut at a tab, the kind's number. -/
import Derived.Test.YtoihfmjnonanjaaDoorPosJ
namespace Go.Proofs.YtoihfmjnonanjaaDoor
open Go.RowKit Go.Lib Go.Shelf Hk
set_option linter.unusedSimpArgs false
set_option linter.unusedVariables false
set_option maxRecDepth 100000

theorem index_tab (s : List UInt8) : (index s [9] = -1 ∧ ∀ c ∈ s, c ≠ 9) ∨ ∃ a b : List UInt8, s = a ++ 9 :: b ∧ (∀ c ∈ a, c ≠ 9) ∧ index s [9] = a.length := by
  induction s with
  | nil => exact .inl ⟨by simp [index], by simp⟩
  | cons c t ih =>
    by_cases hc : c = 9
    · subst hc
      exact .inr ⟨[], t, rfl, by simp, by simp [index]⟩
    · have hp : ([9] : List UInt8).isPrefixOf (c :: t) = false := by
        simp [List.isPrefixOf]
        try exact fun e => hc e.symm
      rcases ih with ⟨h1, h2⟩ | ⟨a, b, rfl, h2, h1⟩
      · refine .inl ⟨?_, ?_⟩
        · unfold index
          rw [hp, h1]
          rfl
        · intro d hd
          rcases List.mem_cons.1 hd with rfl | hd
          · exact hc
          · exact h2 d hd
      · refine .inr ⟨c :: a, b, rfl, ?_, ?_⟩
        · intro d hd
          rcases List.mem_cons.1 hd with rfl | hd
          · exact hc
          · exact h2 d hd
        · have hne : ((a.length : Int) == -1) = false := by simp
          unfold index
          rw [hp, h1, hne]
          simp
/-- What a line is cut into: the name and the word. -/
def cutN (s : ByteArray) : ByteArray := ⟨(Lib.cut s.data.toList [9]).1.toArray⟩
def cutW (s : ByteArray) : ByteArray := ⟨(Lib.cut s.data.toList [9]).2.1.toArray⟩
theorem line_cut (s : ByteArray) : lineL s.data.toList = if kindI (cutW s) < 0 then none else if nameD (cutN s) = true then some (cutN s, kindI (cutW s)) else none := by
  unfold lineL cutN cutW Lib.cut
  rcases index_tab s.data.toList with ⟨h1, h2⟩ | ⟨a, b, e, h2, h1⟩
  · rw [tabL_none _ h2, h1]
    simp [kindI, contentB, functionB, prefixB]
  · rw [h1, e, tabL_some a b h2]
    have hd : (a ++ 9 :: b).drop (a.length + 1) = b := by rw [← List.drop_drop, List.drop_left]; rfl
    simp [hd, nameD]
theorem cutN_size (s : ByteArray) : (cutN s).size ≤ s.size := by
  have h2 : (cutN s).size = (Lib.cut s.data.toList [9]).1.length := by rw [size_list]; rfl
  rw [h2, size_list]
  unfold Lib.cut
  rcases index_tab s.data.toList with ⟨h1, _⟩ | ⟨a, b, e, _, h1⟩
  · rw [h1]; simp
  · rw [h1, e]; simp
theorem idx_kinds (x : ByteArray) : Lib.idxOfS (kindsL.take 3) x = kindI x := by
  show Lib.idxOfS [contentB, functionB, prefixB] x = kindI x
  unfold kindI Lib.idxOfS
  by_cases h0 : x = contentB
  · rw [if_pos h0, idxFromS, if_pos h0.symm]; rfl
  · rw [if_neg h0, idxFromS, if_neg (fun h => h0 h.symm)]
    by_cases h1 : x = functionB
    · rw [if_pos h1, idxFromS, if_pos h1.symm]; rfl
    · rw [if_neg h1, idxFromS, if_neg (fun h => h1 h.symm)]
      by_cases h2 : x = prefixB
      · rw [if_pos h2, idxFromS, if_pos h2.symm]; rfl
      · rw [if_neg h2, idxFromS, if_neg (fun h => h2 h.symm)]; rfl

theorem cut_calls (s : ByteArray) (w : World) (hs : s.size < 4294967281) (he : Env w) :
    Calls Tryd.prog 36 #[.string s, .string ⟨#[9]⟩] w fun e w' => ∃ b, e = .returned (.tuple #[.string (cutN s), .string (cutW s), .bool b]) ∧ Below w.heap.size w w' := by
  obtain ⟨m, hm⟩ := he.2
  refine (Tryd.strings_Cut s ⟨#[9]⟩ m w hs hm).mono ?_
  rintro e w' ⟨rfl, n, rfl⟩
  exact ⟨_, rfl, below_drewN _ n⟩
theorem index_calls (x : ByteArray) (w : World) (he : Env w) :
    Calls Tryd.prog 37 #[.slice (some ⟨0, 0, none⟩) 3 3, .string x] w fun e w' => e = .returned (.int .i64 (kindI x)) ∧ w = w' := by
  rw [← idx_kinds]
  exact (Tryd.slices_Index_string 0 0 3 3 kindsL x w (by decide) (by omega) fun j hj => he.1.cell j hj).mono fun _ _ ⟨h1, h2⟩ => ⟨h1, h2.symm⟩

/-- What Parse has made of the lines so far. -/
def itD (x : It) : Nat × List UInt8 := (x.1.1, x.1.2.data.toList)
theorem itD_map (l : List It) : l.map itD = (l.map (·.1)).map (fun x => (x.1, x.2.data.toList)) := by simp [itD]
def ParAt (w : World) (pre : List It) (W : World) : Prop :=
  (∃ acc v, (∀ rest : List It, parseI [] ((pre ++ rest).map itD) = parseI acc (rest.map itD)) ∧ acc.length ≤ 64 ∧ Boxed W (w.heap.size + 1 + 1 + 1) 24 v ∧ W.ownsRow w.heap.size 33 2 v acc.length (pcells acc)) ∧
    Boxed W w.heap.size 24 (.slice none 0 0) ∧ Boxed W (w.heap.size + 1) 3 (.int .i64 0) ∧ Boxed W (w.heap.size + 1 + 1) 23 (.int .i64 0)
def ParEnd (w : World) (pre : List It) (W : World) : Prop :=
  ∃ n er : Int, (∀ rest : List It, parseI [] ((pre ++ rest).map itD) = ([], n, er)) ∧
    Boxed W w.heap.size 24 (.slice none 0 0) ∧ Boxed W (w.heap.size + 1) 3 (.int .i64 n) ∧ Boxed W (w.heap.size + 1 + 1) 23 (.int .i64 er)
theorem parAt_own (w : World) : Own (ParAt w) := by
  rintro s X Y row ⟨⟨acc, v, h1, h2, h3, h4⟩, h5, h6, h7⟩ hg hrow
  obtain ⟨v', h3', h4', hv⟩ := holdsRow_own (β := Unit) w.heap.size (w.heap.size + 1 + 1 + 1) 24 33 2 (fun _ => acc.length) (fun _ => pcells acc) (fun _ _ => True) () X Y row ⟨v, h3, h4, trivial⟩ hg hrow
  exact ⟨⟨acc, v', h1, h2, h3', h4'⟩, boxed_own _ _ (fun _ : Unit => _) () X Y row h5 hg hrow, boxed_own _ _ (fun _ : Unit => _) () X Y row h6 hg hrow, boxed_own _ _ (fun _ : Unit => _) () X Y row h7 hg hrow⟩
theorem parEnd_own (w : World) : Own (ParEnd w) := by
  rintro s X Y row ⟨n, er, h1, h5, h6, h7⟩ hg hrow
  exact ⟨n, er, h1, boxed_own _ _ (fun _ : Unit => _) () X Y row h5 hg hrow, boxed_own _ _ (fun _ : Unit => _) () X Y row h6 hg hrow, boxed_own _ _ (fun _ : Unit => _) () X Y row h7 hg hrow⟩

theorem boxed_below {W W' : World} {B : Nat} {t : TypeId} {v : Value} (h : Boxed W B t v) (hb : Below W.heap.size W W') : Boxed W' B t v := (hb.block B h.lt).trans h
/-- Behind an append and the store into its variable's box: another box, and the rows of strings. -/
theorem boxed_appended {W w1 : World} {n₀ B B' : Nat} {t' e : TypeId} {size : Nat} {v u v' : Value} {k : Nat} {xs : List Value} {tmp : Obj}
    (hu : Boxed W B' t' u) (hte : t' ≠ e) (hne : B' ≠ B) (hrow : W.ownsRow n₀ e size v k xs) (hgrow : (W.alloc tmp).grownBy w1 v.ownBlock) : Boxed (w1.setCell ⟨B, 0, none⟩ v') B' t' u :=
  ((hu.alloc tmp).kept hgrow (hu.not_row hte hrow)).other hne v'
theorem kpT_appended {W w1 : World} {n₀ B : Nat} {t e : TypeId} {size : Nat} {v u v' : Value} {k : Nat} {xs : List Value} {tmp : Obj}
    (hv : Boxed W B t u) (ht : t ≠ 9) (he : e ≠ 9) (hrow : W.ownsRow n₀ e size v k xs) (hgrow : (W.alloc tmp).grownBy w1 v.ownBlock) : KpT W (w1.setCell ⟨B, 0, none⟩ v') := by
  intro i cs fr hi
  have hlt := (Array.getElem?_eq_some_iff.1 hi).1
  have h1 : (W.alloc tmp).heap[i]? = some (Obj.cells cs 9 fr) := (Below.heap_alloc W tmp i hlt).trans hi
  have h2 : w1.heap[i]? = some (Obj.cells cs 9 fr) := by
    refine (hgrow.block i (by simp; omega) ?_).trans h1
    rcases hrow.2 with ⟨rfl, _⟩ | ⟨g, cap, cur, rfl, _, hgb, _⟩
    · simp [Value.ownBlock]
    · intro e'
      obtain rfl : i = g := by simpa [Value.ownBlock] using e'
      have := hi.symm.trans hgb
      simp at this
      exact he this.2.1.symm
  have hne : i ≠ B := by
    rintro rfl
    have := hi.symm.trans (show W.heap[i]? = _ from hv)
    simp at this
    exact ht this.2.1.symm
  exact (Below.heap_setCell w1 ⟨B, 0, none⟩ v' i hne).trans h2

/-- Three stores into three boxes. -/
theorem stores3 {W : World} {B0 B1 B2 : Nat} {t0 t1 t2 : TypeId} {u0 u1 u2 : Value} (v0 v1 v2 : Value) (h0 : Boxed W B0 t0 u0) (h1 : Boxed W B1 t1 u1) (h2 : Boxed W B2 t2 u2) (n01 : B0 ≠ B1) (n02 : B0 ≠ B2) (n12 : B1 ≠ B2) :
    Boxed (((W.setCell ⟨B0, 0, none⟩ v0).setCell ⟨B1, 0, none⟩ v1).setCell ⟨B2, 0, none⟩ v2) B0 t0 v0 ∧ Boxed (((W.setCell ⟨B0, 0, none⟩ v0).setCell ⟨B1, 0, none⟩ v1).setCell ⟨B2, 0, none⟩ v2) B1 t1 v1 ∧
      Boxed (((W.setCell ⟨B0, 0, none⟩ v0).setCell ⟨B1, 0, none⟩ v1).setCell ⟨B2, 0, none⟩ v2) B2 t2 v2 ∧ KeepsOthers W (((W.setCell ⟨B0, 0, none⟩ v0).setCell ⟨B1, 0, none⟩ v1).setCell ⟨B2, 0, none⟩ v2) :=
  ⟨((h0.set v0).other n01 v1).other n02 v2, ((h1.other n01.symm v0).set v1).other n12 v2, ((h2.other n02.symm v0).other n12.symm v1).set v2, ((KeepsOthers.setCell _ _ _).trans (KeepsOthers.setCell _ _ _)).trans (KeepsOthers.setCell _ _ _)⟩
theorem below_stores3 {w W : World} {B0 B1 B2 : Nat} (v0 v1 v2 : Value) (hB : Below w.heap.size w W) (h0 : w.heap.size ≤ B0) (h1 : w.heap.size ≤ B1) (h2 : w.heap.size ≤ B2) :
    Below w.heap.size w (((W.setCell ⟨B0, 0, none⟩ v0).setCell ⟨B1, 0, none⟩ v1).setCell ⟨B2, 0, none⟩ v2) :=
  ((hB.setCell (p := ⟨B0, 0, none⟩) h0 v0).setCell (p := ⟨B1, 0, none⟩) h1 v1).setCell (p := ⟨B2, 0, none⟩) h2 v2
theorem boxed_put {W : World} {B D : Nat} {t : TypeId} {v : Value} {o : Obj} (h : Boxed W B t v) (hK : W.heap[D]? = some o) (ho : o.isCells = false) (o' : Obj) : Boxed (W.putObj D o') B t v :=
  h.kept (grownBy_putObj' W D o') (fun e => by
    obtain rfl : B = D := by simpa using e
    rw [show W.heap[B]? = _ from h] at hK
    cases hK
    cases ho)
/-- A row of the call's own, behind a store into a box of another type. -/
theorem owns_set {W : World} {base B : Nat} {t e : TypeId} {size k : Nat} {v u : Value} {xs : List Value} (hr : W.ownsRow base e size v k xs) (h : Boxed W B t u) (hte : t ≠ e) (v' : Value) : (W.setCell ⟨B, 0, none⟩ v').ownsRow base e size v k xs :=
  hr.kept (grownBy_setCell' W B v') (.inr (h.not_row hte hr).symm)

/-- The world in which the loop of Parse begins. -/
def parW (w : World) (s : ByteArray) : World :=
  ((((w.alloc (.cells #[.slice none 0 0] 24)).alloc (.cells #[.int .i64 0] 3)).alloc (.cells #[.int .i64 0] 23)).alloc (.cells #[.slice none 0 0] 24)).alloc (.cells #[.string s] 9)
theorem parW_size (w : World) (s : ByteArray) : (parW w s).heap.size = w.heap.size + 1 + 1 + 1 + 1 + 1 := by simp [parW]
theorem parW_below (w : World) (s : ByteArray) : Below w.heap.size w (parW w s) :=
  (((((Below.refl _ w).alloc (Nat.le_refl _) _).alloc (by simp) _).alloc (by simp; omega) _).alloc (by simp; omega) _).alloc (by simp; omega) _
theorem parW_at (w : World) (s : ByteArray) : Boxed (parW w s) w.heap.size 24 (.slice none 0 0) ∧ Boxed (parW w s) (w.heap.size + 1) 3 (.int .i64 0) ∧ Boxed (parW w s) (w.heap.size + 1 + 1) 23 (.int .i64 0) ∧
    Boxed (parW w s) (w.heap.size + 1 + 1 + 1) 24 (.slice none 0 0) ∧ Boxed (parW w s) (w.heap.size + 1 + 1 + 1 + 1) 9 (.string s) := by
  have h0 := Boxed.new w 24 (.slice none 0 0)
  have h1 := Boxed.new (w.alloc (.cells #[.slice none 0 0] 24)) 3 (.int .i64 0)
  have h2 := Boxed.new ((w.alloc (.cells #[.slice none 0 0] 24)).alloc (.cells #[.int .i64 0] 3)) 23 (.int .i64 0)
  have h3 := Boxed.new (((w.alloc (.cells #[.slice none 0 0] 24)).alloc (.cells #[.int .i64 0] 3)).alloc (.cells #[.int .i64 0] 23)) 24 (.slice none 0 0)
  have h4 := Boxed.new ((((w.alloc (.cells #[.slice none 0 0] 24)).alloc (.cells #[.int .i64 0] 3)).alloc (.cells #[.int .i64 0] 23)).alloc (.cells #[.slice none 0 0] 24)) 9 (.string s)
  simp only [World.size_alloc] at h1 h2 h3 h4
  exact ⟨(((h0.alloc _).alloc _).alloc _).alloc _, ((h1.alloc _).alloc _).alloc _, (h2.alloc _).alloc _, h3.alloc _, h4⟩
theorem parW_par (w : World) (s : ByteArray) : ParAt w [] (parW w s) := by
  obtain ⟨h0, h1, h2, h3, _⟩ := parW_at w s
  exact ⟨⟨[], _, fun rest => by simp, by decide, h3, World.ownsRow_nil _ _ _ _⟩, h0, h1, h2⟩

/-- A round that ends in an error. -/
theorem par_err {w W X : World} {pre : List It} {x : It} {acc : List P2} {er : Int} (B : Nat) (hB : Below w.heap.size w W) (hbX : Below W.heap.size W X) (hG : ∀ rest : List It, parseI [] ((pre ++ rest).map itD) = parseI acc (rest.map itD)) (hs : stepL acc x.1.2.data.toList = .error er)
    (r0 : Boxed W w.heap.size 24 (.slice none 0 0)) (r1 : Boxed W (w.heap.size + 1) 3 (.int .i64 0)) (r2 : Boxed W (w.heap.size + 1 + 1) 23 (.int .i64 0)) :
    KeepsFrom B W (((X.setCell ⟨w.heap.size, 0, none⟩ (.slice none 0 0)).setCell ⟨w.heap.size + 1, 0, none⟩ (.int .i64 (x.1.1 : Int))).setCell ⟨w.heap.size + 1 + 1, 0, none⟩ (.int .i64 er)) ∧
      (Code.ret = Code.ret ∧ ParEnd w (pre ++ [x]) (((X.setCell ⟨w.heap.size, 0, none⟩ (.slice none 0 0)).setCell ⟨w.heap.size + 1, 0, none⟩ (.int .i64 (x.1.1 : Int))).setCell ⟨w.heap.size + 1 + 1, 0, none⟩ (.int .i64 er))) ∧
      Below w.heap.size w (((X.setCell ⟨w.heap.size, 0, none⟩ (.slice none 0 0)).setCell ⟨w.heap.size + 1, 0, none⟩ (.int .i64 (x.1.1 : Int))).setCell ⟨w.heap.size + 1 + 1, 0, none⟩ (.int .i64 er)) := by
  obtain ⟨b0, b1, b2, hk⟩ := stores3 (.slice none 0 0) (.int .i64 (x.1.1 : Int)) (.int .i64 er) (boxed_below r0 hbX) (boxed_below r1 hbX) (boxed_below r2 hbX) (by omega) (by omega) (by omega)
  refine ⟨(keepsFrom_below B hbX).trans (hk.from B), ⟨rfl, x.1.1, er, fun rest => ?_, b0, b1, b2⟩, below_stores3 _ _ _ (qtrans hB hbX) (Nat.le_refl _) (Nat.le_add_right w.heap.size 1) (by omega)⟩
  rw [List.append_assoc, hG]
  exact parseI_err hs
/-- A round that goes on. -/
theorem par_ok {pre : List It} {x : It} {acc acc' : List P2} (hG : ∀ rest : List It, parseI [] ((pre ++ rest).map itD) = parseI acc (rest.map itD)) (hs : stepL acc x.1.2.data.toList = .ok acc') (rest : List It) :
    parseI [] (((pre ++ [x]) ++ rest).map itD) = parseI acc' (rest.map itD) := by
  rw [List.append_assoc, hG]
  exact parseI_step hs
end Go.Proofs.YtoihfmjnonanjaaDoor
