/- The plain law of comments; an append in a region that draws its order. -/
import Derived.Test.YtoihfmjnonanjaaDoorBulkS
import Derived.Deep.RegionLaw
import Derived.Deep.DeepCutAuto
namespace Go.Proofs.YtoihfmjnonanjaaDoor
open Go.RowKit Go.Lib Go.Shelf Hk
set_option linter.unusedSimpArgs false
set_option linter.unusedVariables false
set_option maxRecDepth 100000

theorem sumL_map (ls : List ByteArray) : sumL (ls.map fun s => s.data.toList) = sumB ls := by
  induction ls with
  | nil => rfl
  | cons a r ih =>
    simp only [List.map_cons, sumL, ih, sumB, List.sum_cons]
    rw [← size_list]
theorem parse_join {ls : List ByteArray} (h0 : ls ≠ []) (hn : ∀ a ∈ ls, ∀ c ∈ a.data.toList, c ≠ 10) (hs : sumB ls ≤ 1048577) : parseD (joinB ls) = parseI [] (itemsL 0 (ls.map fun s => s.data.toList)) := by
  have hm : ls.map (fun s => s.data.toList) ≠ [] := by simpa using h0
  have hl := joinL_length _ hm
  rw [sumL_map] at hl
  unfold parseD parseL
  rw [joinB_list, if_neg (by omega), linesL_join _ hm]
  intro x hx c hc
  obtain ⟨a, ha, rfl⟩ := List.mem_map.1 hx
  exact hn a ha c hc
theorem sumB_append (a b : List ByteArray) : sumB (a ++ b) = sumB a + sumB b := by simp [sumB]
theorem sumB_cons (a : ByteArray) (b : List ByteArray) : sumB (a :: b) = a.size + 1 + sumB b := by simp [sumB]
theorem comments_plain {l : List ByteArray} {c : ByteArray} {k : Nat} (hk : k ≤ l.length) (h0 : l ≠ []) (hl : FewOk l) (hc : isComment c.data.toList = true) (hcs : c.size ≤ 524288) (hcn : ∀ x ∈ c.data.toList, x ≠ 10) :
    parseD (joinB (l.take k ++ c :: l.drop k)) = bump k (parseD (joinB l)) := by
  have hsum : sumB (l.take k ++ c :: l.drop k) = sumB l + (c.size + 1) := by
    have := sumB_append (l.take k) (l.drop k)
    rw [List.take_append_drop] at this
    rw [sumB_append, sumB_cons, this]
    omega
  have hn : ∀ a ∈ l.take k ++ c :: l.drop k, ∀ x ∈ a.data.toList, x ≠ 10 := by
    intro a ha
    rw [List.mem_append, List.mem_cons] at ha
    rcases ha with h | rfl | h
    · exact hl.1 a (List.mem_of_mem_take h)
    · exact hcn
    · exact hl.1 a (List.mem_of_mem_drop h)
  rw [parse_join (by simp) hn (by rw [hsum]; have := hl.2; omega), parse_join h0 hl.1 (by have := hl.2; omega)]
  have := parse_comment (l.map fun s => s.data.toList) k c.data.toList (by rw [List.length_map]; exact hk) hc
  rw [List.map_append, List.map_cons, List.map_take, List.map_drop]
  exact this
theorem sumB_mem {a : ByteArray} : ∀ {l : List ByteArray}, a ∈ l → a.size + 1 ≤ sumB l
  | b :: r, h => by
    rw [sumB_cons]
    rcases List.mem_cons.1 h with rfl | h
    · omega
    · have := sumB_mem h
      omega
theorem few_each {l : List ByteArray} (h : FewOk l) : ∀ a ∈ l, a.size ≤ 1048576 := fun a ha => by
  have h1 := sumB_mem ha
  have h2 := h.2
  omega
theorem more_each {l : List ByteArray} {c : ByteArray} {k : Nat} (h : FewOk l) (hc : c.size ≤ 524288) : ∀ a ∈ l.take k ++ c :: l.drop k, a.size ≤ 1048576 := fun a ha => by
  rw [List.mem_append, List.mem_cons] at ha
  rcases ha with h1 | rfl | h1
  · exact few_each h a (List.mem_of_mem_take h1)
  · omega
  · exact few_each h a (List.mem_of_mem_drop h1)
theorem more_len {l : List ByteArray} {c : ByteArray} {k : Nat} (hk : k ≤ l.length) : (l.take k ++ c :: l.drop k).length = l.length + 1 := by
  rw [List.length_append, List.length_cons, List.length_take, List.length_drop]
  omega
theorem join_int {l : List ByteArray} (h : ∀ a ∈ l, a.size ≤ 1048576) (hn : l.length ≤ 1048576) : (joinB l).size ≤ 9223372036854775807 := by
  have h1 := joinB_size l 1048576 h
  have h2 : l.length * (1048576 + 1) ≤ 1048576 * (1048576 + 1) := Nat.mul_le_mul_right _ hn
  rw [size_list, joinB_list]
  omega
theorem parseI_num (M : Nat) : ∀ (its : List (Nat × List UInt8)) (acc : List P2), (∀ x ∈ its, x.1 ≤ M) → 0 ≤ (parseI acc its).2.1 ∧ (parseI acc its).2.1 ≤ (M : Int)
  | [], acc, _ => by
    rw [parseI]
    split <;> simp
  | (n, s) :: r, acc, h => by
    cases hs : stepL acc s with
    | error e =>
      rw [parseI_err hs]
      have := h (n, s) List.mem_cons_self
      simp only at this ⊢
      omega
    | ok acc' =>
      rw [parseI_step hs]
      exact parseI_num M r acc' fun x hx => h x (List.mem_cons_of_mem _ hx)
theorem join_num {l : List ByteArray} (h0 : l ≠ []) (hl : FewOk l) : 0 ≤ (parseD (joinB l)).2.1 ∧ (parseD (joinB l)).2.1 ≤ 524288 := by
  rw [parse_join h0 hl.1 (by have := hl.2; omega)]
  have := parseI_num l.length (itemsL 0 (l.map fun s => s.data.toList)) [] fun x hx => by
    have := (itemsL_num _ _ x hx).2
    rw [List.length_map] at this
    omega
  have h1 := sumB_len l
  have h2 := hl.2
  omega
theorem bump_at (k : Nat) (r : List P2) (x y : Int) : ∃ x2, bump k (r, x, y) = (r, x2, y) ∧ (((k : Int) < x ∧ x2 = x + 1) ∨ (¬ (k : Int) < x ∧ x2 = x)) := by
  by_cases h : (k : Int) < x
  · exact ⟨x + 1, by unfold bump; rw [if_pos h], .inl ⟨h, rfl⟩⟩
  · exact ⟨x, by unfold bump; rw [if_neg h], .inr ⟨h, rfl⟩⟩
theorem size_hash (s : ByteArray) : ((⟨#[35]⟩ : ByteArray) ++ s).data.toList = 35 :: s.data.toList := by simp
theorem comment_hash (s : ByteArray) : isComment ((⟨#[35]⟩ : ByteArray) ++ s).data.toList = true := by rw [size_hash]; rfl

/-- An append of a slice that lies, in a region that draws its order. -/
theorem step_append_in {P : Program} {w : World} {ops : Array Oper} {o : Oper} {a : Act} {K : Act → World → Prop} {Q : Exit → Act → World → Prop} {E : Prop} (hgd : o.guard = none) (s x : Operand) (t : TypeId)
    (ho : o.op = .call { callee := .builtin .append, args := #[s, x], argTypes := #[t, t] })
    (base : Nat) (e : TypeId) (i : TypeInfo) (z : Value) (size bytes : Nat) (ht : P.underlying t = some (.slice e)) (hi : P.info? e = some i) (hz : i.zero = some z)
    (hsize : i.size = size) (hby : i.bytes = bytes) (hzs : z.cells.size = size) (hsz : 0 < size) (v : Value) (n : Nat) (xs : List Value) (hs : a.eval s = v) (hown : w.ownsRow base e size v n xs)
    (B : Nat) (A : Option Addr) (m c : Nat) (ys : List Value) (hx : a.eval x = .slice A m c) (hr : Lies w B size A m ys) (h1 : ∀ u ∈ ys, u.oneCell' = true)
    (h63 : n + m ≤ maxLen) (hbytes : (n + m) * bytes ≤ 140737488355328) (hbase : base ≤ w.heap.size)
    (h : ∀ v' w', w'.ownsRow base e size v' (n + m) (xs ++ ys) → w.grownBy w' v.ownBlock → K (a.put o.dst v') w') :
    if Region.wanted o (yielded ops a.tmps) = true then Oper.wp P o a w K Q else E := by
  have hw : Region.wanted o (yielded ops a.tmps) = true := by simp [Region.wanted, hgd]
  rw [if_pos hw]
  obtain ⟨v', w', hrun, h2, h3⟩ := run_append_lies (P := P) w base t o.type e i z size bytes ht hi hz hsize hby hzs hsz v n xs hown B A m c ys hr h1 h63 hbytes hbase
  unfold Oper.wp execOp
  simp only [ho, resolve, invoke, builtin, Sem.run_bind, Sem.run_pure, Result.andThen_ok, List.map_toArray, List.map_cons, List.map_nil, hs, hx, hrun]
  exact h v' w' h2 h3

theorem reach_le {s : ByteArray} (h : s.data.toList.length ≤ reachBytes) : s.size ≤ 140737488351232 := by
  have h2 : s.size = s.data.toList.length := by simp
  rw [h2]
  exact h
theorem lies_take {W : World} {B g n k : Nat} {xs : List Value} (h : Lies W B 1 (some ⟨g, 0, none⟩) n xs) (hk : k ≤ n) : Lies W B 1 (some ⟨g, 0, none⟩) k (xs.take k) := by
  refine ⟨by rw [List.length_take, h.1]; omega, fun h0 => ?_⟩
  obtain ⟨b, off, e, hb, hc⟩ := h.2 (by omega)
  refine ⟨b, off, e, hb, fun j u hu => hc j u ?_⟩
  have hj : j < k := by have := (List.getElem?_eq_some_iff.1 hu).1; rw [List.length_take] at this; omega
  rw [List.getElem?_take_of_lt hj] at hu
  exact hu
theorem lies_drop {W : World} {B g n k : Nat} {xs : List Value} (h : Lies W B 1 (some ⟨g, 0, none⟩) n xs) (hk : k ≤ n) (X : Addr) (hX : k < n → X = ⟨g, k, none⟩) : Lies W B 1 (some X) (n - k) (xs.drop k) := by
  refine ⟨by rw [List.length_drop, h.1]; omega, fun h0 => ?_⟩
  obtain ⟨b, off, e, hb, hc⟩ := h.2 (by omega)
  simp only [Option.some.injEq, Addr.mk.injEq] at e
  obtain ⟨rfl, rfl, _⟩ := e
  refine ⟨g, k, by rw [hX (by omega)], hb, fun j u hu => ?_⟩
  rw [List.getElem?_drop] at hu
  have := hc (k + j) u hu
  rw [Nat.zero_add] at this
  exact this
theorem lies_tail {W : World} {B g n k c : Nat} {xs : List Value} (h : Lies W B 1 (some ⟨g, 0, none⟩) n xs) (hk : k ≤ n) (hc : n ≤ c) : Lies W B 1 (if c = k then some ⟨g, 0, none⟩ else some ⟨g, k, none⟩) (n - k) (xs.drop k) := by
  by_cases e : c = k
  · rw [if_pos e]
    exact lies_drop h hk ⟨g, 0, none⟩ fun h0 => absurd h0 (by omega)
  · rw [if_neg e]
    exact lies_drop h hk ⟨g, k, none⟩ fun _ => rfl
theorem lies_drew {W : World} {B size n : Nat} {A : Option Addr} {xs : List Value} (h : Lies W B size A n xs) : Lies W.drew B size A n xs := h.keep fun _ _ => rfl
/-- One string that was written in place, in block q. -/
def LitAt (W : World) (q : Nat) (c : ByteArray) : Prop := W.heap[q]? = some (Obj.cells #[.string c] 9 (0, 0))
theorem LitAt.new (W : World) (c : ByteArray) : LitAt (W.alloc (.cells #[.string c] 9)) W.heap.size c := World.alloc_heap_new W _
theorem LitAt.lt {W : World} {q : Nat} {c : ByteArray} (h : LitAt W q c) : q < W.heap.size := (Array.getElem?_eq_some_iff.1 h).1
theorem LitAt.alloc {W : World} {q : Nat} {c : ByteArray} (h : LitAt W q c) (o : Obj) : LitAt (W.alloc o) q c := (Below.heap_alloc W o q h.lt).trans h
theorem LitAt.drew {W : World} {q : Nat} {c : ByteArray} (h : LitAt W q c) : LitAt W.drew q c := h
theorem LitAt.grown {W W' : World} {q : Nat} {c : ByteArray} {row : Option Nat} (h : LitAt W q c) (hg : W.grownBy W' row) (hne : some q ≠ row) : LitAt W' q c := (hg.block q h.lt hne).trans h
theorem LitAt.lies {W : World} {q : Nat} {c : ByteArray} (h : LitAt W q c) : Lies W W.heap.size 1 (some ⟨q, 0, none⟩) 1 [.string c] := by
  refine Lies.of_addr rfl (by omega) h.lt fun j u hu => ?_
  have hj : j = 0 := by have := (List.getElem?_eq_some_iff.1 hu).1; simp at this; omega
  subst hj
  simp at hu
  subst hu
  simp [World.cell?, Addr.add, show W.heap[q]? = _ from h]
theorem below_in {w W W' : World} {B n size : Nat} {e : TypeId} {v : Value} {xs : List Value} (hb : Below B w W) (hB : B ≤ w.heap.size) (ho : W.ownsRow B e size v n xs) (hg : W.grownBy W' v.ownBlock) : Below B w W' :=
  hb.grown hg (Nat.le_trans hB hb.size) fun k hk => (ho.lt k hk).1
theorem own_ne {W : World} {B n size q : Nat} {e : TypeId} {v : Value} {xs : List Value} (ho : W.ownsRow B e size v n xs) (hq : q < B) : some q ≠ v.ownBlock := fun h => by
  have := (ho.lt q h.symm).1
  omega
end Go.Proofs.YtoihfmjnonanjaaDoor
