/- A map that the call made, by what it holds at each key. -/
import Derived.Test.YtleflnbcgkfojaaDoorMem
import Derived.Maps.OwnSet
import Derived.Maps.StringElems
import Derived.Maps.Views
import Derived.Maps.OwnOps
namespace Go.Proofs.YtleflnbcgkfojaaDoor
open Go.RowKit Go.Lib Go.Maps
set_option linter.unusedSimpArgs false
set_option linter.unusedVariables false
set_option maxRecDepth 100000

open Classical in
/-- What is held behind a store. -/
noncomputable def putF (f : Lit → Option Lit) (kl vl : Lit) : Lit → Option Lit := fun y => if y = kl then some vl else f y
theorem putF_same (f : Lit → Option Lit) (kl vl : Lit) : putF f kl vl kl = some vl := if_pos rfl
theorem putF_other (f : Lit → Option Lit) {kl y : Lit} (vl : Lit) (h : y ≠ kl) : putF f kl vl y = f y := if_neg h

/-- Block b is a map of at most n entries that holds f k at k. -/
def MapIs (w : World) (k e : TypeId) (b n : Nat) (f : Lit → Option Lit) : Prop :=
  ∃ D : DataW Unit, w.ownsMap Tryd.prog k (plainElem Tryd.prog e) b n D ∧ IsMap D ∧ ∀ kl, WideAt.IsKeyLit kl → ∀ z, D.atKey kl z = match f kl with | some v => .lit v | none => z

section
variable {w w' : World} {k e t : TypeId} {b n : Nat} {f : Lit → Option Lit}
theorem mapIs_made (w : World) (k e : TypeId) : MapIs (w.alloc (.map #[] 0)) k e w.heap.size 0 (fun _ => none) :=
  ⟨.map [], World.ownsMap_made _ _ _ _, isMap_empty, fun kl _ z => by simp [DataW.atKey]⟩
theorem MapIs.lt (h : MapIs w k e b n f) : b < w.heap.size := by
  obtain ⟨D, h, _⟩ := h
  exact h.lt
theorem MapIs.kept {row : Option Nat} (h : MapIs w k e b n f) (hg : w.grownBy w' row) (hne : some b ≠ row) : MapIs w' k e b n f := by
  obtain ⟨D, h, h2⟩ := h
  exact ⟨D, h.kept hg hne, h2⟩
theorem MapIs.below (h : MapIs w k e b n f) (hb : Below w.heap.size w w') : MapIs w' k e b n f := h.kept (grownBy_of_below hb) (by simp)
theorem MapIs.notCells (h : MapIs w k e b n f) {g : Nat} {c : Array Value} {u : TypeId} {fr : Nat × Nat} (hg : w.heap[g]? = some (.cells c u fr)) : g ≠ b := by
  obtain ⟨D, ⟨es, clock, hb, _⟩, _⟩ := h
  rintro rfl
  rw [hb] at hg
  cases hg
theorem plainElem_bool_inv {e : TypeId} (he : Tryd.prog.underlying e = some .bool) {v : Value} {z : DataW Unit × List MemPlace} (h : plainElem Tryd.prog e v = some z) : ∃ x, v = .bool x ∧ z = (.lit (.bool x), []) := by
  unfold plainElem at h
  rw [he] at h
  cases v <;> simp at h
  exact ⟨_, rfl, h.symm⟩
/-- 'm[k]' at elements that are bools. -/
theorem MapIs.look_bool (h : MapIs w k e b n f) (K : Keyed Tryd.prog k) (ht : Tryd.prog.underlying t = some (.map k e)) (he : Tryd.prog.underlying e = some .bool) (hz : (zeroValue e).run Tryd.prog w = .ok (.bool false) w)
    {key : Value} {kl : Lit} (hkey : keyOf Tryd.prog k key = some kl) (hkl : WideAt.IsKeyLit kl) {x : Bool} (hx : f kl = if x then some (.bool true) else none) : (Instr.lookup t (.map (some b)) key false).run Tryd.prog w = .ok (.bool x) w := by
  obtain ⟨D, ho, _, hat⟩ := h
  obtain ⟨v, ps, hrun, hv⟩ := ho.lookup K ht hz (plainElem_bool he false) hkey
  obtain ⟨y, rfl, hy⟩ := plainElem_bool_inv he hv
  rw [hrun]
  rw [hat kl hkl, hx] at hy
  cases x with
  | false =>
    simp only [Bool.false_eq_true, if_false, Prod.mk.injEq, DataW.lit.injEq, Lit.bool.injEq] at hy
    rw [← hy.1]
  | true =>
    simp only [if_true, Prod.mk.injEq, DataW.lit.injEq, Lit.bool.injEq] at hy
    rw [← hy.1]
/-- 'm[k] = v' for the walk. -/
theorem wpList_put (h : MapIs w k e b n f) {ops : Array Oper} {rest : List Oper} {o : Oper} {a : Act} {Q : Exit → Act → World → Prop} (hg : o.guard = none) (m x v : Operand) (hop : o.op = Op.mapUpdate t m x v)
    (K : Keyed Tryd.prog k) (ht : Tryd.prog.underlying t = some (.map k e)) (hm : a.eval m = .map (some b)) (hn : n < maxLen) (key val : Value) (kl vl : Lit) (hx : a.eval x = key) (hv : a.eval v = val) (hkey : keyOf Tryd.prog k key = some kl) (hkl : WideAt.IsKeyLit kl)
    (hval : plainElem (H := Unit) Tryd.prog e val = some (.lit vl, []))
    (hK : ∀ w', MapIs w' k e b (n + 1) (putF f kl vl) → w.grownBy w' (some b) → wpList Tryd.prog ops Q rest (a.put o.dst undef) w') : wpList Tryd.prog ops Q (o :: rest) a w := by
  obtain ⟨D, ho, hD, hat⟩ := h
  refine wpList_mapUpdate_own w hg m x v t hop k e K ht _ b n D hm ho hn key val kl hx hv hkey _ _ hval fun w' ho' hg' => hK w' ⟨_, ho', hD.put _ _, fun y hy z => ?_⟩ hg'
  by_cases hyk : y = kl
  · subst hyk
    rw [atKey_put_same hD hkl, putF_same]
  · rw [atKey_put_other hyk, hat y hy z, putF_other _ _ hyk]
end

theorem heap_store_same {w : World} {g : Nat} {t : TypeId} {v u : Value} (h : w.heap[g]? = some (.cells #[v] t (0, 0))) : (w.setCell ⟨g, 0, none⟩ u).heap[g]? = some (.cells #[u] t (0, 0)) := by
  simp [World.setCell, Array.getElem?_modify, h]
theorem heap_cell {w : World} {g : Nat} {t : TypeId} {v : Value} (h : w.heap[g]? = some (.cells #[v] t (0, 0))) : w.cell? ⟨g, 0, none⟩ = some v := by simp [World.cell?, h]
theorem heap_free {w : World} {g : Nat} {t : TypeId} {v : Value} (h : w.heap[g]? = some (.cells #[v] t (0, 0))) : w.frozen? ⟨g, 0, none⟩ = false := by simp [World.frozen?, h]
theorem heap_lt {w : World} {g : Nat} {o : Obj} (h : w.heap[g]? = some o) : g < w.heap.size := (Array.getElem?_eq_some_iff.1 h).1
theorem grown_setCell (w : World) (p : Addr) (u : Value) : w.grownBy (w.setCell p u) (some p.block) :=
  ⟨rfl, rfl, rfl, by simp [World.setCell], fun i _ hne => Below.heap_setCell w p u i (fun e => hne (by rw [e]))⟩
/-- A row of the call's own is in no block of another type. -/
theorem own_other {w : World} {base size n g : Nat} {e t : TypeId} {v : Value} {xs : List Value} {c : Array Value} {fr : Nat × Nat} (h : w.ownsRow base e size v n xs) (hg : w.heap[g]? = some (.cells c t fr)) (hne : t ≠ e) : v.ownBlock ≠ some g := by
  rcases h.2 with ⟨rfl, _⟩ | ⟨g', cap, cur, rfl, _, hh, _⟩
  · simp [Value.ownBlock]
  · intro he
    have : g' = g := by simpa [Value.ownBlock] using he
    subst this
    rw [hh] at hg
    cases hg
    exact hne rfl
theorem own_notMap {w : World} {base size n : Nat} {e : TypeId} {v : Value} {xs : List Value} {k e' : TypeId} {b m : Nat} {f : Lit → Option Lit} (h : w.ownsRow base e size v n xs) (hm : MapIs w k e' b m f) : v.ownBlock ≠ some b := by
  rcases h.2 with ⟨rfl, _⟩ | ⟨g', cap, cur, rfl, _, hh, _⟩
  · simp [Value.ownBlock]
  · intro he
    have : g' = b := by simpa [Value.ownBlock] using he
    exact hm.notCells hh this
end Go.Proofs.YtleflnbcgkfojaaDoor
