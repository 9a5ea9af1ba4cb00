/- HistoryKnown: the plain facts of its examples. -/
import Derived.Test.YtleflnbcgkfojaaDoorHist10
namespace Go.Proofs.YtleflnbcgkfojaaDoor
open Go.RowKit Go.Lib Go.Shelf Hk Go.Maps
set_option linter.unusedSimpArgs false
set_option linter.unusedVariables false
set_option maxRecDepth 100000

def kaB : ByteArray := ⟨#[227, 129, 139]⟩
def moB : ByteArray := ⟨#[232, 154, 138]⟩
def haB : ByteArray := ⟨#[227, 129, 175]⟩
def abcB : ByteArray := ⟨#[97, 98, 99]⟩
def kyB (kind : Int) (a b : ByteArray) : ByteArray := keyStr (kmk kind a.data.toList b.data.toList)
theorem kn_keys1 : keysD ⟨#[120]⟩ [(abcB, abcB), (haB, haB)] = [kyB 1 haB haB, kyB 2 abcB haB] := by decide +kernel
theorem kn_keys2 : keysD ⟨#[]⟩ [(kaB, moB), (kaB, moB)] = [kyB 1 kaB moB, kyB 2 moB moB] := by decide +kernel
theorem kn_about : aboutD kaB [kyB 1 kaB moB, kyB 2 kaB moB, ⟨#[120]⟩] = [kyB 2 kaB moB] := by decide +kernel
theorem kn_keys3 : keysD ⟨#[97]⟩ [(kaB, ⟨#[]⟩), (⟨#[]⟩, kaB), (⟨#[227, 130, 171]⟩, kaB), (kaB, ⟨#[255]⟩)] = [] := by decide +kernel
def hanB (i : Nat) : ByteArray := Utf8.encode (19968 + (i : Int))
def manyL (n : Nat) : List Wd := (List.range n).map fun i => (kaB, hanB i)
theorem kn_many : (keysD ⟨#[]⟩ (manyL 40)).length = 64 ∧ (keysD ⟨#[]⟩ (manyL 40))[0]? = some (kyB 1 kaB (hanB 0)) ∧ (keysD ⟨#[]⟩ (manyL 40))[63]? = some (kyB 1 kaB (hanB 32)) := by decide +kernel
theorem keys_lit (prev : ByteArray) (ws : List Wd) (L : List ByteArray) (cs : Array Value) (n : Nat) (hn : n = ws.length) (hcs : (wdCells ws).toArray = cs) (hL : keysD prev ws = L) (hp : prev.size ≤ 1048576) (h0 : 0 < n) (h1 : n ≤ 1048576) (hw : WLight 1048576 ws) (W : World) (hW : Env W) :
    Calls Tryd.prog 14 #[.string prev, .slice (some ⟨W.heap.size, 0, none⟩) n n] (W.alloc (.cells cs 35)) (StrsPost (W.alloc (.cells cs 35)) L) := by
  subst hn hcs
  have hb : Below W.heap.size W (W.alloc (.cells (wdCells ws).toArray 35)) := (Below.refl _ _).alloc (Nat.le_refl _) _
  have hl : Lies (W.alloc (.cells (wdCells ws).toArray 35)) (W.alloc (.cells (wdCells ws).toArray 35)).heap.size 2 (some ⟨W.heap.size, 0, none⟩) ws.length (wdCells ws) :=
    Lies.of_addr (wdCells_len ws) (by omega) (by simp) (cells_new W (wdCells ws) _)
  have := keys_calls prev (some ⟨W.heap.size, 0, none⟩) ws.length ws _ hp hl h1 hw (hW.below hb)
  rw [hL] at this
  exact this
theorem strs_lit (W : World) (l : List ByteArray) (cs : Array Value) (n : Nat) (hn : n = l.length) (hcs : (l.map Value.string).toArray = cs) : Lies (W.alloc (.cells cs 9)) (W.alloc (.cells cs 9)).heap.size 1 (some ⟨W.heap.size, 0, none⟩) n (l.map Value.string) := by
  subst hn hcs
  exact Lies.of_addr (by simp) (by omega) (by simp) (cells_new W (l.map Value.string) _)
def h0B : ByteArray := ⟨#[228, 184, 128]⟩
def h32B : ByteArray := ⟨#[228, 184, 160]⟩
theorem kn_h0 : hanB 0 = h0B ∧ hanB 32 = h32B := by decide +kernel
theorem many_len (n : Nat) : (manyL n).length = n := by simp [manyL]
theorem many_snoc (n : Nat) : manyL (n + 1) = manyL n ++ [(kaB, hanB n)] := by simp [manyL, List.range_succ]
theorem many_cells (n : Nat) : wdCells (manyL (n + 1)) = wdCells (manyL n) ++ [.string kaB, .string (hanB n)] := by
  rw [many_snoc, wdCells_append]
  unfold wdCells
  rw [List.flatMap_cons, List.flatMap_nil, List.append_nil]
theorem many_light (n : Nat) : WLight 1048576 (manyL n) := by
  intro c hc
  obtain ⟨i, _, rfl⟩ := List.mem_map.1 hc
  have h : (hanB i).size ≤ 4 := encode_size_le _
  generalize hanB i = x at *
  exact ⟨by show kaB.size ≤ 1048576; decide, by show x.size ≤ 1048576; omega⟩
/-- The loop of words. -/
def ManyAt (w : World) (v i : Value) (wr : World) : Prop :=
  ∃ k : Nat, k ≤ 40 ∧ i = .int .i64 (k : Int) ∧ wr.ownsRow w.heap.size 35 2 v k (wdCells (manyL k)) ∧ Below w.heap.size w wr
end Go.Proofs.YtleflnbcgkfojaaDoor
