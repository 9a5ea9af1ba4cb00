/- pos.lines: the iterator over the lines of a text that are no comments. -/
import Derived.RangeFuncNested
import Derived.RangeFuncBound
import Derived.RangeFuncCalls
import Derived.RangeFuncLeaves
import Derived.RangeFuncBox
import Derived.Shelf.Abstract
import Derived.Shelf.RegionOpen
import Derived.OwnWalkIn
import Derived.TacticsInMore
import Derived.LoopNIn
import Derived.LoopIn
import Derived.Test.YtoihfmjnonanjaaDoorPosI
namespace Go.Proofs.YtoihfmjnonanjaaDoor
open Go.RowKit Go.Lib Go.Shelf Hk
set_option linter.unusedSimpArgs false
set_option linter.unusedVariables false
set_option maxRecDepth 100000
attribute [local go_sem] Oper.semAt_some

/-- A line that is a comment. -/
def isCommentB (s : ByteArray) : Bool := decide (s.size = 0) || s.data.toList[0]? == some 35
/-- The lines that are no comments, numbered from n + 1 on. -/
def itemsB : Nat → List ByteArray → List (Nat × ByteArray)
  | _, [] => []
  | n, l :: r => if isCommentB l then itemsB (n + 1) r else (n + 1, l) :: itemsB (n + 1) r
theorem isCommentB_eq (s : ByteArray) : isCommentB s = isComment s.data.toList := by
  unfold isCommentB isComment
  have : s.size = s.data.toList.length := by simp
  rw [this]
  cases s.data.toList <;> simp
theorem itemsB_data : ∀ (ls : List ByteArray) (n : Nat), (itemsB n ls).map (fun x => (x.1, x.2.data.toList)) = itemsL n (ls.map (·.data.toList))
  | [], n => rfl
  | l :: r, n => by
    rw [itemsB, List.map_cons, itemsL, isCommentB_eq]
    split
    · exact itemsB_data r (n + 1)
    · rw [List.map_cons, itemsB_data r (n + 1)]
theorem items_skip {L : List ByteArray} {k : Nat} {x : ByteArray} (h : L[k]? = some x) (hc : isCommentB x = true) : itemsB k (L.drop k) = itemsB (k + 1) (L.drop (k + 1)) := by
  obtain ⟨hlt, rfl⟩ := List.getElem?_eq_some_iff.1 h
  rw [List.drop_eq_getElem_cons hlt, itemsB, if_pos hc]
theorem items_take {L : List ByteArray} {k : Nat} {x : ByteArray} (h : L[k]? = some x) (hc : isCommentB x = false) : itemsB k (L.drop k) = (k + 1, x) :: itemsB (k + 1) (L.drop (k + 1)) := by
  obtain ⟨hlt, rfl⟩ := List.getElem?_eq_some_iff.1 h
  rw [List.drop_eq_getElem_cons hlt, itemsB, if_neg (by rw [hc]; simp)]

/-- What a round keeps: rows of strings. -/
def KpT (W W' : World) : Prop := ∀ (k : Nat) (cs : Array Value) (fr : Nat × Nat), W.heap[k]? = some (Obj.cells cs 9 fr) → W'.heap[k]? = some (Obj.cells cs 9 fr)
theorem kpT_t {A B C : World} (h : KpT A B) (k : KpT B C) : KpT A C := fun i cs fr hi => k i cs fr (h i cs fr hi)
theorem kpT_b {w : World} (W : World) (l : Nat) (o o' : Obj) (_ : w.heap.size ≤ l) (h : W.heap[l]? = some o) (ho : o.isCells = false) (_ : o.isWalk = false) : KpT W (W.putObj l o') := by
  intro i cs fr hi
  have hne : i ≠ l := by
    rintro rfl
    rw [h] at hi
    cases hi
    cases ho
  exact ((grownBy_putObj' W l o').block i (Array.getElem?_eq_some_iff.1 hi).1 (fun e => hne (by cases e; rfl))).trans hi
theorem kpT_below {W W' : World} (h : Below W.heap.size W W') : KpT W W' := fun i cs fr hi => (h.block i (Array.getElem?_eq_some_iff.1 hi).1).trans hi
theorem keepsFrom_below {W W' : World} (B : Nat) (h : Below W.heap.size W W') : KeepsFrom B W W' := ⟨h.size, fun k o _ hk _ => (h.block k (Array.getElem?_eq_some_iff.1 hk).1).trans hk⟩

set_option maxHeartbeats 400000 in
theorem lines_calls (s : ByteArray) (w : World) : Calls Tryd.prog 35 #[.string s] w fun e w' => e = .returned (.func (.func 55) #[] #[.pointer (some ⟨w.heap.size, 0, none⟩)]) ∧ w' = w.alloc (.cells #[.string s] 9) := by
  have hmf : ∀ (fn : Fn) (first cap : Array Value) (w : World), (Instr.makeFunc fn first cap).run Tryd.prog w = .ok (.func fn first cap) w := fun _ _ _ _ => rfl
  go_enter Tryd.func35, Tryd.ntmps35
  go_wp2_with fail
  go_ret
  exact ⟨rfl, rfl⟩

def linesRow (s : ByteArray) : Array Value := ((linesB s).map Value.string).toArray
theorem linesB_len (s : ByteArray) : (linesB s).length = Lib.countB s ⟨#[10]⟩ + 1 := splitB_all _ (by decide) _ _ _ rfl
theorem linesB_cap (s : ByteArray) : (linesB s).length ≤ s.size + 2 := by
  rw [linesB_len]
  have := count_le s.data.toList (⟨#[10]⟩ : ByteArray).data.toList
  have h2 : s.size = s.data.toList.length := by simp
  unfold countB
  omega
theorem split_calls (s : ByteArray) (w : World) (hs : s.size < 4294967281) (he : Env w) :
    Calls Tryd.prog 56 #[.string s, .string ⟨#[10]⟩] w fun e w' => e = .returned (.slice (some ⟨w.heap.size, 0, none⟩) (linesB s).length (linesB s).length) ∧ w' = w.alloc (.cells (linesRow s) 9) := by
  obtain ⟨m, hm⟩ := he.2
  have := Tryd.strings_Split s ⟨#[10]⟩ m w hs hm (by decide)
  rw [linesB_len]
  exact this

theorem linesL_len : ∀ (l : List UInt8), ∀ a ∈ linesL l, a.length ≤ l.length
  | [], a, h => by
    simp [linesL] at h
    subst h
    simp
  | c :: t, a, h => by
    rw [linesL] at h
    split at h
    · rcases List.mem_cons.1 h with rfl | h
      · simp
      · have := linesL_len t a h
        simp; omega
    · cases hl : linesL t with
      | nil => exact absurd hl (linesL_ne t)
      | cons b r =>
        rw [hl] at h
        simp only [glueL] at h
        rcases List.mem_cons.1 h with rfl | h
        · have := linesL_len t b (by rw [hl]; simp)
          simp; omega
        · have := linesL_len t a (by rw [hl]; simp [h])
          simp; omega
theorem linesB_size (s : ByteArray) (x : ByteArray) (h : x ∈ linesB s) : x.size ≤ s.size := by
  have h1 : x.data.toList ∈ linesL s.data.toList := by
    rw [← linesB_data]
    exact List.mem_map.2 ⟨x, h, rfl⟩
  have := linesL_len _ _ h1
  rw [size_list, size_list]
  exact this
theorem items_mem : ∀ (ls : List ByteArray) (n : Nat), ∀ r ∈ itemsB n ls, r.2 ∈ ls
  | [], n, r, h => by simp [itemsB] at h
  | l :: ls, n, r, h => by
    rw [itemsB] at h
    split at h
    · exact List.mem_cons_of_mem _ (items_mem ls (n + 1) r h)
    · rcases List.mem_cons.1 h with rfl | h
      · exact List.mem_cons_self
      · exact List.mem_cons_of_mem _ (items_mem ls (n + 1) r h)
theorem items_size (s : ByteArray) (r : Nat × ByteArray) (h : r ∈ itemsB 0 (linesB s)) : r.2.size ≤ s.size := linesB_size s r.2 (items_mem _ _ r h)
/-- A line with its number, no longer than strings.Cut takes. -/
abbrev It := { x : Nat × ByteArray // x.2.size < 4294967281 }
/-- The iterator's loop: k lines are over, and what they are has come. -/
def ItAt (s : ByteArray) (J : List It → World → Prop) (Bs : Nat) (i : Value) (wr : World) : Prop :=
  ∃ (k : Nat) (pre : List It), k ≤ (linesB s).length ∧ i = .int .i64 (k : Int) ∧ J pre wr ∧ itemsB 0 (linesB s) = pre.map (·.1) ++ itemsB k ((linesB s).drop k) ∧ ∃ fr, wr.heap[Bs]? = some (Obj.cells (linesRow s) 9 fr)

set_option maxHeartbeats 4000000 in
theorem lines_stops (n : Nat) (hn : 1 ≤ n) (Bs : Nat) (s : ByteArray) (w : World) (hBs : Bs < w.heap.size) (hc : w.cell? ⟨Bs, 0, none⟩ = some (.string s)) (hs : s.size < 4294967281) (he : Env w) :
    SeqStopsK Fence.wide n Tryd.prog 55 #[.pointer (some ⟨Bs, 0, none⟩)] (fun x : It => #[Value.int .i64 (x.1.1 : Int), Value.string x.1.2]) KpT (fun ys => ys.map (·.1) = itemsB 0 (linesB s)) (fun pre => pre.map (·.1) <+: itemsB 0 (linesB s)) (itemsB 0 (linesB s)).length w := fun l J Jx W hW hJ hJx hY h0 => by
  have hc' := (hW.cell (p := ⟨Bs, 0, none⟩) hBs).trans hc
  have CS := Lib.hid fun W (hW : Env W) => split_calls s W hs hW
  have HE := Lib.hid (he.below hW)
  have hcap := linesB_cap s
  have h1 : J [] (W.alloc (.cells (linesRow s) 9)) := hJ [] W _ none h0 (World.grownBy_alloc W _ none) (fun r e => by cases e)
  have HY := Lib.hid hY
  clear hc he hW hJ hJx hY h0
  refine callsIn_of_wp Tryd.func55 rfl trivial ?_ rfl
  simp only [Tryd.ntmps55, List.size_toArray, List.length_cons, List.length_nil, Nat.reduceAdd, Nat.reduceSub, Array.replicate_succ, Array.replicate_zero, List.push_toArray, List.append_toArray, List.nil_append, List.cons_append]
  gi_wp2_with (refine ⟨trivial, ?_⟩; gi_at_call 56; refine (callsIn_wide.2 (CS.out _ HE.out)).mono ?_; rintro e w' ⟨rfl, rfl⟩)
  have hBr : ∃ fr, (W.alloc (.cells (linesRow s) 9)).heap[W.heap.size]? = some (Obj.cells (linesRow s) 9 fr) := ⟨_, World.alloc_heap_new W _⟩
  have HI : Hid (ItAt s J W.heap.size (.int .i64 0) (W.alloc (.cells (linesRow s) 9))) := ⟨0, [], Nat.zero_le _, rfl, h1, by simp, hBr⟩
  obtain ⟨m, hm⟩ : ∃ m, m = (linesB s).length := ⟨_, rfl⟩
  have HM := Lib.hid hm
  rw [← hm] at hcap ⊢
  clear h1 hBr CS HE hc' hm
  gi_loopw [8] (fun i wr => ItAt s J W.heap.size i wr) (fun i _ => m - (intOf i).toNat)
  case atStart => exact HI.out
  case round =>
    obtain ⟨k, pre, hk, rfl, hJ, hit, fr, hrow⟩ := hrel
    rw [← HM.out] at hk
    have HT := Lib.hid hit
    clear hit HI
    by_cases hlt : k < m
    · obtain ⟨x, hx⟩ : ∃ x, (linesB s)[k]? = some x := ⟨_, List.getElem?_eq_getElem (by rw [← HM.out]; exact hlt)⟩
      have hcell : wr.cell? ⟨W.heap.size, k, none⟩ = some (.string x) := by
        rw [cell_of_row _ W.heap.size k _ _ _ hrow]
        unfold linesRow
        simp [hx]
      have hrow' := Lib.hid hrow
      clear hrow
      cases hcm : isCommentB x with
      | true =>
        have HS := Lib.hid (items_skip hx hcm)
        have HN : Hid (ItAt s J W.heap.size (.int .i64 ((k : Int) + 1)) wr) := ⟨k + 1, pre, by rw [← HM.out]; omega, by go_num, hJ, by rw [HT.out, HS.out], fr, hrow'.out⟩
        by_cases h0 : x.size = 0
        · have e0 : x.toList.isEmpty = true := by rw [ByteArray.toList_eq, List.isEmpty_iff]; exact List.eq_nil_of_length_eq_zero (by simpa using h0)
          clear hcm hx HY HS
          gi_wp2
          refine ⟨fun _ h => (by cases h), ?_⟩
          gi_wp2
          go_roundw
          case rel => exact HN.out
          case measure => simp [intOf]; omega
        · have hp : 0 < x.size := by omega
          have e0 : x.toList.isEmpty = false := by rw [ByteArray.toList_eq]; cases hl : x.data.toList with
            | nil => exact absurd (by rw [size_list, hl]; rfl) h0
            | cons c t => rfl
          have e1 : ((x[0].toNat : Int) != 35) = false := by
            unfold isCommentB at hcm
            rw [decide_eq_false h0, Bool.false_or, List.getElem?_eq_getElem (by rw [← size_list]; exact hp)] at hcm
            have : x[0] = 35 := by show x.data[0] = 35; simpa using hcm
            rw [this]
            rfl
          clear hcm hx HY HS h0
          gi_wp2
          refine ⟨fun _ h => (by cases h), ?_⟩
          gi_wp2
          go_roundw
          case rel => exact HN.out
          case measure => simp [intOf]; omega
      | false =>
        have HS := Lib.hid (items_take hx hcm)
        have h0 : ¬ x.size = 0 := by
          intro h0
          unfold isCommentB at hcm
          rw [decide_eq_true h0] at hcm
          cases hcm
        have hp : 0 < x.size := by omega
        have e0 : x.toList.isEmpty = false := by rw [ByteArray.toList_eq]; cases hl : x.data.toList with
          | nil => exact absurd (by rw [size_list, hl]; rfl) h0
          | cons c t => rfl
        have e1 : ((x[0].toNat : Int) != 35) = true := by
          unfold isCommentB at hcm
          rw [decide_eq_false h0, Bool.false_or, List.getElem?_eq_getElem (by rw [← size_list]; exact hp)] at hcm
          have h2 : ¬ x[0] = 35 := by show ¬ x.data[0] = 35; simpa using hcm
          rw [bne_iff_ne]
          intro h3
          apply h2
          have h4 : x[0].toNat = 35 := by omega
          exact UInt8.toNat_inj.1 h4
        have hlen : pre.length < (itemsB 0 (linesB s)).length := by rw [HT.out, HS.out]; simp
        have hxs : x.size < 4294967281 := Nat.lt_of_le_of_lt (linesB_size s x (List.mem_of_getElem? hx)) hs
        obtain ⟨fn, tmps, assign, body, hy, hR⟩ := HY.out pre ⟨(k + 1, x), hxs⟩ wr hJ hlen
        dsimp only at hy
        rw [show ((k + 1 : Nat) : Int) = (k : Int) + 1 by omega] at hy
        clear hcm hx HY h0 hlen
        gi_wp2
        refine hR.mono ?_
        rintro e W3 (⟨rfl, hJ3, hk3⟩ | ⟨rfl, hJx3⟩)
        · have HN : Hid (ItAt s J W.heap.size (.int .i64 ((k : Int) + 1)) W3) := ⟨k + 1, pre ++ [⟨(k + 1, x), hxs⟩], by rw [← HM.out]; omega, by go_num, hJ3, by rw [HT.out, HS.out]; simp, fr, hk3 _ _ _ hrow'.out⟩
          clear hk3
          gi_wp2
          go_roundw
          case rel => exact HN.out
          case measure => simp [intOf]; omega
        · have HP : Hid ((pre ++ [(⟨(k + 1, x), hxs⟩ : It)]).map (·.1) <+: itemsB 0 (linesB s)) := ⟨itemsB (k + 1) ((linesB s).drop (k + 1)), by rw [HT.out, HS.out]; simp⟩
          gi_wp2
          refine bodyPost_ret (results_none rfl _ _ _) rfl ?_
          exact ⟨⟨_, rfl⟩, .inr ⟨_, HP.out, hJx3⟩⟩
    · obtain rfl : k = m := by omega
      have hend : itemsB 0 (linesB s) = pre.map (·.1) := by rw [HT.out, List.drop_of_length_le (by rw [HM.out]; exact Nat.le_refl _)]; simp [itemsB]
      have HX := Lib.hid hend
      clear hend hrow
      gi_wp2
      go_end0
      exact ⟨⟨_, rfl⟩, .inl ⟨_, HX.out.symm, hJ⟩⟩
end Go.Proofs.YtoihfmjnonanjaaDoor
