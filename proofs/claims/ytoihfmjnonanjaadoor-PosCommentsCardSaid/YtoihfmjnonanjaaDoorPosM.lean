/- What same, Given, Taken and works of henkanlaw15 compute. -/
import Derived.Test.YtoihfmjnonanjaaDoorPosL
namespace Go.Proofs.YtoihfmjnonanjaaDoor
open Go.RowKit Go.Lib Go.Shelf Hk
set_option linter.unusedSimpArgs false
set_option linter.unusedVariables false
set_option maxRecDepth 100000

theorem Tryd.info86 : (Tryd.prog.info? 86).map (fun i => (i.zero, i.size, i.bytes)) = some (some (.agg #[.string ⟨#[]⟩, .int .i64 0]), 2, 24) := by kernel_rfl

set_option maxHeartbeats 1000000 in
theorem same_calls (A A' : Option Addr) (cap cap' : Nat) (xs : List P2) (w : World) (B B' : Nat) (h1 : Lies w B 2 A xs.length (pcells xs)) (h2 : Lies w B' 2 A' xs.length (pcells xs)) (hn : xs.length ≤ 9223372036854775807) :
    Calls Tryd.prog 23 #[.slice A xs.length cap, .slice A' xs.length cap'] w fun e w' => e = .returned (.bool true) ∧ Below w.heap.size w w' := by
  have H1 := Lib.hid h1
  have H2 := Lib.hid h2
  clear h1 h2
  obtain ⟨n, hnn⟩ : ∃ n, n = xs.length := ⟨_, rfl⟩
  have HN := Lib.hid hnn
  rw [← hnn] at hn ⊢
  clear hnn
  have q : ((n : Int) != (n : Int)) = false := by simp
  go_enter Tryd.func23, Tryd.ntmps23
  go_wp2_with fail
  go_loopw [13] (fun i wr => ∃ k q : Nat, k ≤ n ∧ i = .int .i64 (k : Int) ∧ wr = w.drewN q) (fun i _ => n - (intOf i).toNat)
  case atStart => exact ⟨0, 0, Nat.zero_le _, rfl, rfl⟩
  case round =>
    obtain ⟨k, q, hk, rfl, rfl⟩ := hrel
    by_cases hlt : k < n
    · obtain ⟨x, hx⟩ : ∃ x, xs[k]? = some x := ⟨_, List.getElem?_eq_getElem (by rw [← HN.out]; exact hlt)⟩
      obtain ⟨q0, q1⟩ := pcells_at xs k x hx
      have l1 := H1.out
      have l2 := H2.out
      rw [← HN.out] at l1 l2
      obtain ⟨b, off, rfl, _, c0, c1⟩ := l1.at2 hlt q0 q1
      obtain ⟨b', off', rfl, _, d0, d1⟩ := l2.at2 hlt q0 q1
      clear l1 l2 hx q0 q1
      obtain ⟨x0, x1⟩ := x
      simp only at c0 c1 d0 d1
      have s0 : (x0.toList == x0.toList) = true := by simp
      have s1 : (x1 == x1) = true := by simp
      go_wp2_with fail
      go_quiet (fail)
      go_wp2_with fail
      go_roundw
      case rel => exact ⟨k + 1, _, by omega, by go_num, rfl⟩
      case measure => simp [intOf]; omega
    · go_wp2_with fail
      go_ret
      exact ⟨rfl, below_drewN _ q⟩

/-- A new list of parts of speech. -/
def NewPos (t : TypeId) (l : List P2) (w : World) (e : Ending) (w' : World) : Prop := ∃ v, e = .returned v ∧ w'.ownsRow w.heap.size t 2 v l.length (pcells l) ∧ Below w.heap.size w w'
def NewAt (t : TypeId) (l : List P2) (w : World) (v i : Value) (wr : World) : Prop :=
  ∃ k : Nat, k ≤ l.length ∧ i = .int .i64 (k : Int) ∧ wr.ownsRow w.heap.size t 2 v k (pcells (l.take k)) ∧ Below w.heap.size w wr

set_option maxHeartbeats 2000000 in
theorem given_calls (A : Option Addr) (cap : Nat) (l : List P2) (B : Nat) (w : World) (hl : Lies w B 2 A l.length (pcells l)) (hB : B ≤ w.heap.size) (hn : l.length * 24 ≤ 140737488355328) :
    Calls Tryd.prog 27 #[.slice A l.length cap] w (NewPos 86 l w) := by
  obtain ⟨i0, hi, hz0, hz1, hz2⟩ := info_parts Tryd.info86
  have HL := Lib.hid (hl.up hB)
  clear hl
  obtain ⟨n, hnn⟩ : ∃ n, n = l.length := ⟨_, rfl⟩
  have HN := Lib.hid hnn
  rw [← hnn] at hn ⊢
  clear hnn
  go_enter Tryd.func27, Tryd.ntmps27
  go_wp2_with fail
  go_loopw [3, 8] (fun v i wr => NewAt 86 l w v i wr) (fun _ i _ => n - (intOf i).toNat)
  case atStart => exact ⟨0, Nat.zero_le _, rfl, World.ownsRow_nil _ _ _ _, Below.refl _ _⟩
  case round =>
    obtain ⟨k, hk, rfl, hown, hbw⟩ := hrel
    rw [← HN.out] at hk
    by_cases hlt : k < n
    · obtain ⟨p, hp⟩ : ∃ p, l[k]? = some p := ⟨_, List.getElem?_eq_getElem (by rw [← HN.out]; exact hlt)⟩
      obtain ⟨q0, q1⟩ := pcells_at l k p hp
      have hlw := HL.out.below hbw
      rw [← HN.out] at hlw
      obtain ⟨b, off, rfl, hab, c0, c1⟩ := hlw.at2 hlt q0 q1
      have hts := take_snoc_list l k p hp
      obtain ⟨pn, pk⟩ := p
      simp only at c0 c1
      have HT : Hid (pcells (l.take (k + 1)) = pcells (l.take k) ++ [.string pn, .int .i64 pk]) := by show _ = _; rw [hts, pcells_one]
      have hb1 : Below wr.heap.size wr (wr.alloc (.cells #[.string pn, .int .i64 pk] 33)) := (Below.refl _ _).alloc (Nat.le_refl _) _
      have hown1 := owns_below hown hb1
      have hbw1 := qtrans hbw hb1
      have hl24 : (k + 1) * 24 ≤ 140737488355328 := by omega
      clear q0 q1 hlw hp hts hb1 hown hbw
      go_wp2_with (at_builtin; refine wpList_append_own _ rfl _ _ 40 rfl w.heap.size 86 i0 (.agg #[.string ⟨#[]⟩, .int .i64 0]) 2 24 Tryd.underlying40 hi hz0 hz1 hz2 rfl (by decide) _ _ _ rfl (hown1.alloc _) ⟨wr.heap.size + 1, 0, none⟩ 1 1 [.string pn, .int .i64 pk] rfl rfl ?c1 ?c2 ?c3 ?c4 ?c5 ?_)
      case c1 => have := cells_new (wr.alloc (.cells #[.string pn, .int .i64 pk] 33)) [.string pn, .int .i64 pk] 86; rw [World.size_alloc] at this; exact this
      case c2 => intro u hu; simp at hu; rcases hu with rfl | rfl <;> rfl
      case c3 => unfold maxLen; omega
      case c4 => exact hl24
      case c5 => have := hbw1.size; simp at this ⊢; omega
      intro v' w3 hown3 hgrow3 _
      have hbw3 := below_append hbw1 _ hown1 hgrow3
      clear hgrow3 hown1 hbw1
      go_wp2_with fail
      go_roundw
      case rel => exact ⟨k + 1, by rw [← HN.out]; omega, by go_num, by rw [HT.out]; exact hown3, hbw3⟩
      case measure => simp [intOf]; omega
    · obtain rfl : k = n := by omega
      have HT : Hid (l.take k = l) := by
        show _ = _
        exact List.take_of_length_le (by rw [← HN.out]; omega)
      go_wp2_with fail
      go_ret
      refine ⟨_, rfl, ?_, hbw⟩
      rw [HT.out] at hown
      rw [← HN.out]
      exact hown

set_option maxHeartbeats 2000000 in
theorem taken_calls (A : Option Addr) (cap : Nat) (l : List P2) (B : Nat) (w : World) (hl : Lies w B 2 A l.length (pcells l)) (hB : B ≤ w.heap.size) (hn : l.length * 24 ≤ 140737488355328) :
    Calls Tryd.prog 24 #[.slice A l.length cap] w (NewPos 33 l w) := by
  obtain ⟨i0, hi, hz0, hz1, hz2⟩ := info_parts Tryd.info33
  have HL := Lib.hid (hl.up hB)
  clear hl
  obtain ⟨n, hnn⟩ : ∃ n, n = l.length := ⟨_, rfl⟩
  have HN := Lib.hid hnn
  rw [← hnn] at hn ⊢
  clear hnn
  go_enter Tryd.func24, Tryd.ntmps24
  go_wp2_with fail
  go_loopw [3, 8] (fun v i wr => NewAt 33 l w v i wr) (fun _ i _ => n - (intOf i).toNat)
  case atStart => exact ⟨0, Nat.zero_le _, rfl, World.ownsRow_nil _ _ _ _, Below.refl _ _⟩
  case round =>
    obtain ⟨k, hk, rfl, hown, hbw⟩ := hrel
    rw [← HN.out] at hk
    by_cases hlt : k < n
    · obtain ⟨p, hp⟩ : ∃ p, l[k]? = some p := ⟨_, List.getElem?_eq_getElem (by rw [← HN.out]; exact hlt)⟩
      obtain ⟨q0, q1⟩ := pcells_at l k p hp
      have hlw := HL.out.below hbw
      rw [← HN.out] at hlw
      obtain ⟨b, off, rfl, hab, c0, c1⟩ := hlw.at2 hlt q0 q1
      have hts := take_snoc_list l k p hp
      obtain ⟨pn, pk⟩ := p
      simp only at c0 c1
      have HT : Hid (pcells (l.take (k + 1)) = pcells (l.take k) ++ [.string pn, .int .i64 pk]) := by show _ = _; rw [hts, pcells_one]
      have hb1 : Below wr.heap.size wr (wr.alloc (.cells #[.string pn, .int .i64 pk] 86)) := (Below.refl _ _).alloc (Nat.le_refl _) _
      have hown1 := owns_below hown hb1
      have hbw1 := qtrans hbw hb1
      have hl24 : (k + 1) * 24 ≤ 140737488355328 := by omega
      clear q0 q1 hlw hp hts hb1 hown hbw
      go_wp2_with (at_builtin; refine wpList_append_own _ rfl _ _ 24 rfl w.heap.size 33 i0 (.agg #[.string ⟨#[]⟩, .int .i64 0]) 2 24 Tryd.underlying24 hi hz0 hz1 hz2 rfl (by decide) _ _ _ rfl (hown1.alloc _) ⟨wr.heap.size + 1, 0, none⟩ 1 1 [.string pn, .int .i64 pk] rfl rfl ?c1 ?c2 ?c3 ?c4 ?c5 ?_)
      case c1 => have := cells_new (wr.alloc (.cells #[.string pn, .int .i64 pk] 86)) [.string pn, .int .i64 pk] 33; rw [World.size_alloc] at this; exact this
      case c2 => intro u hu; simp at hu; rcases hu with rfl | rfl <;> rfl
      case c3 => unfold maxLen; omega
      case c4 => exact hl24
      case c5 => have := hbw1.size; simp at this ⊢; omega
      intro v' w3 hown3 hgrow3 _
      have hbw3 := below_append hbw1 _ hown1 hgrow3
      clear hgrow3 hown1 hbw1
      go_wp2_with fail
      go_roundw
      case rel => exact ⟨k + 1, by rw [← HN.out]; omega, by go_num, by rw [HT.out]; exact hown3, hbw3⟩
      case measure => simp [intOf]; omega
    · obtain rfl : k = n := by omega
      have HT : Hid (l.take k = l) := by
        show _ = _
        exact List.take_of_length_le (by rw [← HN.out]; omega)
      go_wp2_with fail
      go_ret
      refine ⟨_, rfl, ?_, hbw⟩
      rw [HT.out] at hown
      rw [← HN.out]
      exact hown

/-- The text of works, and what it stands for. -/
def workText : ByteArray := ⟨#[66, 79, 83, 9, 99, 111, 110, 116, 101, 110, 116, 10, 110, 111, 117, 110, 9, 99, 111, 110, 116, 101, 110, 116, 10, 103, 97, 9, 102, 117, 110, 99, 116, 105, 111, 110, 10, 111, 9, 112, 114, 101, 102, 105, 120]⟩
def workL : List P2 := [(bosB, 0), (⟨#[110, 111, 117, 110]⟩, 0), (⟨#[103, 97]⟩, 1), (⟨#[111]⟩, 2)]
theorem work_parse : parseD workText = (workL, 0, 0) := by decide +kernel
/-- A list that was written in place. -/
theorem pos_lit (W : World) (l : List P2) (cs : Array Value) (n : Nat) (hn : n = l.length) (h0 : 0 < n) (hcs : (pcells l).toArray = cs) : Lies (W.alloc (.cells cs 33)) (W.alloc (.cells cs 33)).heap.size 2 (some ⟨W.heap.size, 0, none⟩) n (pcells l) := by
  subst hn hcs
  exact Lies.of_addr (pcells_len l) (by omega) (by simp) (cells_new W (pcells l) _)

set_option maxHeartbeats 1000000 in
theorem works_calls (w : World) (he : Env w) : Calls Tryd.prog 20 #[] w fun e w' => e = .returned (.bool true) ∧ Below w.heap.size w w' := by
  have C1 := Lib.hid (parse_calls workText w (by decide) he)
  rw [work_parse] at C1
  have CB := Lib.hid breaks_calls
  have CS := Lib.hid fun (W : World) A c (h : Lies W W.heap.size 2 A 4 (pcells workL)) => same_calls A (some ⟨W.heap.size, 0, none⟩) c 4 workL (W.alloc (.cells #[.string bosB, .int .i64 0, .string ⟨#[110, 111, 117, 110]⟩, .int .i64 0, .string ⟨#[103, 97]⟩, .int .i64 1, .string ⟨#[111]⟩, .int .i64 2] 33)) _ _ (h.alloc (Nat.le_refl _) _) (pos_lit W workL _ 4 rfl (by omega) rfl) (by decide)
  unfold bosB at CS
  have t1 : ((2 : Int) != 1 && (0 : Int) != 2) = true := by decide
  have t2 : ((0 : Int) != 1 && (2 : Int) != 2) = false := by decide
  have t3 : ((1 : Int) != 1 && (0 : Int) != 2) = false := by decide
  have T1 := Lib.hid t1
  have T2 := Lib.hid t2
  have T3 := Lib.hid t3
  clear t1 t2 t3
  unfold workText at C1
  go_enter Tryd.func20, Tryd.ntmps20
  go_wp2_with fail
  refine C1.out.mono ?_
  rintro e w1 ⟨v, rfl, ho, hb1⟩
  obtain ⟨A, c, rfl, _, _, hl⟩ := own_lies ho
  have C2 := Lib.hid (CS.out w1 A c hl)
  clear ho C1 CS hl
  simp only [workL, List.length_cons, List.length_nil, Nat.zero_add, Nat.reduceAdd] at C2 ⊢
  go_wp2_with fail
  refine C2.out.mono ?_
  rintro e w2 ⟨rfl, hb2⟩
  have hb3 : Below w.heap.size w w2 := qtrans (hb1.alloc hb1.size _) hb2
  clear hb1 hb2 C2
  go_wp2_with fail
  refine (CB.out 0 2 _).mono ?_
  rintro e w3 ⟨rfl, rfl⟩
  rw [T1.out]
  go_wp2_with fail
  refine (CB.out 2 0 _).mono ?_
  rintro e w3 ⟨rfl, rfl⟩
  rw [T2.out]
  go_wp2_with fail
  refine (CB.out 0 1 _).mono ?_
  rintro e w3 ⟨rfl, rfl⟩
  rw [T3.out]
  go_wp2_with fail
  go_ret
  exact ⟨rfl, hb3⟩
end Go.Proofs.YtoihfmjnonanjaaDoor
