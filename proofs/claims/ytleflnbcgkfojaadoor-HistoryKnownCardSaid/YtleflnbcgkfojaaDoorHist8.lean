/- What henkanref31.has and henkanref31.Keys compute. -/
import Derived.Test.YtleflnbcgkfojaaDoorHist7
namespace Go.Proofs.YtleflnbcgkfojaaDoor
open Go.RowKit Go.Lib Go.Shelf Hk Go.Maps
set_option linter.unusedSimpArgs false
set_option linter.unusedVariables false
set_option maxRecDepth 100000

theorem list_eq_iff (a b : ByteArray) : (a.toList == b.toList) = true ↔ a = b := by
  rw [beq_iff_eq, ByteArray.toList_eq, ByteArray.toList_eq]
  constructor
  · intro e
    rw [← mk_list a, e, mk_list]
  · rintro rfl; rfl

set_option maxHeartbeats 1000000 in
theorem refHas_calls (A : Option Addr) (n cap : Nat) (l : List ByteArray) (s : ByteArray) (w : World) (B : Nat) (hn0 : l.length = n) (hl : Lies w B 1 A n (l.map Value.string)) (hn : n ≤ 9223372036854775807) :
    Calls Tryd.prog 30 #[.slice A n cap, .string s] w fun e w' => e = .returned (.bool (decide (s ∈ l))) ∧ w = w' := by
  have HL := Lib.hid hl
  have HN := Lib.hid hn0
  obtain ⟨x, hx⟩ : ∃ x, decide (s ∈ l) = x := ⟨_, rfl⟩
  have HX := Lib.hid hx
  rw [hx]
  clear hl hn0 hx
  go_enter Tryd.func30, Tryd.ntmps30
  go_wp2_with fail
  go_loop [5] (fun i => ∃ k : Nat, k ≤ n ∧ i = .int .i64 (k : Int) ∧ Hid (s ∉ l.take k)) (fun i => n - (intOf i).toNat)
  case atStart => exact ⟨0, Nat.zero_le _, rfl, by show _ ∉ _; simp⟩
  case round =>
    obtain ⟨k, hk, rfl, HA⟩ := hrel
    by_cases hlt : k < n
    · obtain ⟨key, hc⟩ : ∃ c, l[k]? = some c := ⟨_, List.getElem?_eq_getElem (by rw [HN.out]; exact hlt)⟩
      obtain ⟨b, off, rfl, hab, c0⟩ := HL.out.at1 hlt (u := .string key) (by rw [List.getElem?_map, hc]; rfl)
      cases hq : (key.toList == s.toList) with
      | true =>
        have HF : Hid (x = true) := by
          show _ = _
          rw [← HX.out]
          have := (list_eq_iff key s).1 hq
          exact decide_eq_true (by rw [← this]; exact List.mem_of_getElem? hc)
        clear hc
        go_wp2_with fail
        go_ret
        exact ⟨ret_bool HF.out.symm, rfl⟩
      | false =>
        have HA2 : Hid (s ∉ l.take (k + 1)) := by
          show _ ∉ _
          rw [take_snoc_list l k key hc, List.mem_append]
          rintro (h | h)
          · exact HA.out h
          · have : s = key := by simpa using h
            rw [(list_eq_iff key s).2 this.symm] at hq
            cases hq
        clear hc
        go_wp2_with fail
        go_round
        case rel => exact ⟨k + 1, by omega, by go_num, HA2⟩
        case measure => simp [intOf]; omega
    · have HF : Hid (x = false) := by
        show _ = _
        rw [← HX.out]
        have := HA.out
        rw [List.take_of_length_le (by rw [HN.out]; omega)] at this
        exact decide_eq_false this
      go_wp2_with fail
      go_ret
      exact ⟨ret_bool HF.out.symm, rfl⟩

def addAll (l : List ByteArray) : List ByteArray := l.foldl add1 []
theorem addAll_snoc (l : List ByteArray) (x : ByteArray) : addAll (l ++ [x]) = add1 (addAll l) x := by simp [addAll, List.foldl_append]
theorem add1_len (l : List ByteArray) (x : ByteArray) (h : l.length ≤ 64) : (add1 l x).length ≤ 64 := by
  unfold add1
  split
  · rw [List.length_append, List.length_singleton]; omega
  · exact h
theorem foldl_len : ∀ (m l : List ByteArray), l.length ≤ 64 → (m.foldl add1 l).length ≤ 64
  | [], l, h => h
  | x :: m, l, h => foldl_len m _ (add1_len l x h)
theorem addAll_len (l : List ByteArray) : (addAll l).length ≤ 64 := foldl_len l [] (by simp)

def RKeysAt (w w1 : World) (l : List ByteArray) (v i : Value) (wr : World) : Prop :=
  ∃ k : Nat, k ≤ l.length ∧ i = .int .i64 (k : Int) ∧ wr.ownsRow w1.heap.size 9 1 v (addAll (l.take k)).length ((addAll (l.take k)).map Value.string) ∧ Below w1.heap.size w1 wr

set_option maxHeartbeats 4000000 in
theorem refKeys_calls (prev : ByteArray) (A : Option Addr) (cap : Nat) (ws : List Wd) (w : World) (hp : prev.size ≤ 1048576) (hl : Lies w w.heap.size 2 A ws.length (wdCells ws)) (hn : ws.length ≤ 1048576) (hws : WLight 1048576 ws) :
    Calls Tryd.prog 15 #[.string prev, .slice A ws.length cap] w (StrsPost w (keysD prev ws)) := by
  obtain ⟨i0, hi, hz0, hz1, hz2⟩ := info_parts Tryd.info9
  have CA := Lib.hid (all_calls prev A cap ws w hp hl hn hws)
  have CH := Lib.hid refHas_calls
  have HD : Hid (keysD prev ws = addAll (allFrom prev ws)) := keysD_all prev ws
  have hlen := allFrom_len prev ws
  clear hl hws
  obtain ⟨l, hll⟩ : ∃ l, allFrom prev ws = l := ⟨_, rfl⟩
  rw [hll] at CA HD hlen
  clear hll
  generalize keysD prev ws = res at *
  generalize ws.length = m at *
  obtain ⟨n, hnn⟩ : ∃ n, n = l.length := ⟨_, rfl⟩
  have HN := Lib.hid hnn
  rw [← hnn] at hlen
  clear hnn
  go_enter Tryd.func15, Tryd.ntmps15
  go_wp2_with fail
  refine CA.out.mono ?_
  rintro e w1 ⟨v1, rfl, ho1, hb1⟩
  obtain ⟨A1, c1, rfl, _, _, hl1⟩ := own_lies ho1
  have HL := Lib.hid hl1
  rw [← HN.out] at HL ⊢
  clear ho1 hl1 CA
  go_wp2_with fail
  go_loopw [6, 7] (fun v i wr => RKeysAt w w1 l v i wr) (fun _ i _ => n - (intOf i).toNat)
  case atStart => exact ⟨0, Nat.zero_le _, rfl, World.ownsRow_nil _ _ _ _, Below.refl _ _⟩
  case round =>
    obtain ⟨k, hk, rfl, hown, hbw⟩ := hrel
    rw [← HN.out] at hk
    have h64 := addAll_len (l.take k)
    by_cases hlt : k < n
    · obtain ⟨key, hc⟩ : ∃ c, l[k]? = some c := ⟨_, List.getElem?_eq_getElem (by rw [← HN.out]; exact hlt)⟩
      obtain ⟨b, off, rfl, hab, c0⟩ := (HL.out.below hbw).at1 hlt (u := .string key) (by rw [List.getElem?_map, hc]; rfl)
      have hts := addAll_snoc (l.take k) key
      rw [← take_snoc_list l k key hc] at hts
      have HT := Lib.hid hts
      clear hts hc
      obtain ⟨A6, c6, rfl, _, _, hl6⟩ := own_lies hown
      generalize hacc : addAll (l.take k) = acc at *
      have HACC := Lib.hid hacc
      clear hacc
      by_cases hfull : acc.length < 64
      · have g1 : decide ((acc.length : Int) < 64) = true := decide_eq_true (by omega)
        have g2 : decide (acc.length < 64) = true := decide_eq_true hfull
        have C2 := Lib.hid (CH.out A6 acc.length c6 acc key wr _ rfl hl6 (by omega))
        by_cases hin : key ∈ acc
        · rw [decide_eq_true hin] at C2
          have HA : Hid (add1 acc key = acc) := by show _ = _; unfold add1; rw [if_neg (fun e => e.2 hin)]
          clear hin hl6
          generalize hL : acc.length = L at *
          have HLL := Lib.hid hL
          clear hL
          go_wp2_with fail
          refine C2.out.mono ?_
          rintro e w2 ⟨rfl, rfl⟩
          go_wp2_with fail
          go_roundw
          case rel => exact ⟨k + 1, by rw [← HN.out]; omega, by go_num, by rw [HT.out, HA.out, HLL.out]; exact hown, hbw⟩
          case measure => simp [intOf]; omega
        · rw [decide_eq_false hin] at C2
          have HA : Hid (add1 acc key = acc ++ [key]) := by show _ = _; unfold add1; rw [if_pos ⟨hfull, hin⟩]
          clear hin hl6
          generalize hL : acc.length = L at *
          have HLL := Lib.hid hL
          clear hL
          go_wp2_with fail
          refine C2.out.mono ?_
          rintro e w2 ⟨rfl, rfl⟩
          go_wp2_with (at_builtin; refine wpList_append_own _ rfl _ _ 26 rfl w1.heap.size 9 i0 (.string ⟨#[]⟩) 1 16 Tryd.underlying26 hi hz0 hz1 hz2 rfl (by decide) _ _ _ rfl (hown.alloc _) ⟨wr.heap.size, 0, none⟩ 1 1 [.string key] rfl rfl (cell_one_new _ _ _) (by intro u hu; simp at hu; subst hu; rfl) (by unfold maxLen; omega) (by omega) (by have := hbw.size; simp; omega) ?_)
          intro v' w3 ho3 hg3 _
          have p3 := below_append hbw _ hown hg3
          clear hg3 hown hbw
          go_wp2_with fail
          go_roundw
          case rel => exact ⟨k + 1, by rw [← HN.out]; omega, by go_num, by rw [HT.out, HA.out, List.length_append, List.map_append, HLL.out]; exact ho3, p3⟩
          case measure => simp [intOf]; omega
      · have g1 : decide ((acc.length : Int) < 64) = false := decide_eq_false (by omega)
        have g2 : decide (acc.length < 64) = false := decide_eq_false hfull
        have HA : Hid (add1 acc key = acc) := by show _ = _; unfold add1; rw [if_neg (fun e => hfull e.1)]
        clear hl6
        generalize hL : acc.length = L at *
        have HLL := Lib.hid hL
        clear hL
        go_wp2_with fail
        go_roundw
        case rel => exact ⟨k + 1, by rw [← HN.out]; omega, by go_num, by rw [HT.out, HA.out, HLL.out]; exact hown, hbw⟩
        case measure => simp [intOf]; omega
    · have HT : Hid (addAll (l.take k) = res) := by
        show _ = _
        rw [List.take_of_length_le (by rw [← HN.out]; omega), ← HD.out]
      go_wp2_with fail
      go_ret
      refine ⟨_, rfl, ?_, qtrans hb1 hbw⟩
      rw [HT.out] at hown
      rcases hown with ⟨h1, h2⟩
      refine ⟨h1, ?_⟩
      rcases h2 with h2 | ⟨g, cp, cur, e1, e2, e3⟩
      · exact .inl h2
      · exact .inr ⟨g, cp, cur, e1, Nat.le_trans hb1.size e2, e3⟩

theorem kmk_small {k : Int} {a b l : List UInt8} (h : kmk k a b = some l) : l.length ≤ 400 := by
  obtain ⟨_, _, _, h1, rfl⟩ := kmk_some h
  simp only [List.length_cons, List.length_append]; omega
theorem wordKeys_small (p : ByteArray) (x : Wd) : ∀ k ∈ wordKeys p x, k.size ≤ 1048576 := by
  intro k hk
  unfold wordKeys at hk
  split at hk
  · rename_i h
    obtain ⟨l1, e1⟩ := Option.isSome_iff_exists.1 h.2
    have s1 := kmk_small e1
    rw [e1] at hk
    rcases List.mem_cons.1 hk with rfl | hk
    · show (List.toArray _).size ≤ _
      rw [List.size_toArray]; exact Nat.le_trans s1 (by decide)
    · split at hk
      · rename_i l2 e2
        have s2 := kmk_small e2
        have : k = ⟨l2.toArray⟩ := by simpa using hk
        subst this
        show (List.toArray _).size ≤ _
        rw [List.size_toArray]; exact Nat.le_trans s2 (by decide)
      · cases hk
  · cases hk
theorem allFrom_small : ∀ (p : ByteArray) (ws : List Wd), ∀ k ∈ allFrom p ws, k.size ≤ 1048576
  | p, [], k, hk => by cases hk
  | p, x :: ws, k, hk => by
    rw [allFrom, List.mem_append] at hk
    rcases hk with h | h
    · exact wordKeys_small p x k h
    · exact allFrom_small x.2 ws k h
theorem foldl_mem : ∀ (m l : List ByteArray) (k : ByteArray), k ∈ m.foldl add1 l → k ∈ l ∨ k ∈ m
  | [], l, k, h => .inl h
  | x :: m, l, k, h => by
    rcases foldl_mem m _ k h with h | h
    · unfold add1 at h
      split at h
      · rcases List.mem_append.1 h with h | h
        · exact .inl h
        · exact .inr (by simp at h; subst h; exact List.mem_cons_self)
      · exact .inl h
    · exact .inr (List.mem_cons_of_mem _ h)
theorem keysD_mem {p : ByteArray} {ws : List Wd} {k : ByteArray} (h : k ∈ keysD p ws) : k ∈ allFrom p ws := by
  rw [keysD_all] at h
  rcases foldl_mem _ _ _ h with h | h
  · cases h
  · exact h
theorem keysD_small (p : ByteArray) (ws : List Wd) : ∀ k ∈ keysD p ws, k.size ≤ 1048576 := fun k hk => allFrom_small p ws k (keysD_mem hk)
end Go.Proofs.YtleflnbcgkfojaaDoor
