/- What henkanref31.all computes. -/
import Derived.Test.YtleflnbcgkfojaaDoorHist6
import Derived.Test.YtleflnbcgkfojaaDoorKana2
namespace Go.Proofs.YtleflnbcgkfojaaDoor
open Go.RowKit Go.Lib Go.Shelf Hk Go.Maps
set_option linter.unusedSimpArgs false
set_option linter.unusedVariables false
set_option maxRecDepth 100000

/-- The keys of one word, behind a surface. -/
def wordKeys (p : ByteArray) (x : Wd) : List ByteArray :=
  if readingD x.1.data.toList = true ∧ (kmk 1 x.1.data.toList x.2.data.toList).isSome = true then keyStr (kmk 1 x.1.data.toList x.2.data.toList) :: (match kmk 2 p.data.toList x.2.data.toList with | some k => [⟨k.toArray⟩] | none => []) else []
def allFrom : ByteArray → List Wd → List ByteArray
  | _, [] => []
  | p, x :: ws => wordKeys p x ++ allFrom x.2 ws
theorem lastD_cons (p : ByteArray) (x : Wd) (ws : List Wd) : lastD p (x :: ws) = lastD x.2 ws := by
  unfold lastD
  cases ws with
  | nil => rfl
  | cons y r =>
    have : (x :: y :: r).getLast? = (y :: r).getLast? := by simp [List.getLast?_cons]
    rw [this]
    cases h : (y :: r).getLast? with
    | none => simp at h
    | some z => rfl
theorem allFrom_snoc : ∀ (p : ByteArray) (ws : List Wd) (x : Wd), allFrom p (ws ++ [x]) = allFrom p ws ++ wordKeys (lastD p ws) x
  | p, [], x => by simp [allFrom, lastD]
  | p, y :: ws, x => by
    rw [List.cons_append, allFrom, allFrom, allFrom_snoc y.2 ws x, List.append_assoc, lastD_cons]
theorem wordKeys_len (p : ByteArray) (x : Wd) : (wordKeys p x).length ≤ 2 := by
  unfold wordKeys
  split
  · split <;> simp
  · simp
theorem allFrom_len : ∀ (p : ByteArray) (ws : List Wd), (allFrom p ws).length ≤ 2 * ws.length
  | p, [] => by simp [allFrom]
  | p, x :: ws => by
    have h1 := wordKeys_len p x
    have h2 := allFrom_len x.2 ws
    rw [allFrom, List.length_append, List.length_cons]
    omega

def add1 (l : List ByteArray) (k : ByteArray) : List ByteArray := if l.length < 64 ∧ k ∉ l then l ++ [k] else l
theorem wordStep_all (p : ByteArray) (l : List ByteArray) (x : Wd) : wordStep (p, l) x = (x.2, (wordKeys p x).foldl add1 l) := by
  cases hr : readingD x.1.data.toList with
  | false =>
    rw [wordStep_no p l x hr]
    unfold wordKeys
    rw [if_neg (by rw [hr]; simp)]
    rfl
  | true =>
    cases hk : kmk 1 x.1.data.toList x.2.data.toList with
    | none =>
      rw [wordStep_none p l x hr (by rw [hk]; rfl)]
      unfold wordKeys
      rw [if_neg (by rw [hk]; simp)]
      rfl
    | some key =>
      rw [wordStep_yes p l x hr (by rw [hk]; rfl)]
      unfold wordKeys
      rw [if_pos ⟨hr, by rw [hk]; rfl⟩, hk]
      cases h2 : kmk 2 p.data.toList x.2.data.toList with
      | none => rfl
      | some key2 => rfl
theorem keysSt_all : ∀ (ws : List Wd) (p : ByteArray) (l : List ByteArray), ws.foldl wordStep (p, l) = (lastD p ws, (allFrom p ws).foldl add1 l)
  | [], p, l => rfl
  | x :: ws, p, l => by
    rw [List.foldl_cons, wordStep_all, keysSt_all ws x.2, allFrom, List.foldl_append, lastD_cons]
theorem keysD_all (p : ByteArray) (ws : List Wd) : keysD p ws = (allFrom p ws).foldl add1 [] := by
  unfold keysD keysSt
  rw [keysSt_all]
theorem keysSt_last (p : ByteArray) (ws : List Wd) : (keysSt p ws).1 = lastD p ws := by
  unfold keysSt
  rw [keysSt_all]

/-- The loop of all. -/
def AllAt (w : World) (prev : ByteArray) (ws : List Wd) (v i : Value) (wr : World) : Prop :=
  ∃ k : Nat, k ≤ ws.length ∧ i = .int .i64 (k : Int) ∧ wr.ownsRow w.heap.size 9 1 v (allFrom prev (ws.take k)).length ((allFrom prev (ws.take k)).map Value.string) ∧ Below w.heap.size w wr

set_option maxHeartbeats 8000000 in
theorem all_calls (prev : ByteArray) (A : Option Addr) (cap : Nat) (ws : List Wd) (w : World) (hp : prev.size ≤ 1048576) (hl : Lies w w.heap.size 2 A ws.length (wdCells ws)) (hn : ws.length ≤ 1048576) (hws : WLight 1048576 ws) :
    Calls Tryd.prog 29 #[.string prev, .slice A ws.length cap] w (StrsPost w (allFrom prev ws)) := by
  obtain ⟨i0, hi, hz0, hz1, hz2⟩ := info_parts Tryd.info9
  have HL := Lib.hid hl
  have HW0 := Lib.hid hws
  clear hl hws
  obtain ⟨n, hnn⟩ : ∃ n, n = ws.length := ⟨_, rfl⟩
  have HN := Lib.hid hnn
  rw [← hnn] at hn ⊢
  clear hnn
  go_enter Tryd.func29, Tryd.ntmps29
  go_wp2_with fail
  go_loopw [5, 6] (fun v i wr => AllAt w prev ws v i wr) (fun _ i _ => n - (intOf i).toNat)
  case atStart => exact ⟨0, Nat.zero_le _, rfl, World.ownsRow_nil _ _ _ _, Below.refl _ _⟩
  case round =>
    obtain ⟨k, hk, rfl, hown, hbw⟩ := hrel
    rw [← HN.out] at hk
    have hlen : (allFrom prev (ws.take k)).length ≤ 2097152 := Nat.le_trans (allFrom_len _ _) (by have := List.length_take_le k ws; omega)
    by_cases hlt : k < n
    · obtain ⟨c, hc⟩ : ∃ c, ws[k]? = some c := ⟨_, List.getElem?_eq_getElem (by rw [← HN.out]; exact hlt)⟩
      obtain ⟨q0, q1⟩ := wdCells_at ws k c hc
      have hlw := HL.out
      rw [← HN.out] at hlw
      obtain ⟨b, off, hA, hab, hcells⟩ := hlw.cells (by omega)
      subst hA
      have c0 := hcells _ _ q0
      have c1 : w.cell? ⟨b, off + k * 2 + 1, none⟩ = some (.string c.2) := hcells _ _ q1
      obtain ⟨hr1, hr2⟩ := HW0.out c (List.mem_of_getElem? hc)
      have hts := allFrom_snoc prev (ws.take k) c
      rw [← take_snoc_list ws k c hc] at hts
      obtain ⟨bf, hbf⟩ : ∃ bf, lastD prev (ws.take k) = bf := ⟨_, rfl⟩
      rw [hbf] at hts
      have hprev : (k = 0 ∧ bf = prev) ∨ (0 < k ∧ ∃ y : ByteArray, wr.cell? ⟨b, off + (k - 1) * 2 + 1, none⟩ = some (.string y) ∧ bf = y ∧ y.size ≤ 1048576) := by
        rcases Nat.eq_zero_or_pos k with h0 | h0
        · left
          subst h0
          exact ⟨rfl, by rw [← hbf]; rfl⟩
        · right
          obtain ⟨c', hc'⟩ : ∃ c', ws[k - 1]? = some c' := ⟨_, List.getElem?_eq_getElem (by rw [← HN.out]; omega)⟩
          refine ⟨h0, c'.2, cell_later hbw (hcells _ _ (wdCells_at ws (k - 1) c' hc').2), ?_, (HW0.out c' (List.mem_of_getElem? hc')).2⟩
          rw [← hbf]
          unfold lastD
          have : (ws.take k).getLast? = some c' := by
            rw [List.getLast?_eq_getElem?, List.length_take, Nat.min_eq_left (by rw [← HN.out]; exact hk), List.getElem?_take_of_lt (by omega), hc']
          rw [this]
      obtain ⟨r, s⟩ := c
      simp only at c0 c1 hr1 hr2
      have HT := Lib.hid hts
      clear q0 q1 hlw hc hts hcells hbf
      have CM1 := Lib.hid fun W => refMake_calls 1 r s W (by omega) (by omega)
      have CR := Lib.hid fun W => refReading_calls r W (by omega)
      rcases hprev with ⟨rfl, rfl⟩ | ⟨h0, y, cp, rfl, hy⟩
      · have CM2 := Lib.hid fun W => refMake_calls 2 bf s W (by omega) (by omega)
        replace c0 : w.cell? ⟨b, off, none⟩ = some (.string r) := by simpa using c0
        replace c1 : w.cell? ⟨b, off + 1, none⟩ = some (.string s) := by simpa using c1
        have hlen0 : (allFrom bf []).length ≤ 2097152 := by simp [allFrom]
        have HT1 : Hid (allFrom bf (ws.take 1) = allFrom bf (ws.take 0) ++ wordKeys bf (r, s)) := HT.out
        have HKS := Lib.hid fun (W : World) (hW : Below w.heap.size w W) => (show W.cell? ⟨b, off, none⟩ = some (.string r) ∧ W.cell? ⟨b, off + 1, none⟩ = some (.string s) from ⟨cell_later hW c0, cell_later hW c1⟩)
        obtain ⟨d0, d1⟩ := HKS.out wr hbw
        have hbd := hbw.drew
        cases hm1 : kmk 1 r.data.toList s.data.toList with
        | none =>
          simp only [MakePost_none hm1] at CM1
          have HW : Hid (wordKeys bf (r, s) = []) := by show _ = _; unfold wordKeys; rw [if_neg (by rw [hm1]; simp)]
          clear hm1
          go_wp2_with fail
          go_region_held3 (fun W => W.cell? ⟨b, off, none⟩ = some (.string r) ∧ W.cell? ⟨b, off + 1, none⟩ = some (.string s)) (first | exact ⟨d0, d1⟩ | exact HKS.out _ p1) (first | (go_at_call 38; refine (CM1.out _).mono ?_; rintro e w1 ⟨rfl, hb1⟩; have p1 := qtrans hbd hb1))
          all_goals
            have ho1 := owns_below (w := wr.drew) hown hb1
            clear hb1 hown hbw d0 d1
            go_wp2_with fail
            go_roundw
            case rel => exact ⟨1, by rw [← HN.out]; omega, rfl, by rw [HT1.out, HW.out, List.append_nil]; exact ho1, p1⟩
            case measure => simp [intOf]; omega
        | some key1 =>
          simp only [MakePost_some hm1] at CM1
          obtain ⟨S1, hS1⟩ : ∃ S1 : ByteArray, S1 = ⟨key1.toArray⟩ := ⟨_, rfl⟩
          rw [← hS1] at CM1
          cases hrd : readingD r.data.toList with
          | false =>
            simp only [hrd] at CR
            have HW : Hid (wordKeys bf (r, s) = []) := by show _ = _; unfold wordKeys; rw [if_neg (by rw [hrd]; simp)]
            clear hm1 hrd hS1
            go_wp2_with fail
            go_region_held3 (fun W => W.cell? ⟨b, off, none⟩ = some (.string r) ∧ W.cell? ⟨b, off + 1, none⟩ = some (.string s)) (first | exact ⟨d0, d1⟩ | exact HKS.out _ p1) (first | (go_at_call 38; refine (CM1.out _).mono ?_; rintro e w1 ⟨rfl, hb1⟩; have p1 := qtrans hbd hb1))
            all_goals
              have ho1 := owns_below (w := wr.drew) hown hb1
              obtain ⟨e0, e1⟩ := HKS.out w1 p1
              clear hb1 hown hbw d0 d1
              go_wp2_with fail
              refine (CR.out _).mono ?_
              rintro e w2 ⟨rfl, hb2⟩
              have ho2 := owns_below ho1 hb2
              have p2 := qtrans p1 hb2
              clear hb2 ho1 p1 e0 e1
              go_wp2_with fail
              go_roundw
              case rel => exact ⟨1, by rw [← HN.out]; omega, rfl, by rw [HT1.out, HW.out, List.append_nil]; exact ho2, p2⟩
              case measure => simp [intOf]; omega
          | true =>
            simp only [hrd] at CR
            cases hm2 : kmk 2 bf.data.toList s.data.toList with
            | none =>
              simp only [MakePost_none hm2] at CM2
              have HW : Hid (wordKeys bf (r, s) = [S1]) := by show _ = _; unfold wordKeys; rw [if_pos ⟨hrd, by rw [hm1]; rfl⟩, hm1, hm2, hS1]; rfl
              clear hm1 hrd hS1 hm2
              go_wp2_with fail
              go_region_held3 (fun W => W.cell? ⟨b, off, none⟩ = some (.string r) ∧ W.cell? ⟨b, off + 1, none⟩ = some (.string s)) (first | exact ⟨d0, d1⟩ | exact HKS.out _ p1) (first | (go_at_call 38; refine (CM1.out _).mono ?_; rintro e w1 ⟨rfl, hb1⟩; have p1 := qtrans hbd hb1))
              all_goals
                have ho1 := owns_below (w := wr.drew) hown hb1
                obtain ⟨e0, e1⟩ := HKS.out w1 p1
                clear hb1 hown hbw d0 d1
                go_wp2_with fail
                refine (CR.out _).mono ?_
                rintro e w2 ⟨rfl, hb2⟩
                have ho2 := owns_below ho1 hb2
                have p2 := qtrans p1 hb2
                clear hb2 ho1 p1 e0 e1
                go_wp2_with (at_builtin; refine wpList_append_own _ rfl _ _ 26 rfl w.heap.size 9 i0 (.string ⟨#[]⟩) 1 16 Tryd.underlying26 hi hz0 hz1 hz2 rfl (by decide) _ _ _ rfl (ho2.alloc _) ⟨w2.heap.size, 0, none⟩ 1 1 [.string S1] rfl rfl (cell_one_new _ _ _) (by intro u hu; simp at hu; subst hu; rfl) (by unfold maxLen; omega) (by omega) (by have := p2.size; simp; omega) ?_)
                intro v' w3 ho3 hg3 _
                have p3 := below_append p2 _ ho2 hg3
                obtain ⟨f0, f1⟩ := HKS.out w3 p3
                clear hg3 ho2 p2
                go_wp2_with fail
                refine (CM2.out _).mono ?_
                rintro e w4 ⟨rfl, hb4⟩
                have ho4 := owns_below ho3 hb4
                have p4 := qtrans p3 hb4
                clear hb4 ho3 p3 f0 f1
                go_wp2_with fail
                go_roundw
                case rel => exact ⟨1, by rw [← HN.out]; omega, rfl, by rw [HT1.out, HW.out, List.length_append, List.map_append]; exact ho4, p4⟩
                case measure => simp [intOf]; omega
            | some key2 =>
              simp only [MakePost_some hm2] at CM2
              obtain ⟨S2, hS2⟩ : ∃ S2 : ByteArray, S2 = ⟨key2.toArray⟩ := ⟨_, rfl⟩
              rw [← hS2] at CM2
              have HW : Hid (wordKeys bf (r, s) = [S1, S2]) := by show _ = _; unfold wordKeys; rw [if_pos ⟨hrd, by rw [hm1]; rfl⟩, hm1, hm2, hS1, hS2]; rfl
              clear hm1 hrd hS1 hm2 hS2
              go_wp2_with fail
              go_region_held3 (fun W => W.cell? ⟨b, off, none⟩ = some (.string r) ∧ W.cell? ⟨b, off + 1, none⟩ = some (.string s)) (first | exact ⟨d0, d1⟩ | exact HKS.out _ p1) (first | (go_at_call 38; refine (CM1.out _).mono ?_; rintro e w1 ⟨rfl, hb1⟩; have p1 := qtrans hbd hb1))
              all_goals
                have ho1 := owns_below (w := wr.drew) hown hb1
                obtain ⟨e0, e1⟩ := HKS.out w1 p1
                clear hb1 hown hbw d0 d1
                go_wp2_with fail
                refine (CR.out _).mono ?_
                rintro e w2 ⟨rfl, hb2⟩
                have ho2 := owns_below ho1 hb2
                have p2 := qtrans p1 hb2
                clear hb2 ho1 p1 e0 e1
                go_wp2_with (at_builtin; refine wpList_append_own _ rfl _ _ 26 rfl w.heap.size 9 i0 (.string ⟨#[]⟩) 1 16 Tryd.underlying26 hi hz0 hz1 hz2 rfl (by decide) _ _ _ rfl (ho2.alloc _) ⟨w2.heap.size, 0, none⟩ 1 1 [.string S1] rfl rfl (cell_one_new _ _ _) (by intro u hu; simp at hu; subst hu; rfl) (by unfold maxLen; omega) (by omega) (by have := p2.size; simp; omega) ?_)
                intro v' w3 ho3 hg3 _
                have p3 := below_append p2 _ ho2 hg3
                obtain ⟨f0, f1⟩ := HKS.out w3 p3
                clear hg3 ho2 p2
                go_wp2_with fail
                refine (CM2.out _).mono ?_
                rintro e w4 ⟨rfl, hb4⟩
                have ho4 := owns_below ho3 hb4
                have p4 := qtrans p3 hb4
                clear hb4 ho3 p3 f0 f1
                go_wp2_with (at_builtin; refine wpList_append_own _ rfl _ _ 26 rfl w.heap.size 9 i0 (.string ⟨#[]⟩) 1 16 Tryd.underlying26 hi hz0 hz1 hz2 rfl (by decide) _ _ _ rfl (ho4.alloc _) ⟨w4.heap.size, 0, none⟩ 1 1 [.string S2] rfl rfl (cell_one_new _ _ _) (by intro u hu; simp at hu; subst hu; rfl) (by unfold maxLen; omega) (by omega) (by have := p4.size; simp; omega) ?_)
                intro v5 w5 ho5 hg5 _
                have p5 := below_append p4 _ ho4 hg5
                clear hg5 ho4 p4
                go_wp2_with fail
                go_roundw
                case rel => exact ⟨1, by rw [← HN.out]; omega, rfl, by rw [HT1.out, HW.out, List.length_append, List.map_append]; simpa using ho5, p5⟩
                case measure => simp [intOf]; omega
      · have CM2 := Lib.hid fun W => refMake_calls 2 bf s W (by omega) (by omega)
        have HKS := Lib.hid fun (W : World) (hW : Below w.heap.size w W) => (show W.cell? ⟨b, off + k * 2, none⟩ = some (.string r) ∧ W.cell? ⟨b, off + k * 2 + 1, none⟩ = some (.string s) from ⟨cell_later hW c0, cell_later hW c1⟩)
        obtain ⟨d0, d1⟩ := HKS.out wr hbw
        have hbd := hbw.drew
        cases hm1 : kmk 1 r.data.toList s.data.toList with
        | none =>
          simp only [MakePost_none hm1] at CM1
          have HW : Hid (wordKeys bf (r, s) = []) := by show _ = _; unfold wordKeys; rw [if_neg (by rw [hm1]; simp)]
          clear hm1
          go_wp2_with fail
          go_region_held3 (fun W => W.cell? ⟨b, off + k * 2, none⟩ = some (.string r) ∧ W.cell? ⟨b, off + k * 2 + 1, none⟩ = some (.string s)) (first | exact ⟨d0, d1⟩ | exact HKS.out _ p1) (first | (go_at_call 38; refine (CM1.out _).mono ?_; rintro e w1 ⟨rfl, hb1⟩; have p1 := qtrans hbd hb1))
          all_goals
            have ho1 := owns_below (w := wr.drew) hown hb1
            clear hb1 hown hbw d0 d1
            go_wp2_with fail
            go_roundw
            case rel => exact ⟨k + 1, by rw [← HN.out]; omega, by go_num, by rw [HT.out, HW.out, List.append_nil]; exact ho1, p1⟩
            case measure => simp [intOf]; omega
        | some key1 =>
          simp only [MakePost_some hm1] at CM1
          obtain ⟨S1, hS1⟩ : ∃ S1 : ByteArray, S1 = ⟨key1.toArray⟩ := ⟨_, rfl⟩
          rw [← hS1] at CM1
          cases hrd : readingD r.data.toList with
          | false =>
            simp only [hrd] at CR
            have HW : Hid (wordKeys bf (r, s) = []) := by show _ = _; unfold wordKeys; rw [if_neg (by rw [hrd]; simp)]
            clear hm1 hrd hS1
            go_wp2_with fail
            go_region_held3 (fun W => W.cell? ⟨b, off + k * 2, none⟩ = some (.string r) ∧ W.cell? ⟨b, off + k * 2 + 1, none⟩ = some (.string s)) (first | exact ⟨d0, d1⟩ | exact HKS.out _ p1) (first | (go_at_call 38; refine (CM1.out _).mono ?_; rintro e w1 ⟨rfl, hb1⟩; have p1 := qtrans hbd hb1))
            all_goals
              have ho1 := owns_below (w := wr.drew) hown hb1
              obtain ⟨e0, e1⟩ := HKS.out w1 p1
              clear hb1 hown hbw d0 d1
              go_wp2_with fail
              refine (CR.out _).mono ?_
              rintro e w2 ⟨rfl, hb2⟩
              have ho2 := owns_below ho1 hb2
              have p2 := qtrans p1 hb2
              clear hb2 ho1 p1 e0 e1
              go_wp2_with fail
              go_roundw
              case rel => exact ⟨k + 1, by rw [← HN.out]; omega, by go_num, by rw [HT.out, HW.out, List.append_nil]; exact ho2, p2⟩
              case measure => simp [intOf]; omega
          | true =>
            simp only [hrd] at CR
            cases hm2 : kmk 2 bf.data.toList s.data.toList with
            | none =>
              simp only [MakePost_none hm2] at CM2
              have HW : Hid (wordKeys bf (r, s) = [S1]) := by show _ = _; unfold wordKeys; rw [if_pos ⟨hrd, by rw [hm1]; rfl⟩, hm1, hm2, hS1]; rfl
              clear hm1 hrd hS1 hm2
              go_wp2_with fail
              go_region_held3 (fun W => W.cell? ⟨b, off + k * 2, none⟩ = some (.string r) ∧ W.cell? ⟨b, off + k * 2 + 1, none⟩ = some (.string s)) (first | exact ⟨d0, d1⟩ | exact HKS.out _ p1) (first | (go_at_call 38; refine (CM1.out _).mono ?_; rintro e w1 ⟨rfl, hb1⟩; have p1 := qtrans hbd hb1))
              all_goals
                have ho1 := owns_below (w := wr.drew) hown hb1
                obtain ⟨e0, e1⟩ := HKS.out w1 p1
                clear hb1 hown hbw d0 d1
                go_wp2_with fail
                refine (CR.out _).mono ?_
                rintro e w2 ⟨rfl, hb2⟩
                have ho2 := owns_below ho1 hb2
                have p2 := qtrans p1 hb2
                clear hb2 ho1 p1 e0 e1
                go_wp2_with (at_builtin; refine wpList_append_own _ rfl _ _ 26 rfl w.heap.size 9 i0 (.string ⟨#[]⟩) 1 16 Tryd.underlying26 hi hz0 hz1 hz2 rfl (by decide) _ _ _ rfl (ho2.alloc _) ⟨w2.heap.size, 0, none⟩ 1 1 [.string S1] rfl rfl (cell_one_new _ _ _) (by intro u hu; simp at hu; subst hu; rfl) (by unfold maxLen; omega) (by omega) (by have := p2.size; simp; omega) ?_)
                intro v' w3 ho3 hg3 _
                have p3 := below_append p2 _ ho2 hg3
                obtain ⟨f0, f1⟩ := HKS.out w3 p3
                clear hg3 ho2 p2
                go_wp2_with fail
                refine (CM2.out _).mono ?_
                rintro e w4 ⟨rfl, hb4⟩
                have ho4 := owns_below ho3 hb4
                have p4 := qtrans p3 hb4
                clear hb4 ho3 p3 f0 f1
                go_wp2_with fail
                go_roundw
                case rel => exact ⟨k + 1, by rw [← HN.out]; omega, by go_num, by rw [HT.out, HW.out, List.length_append, List.map_append]; exact ho4, p4⟩
                case measure => simp [intOf]; omega
            | some key2 =>
              simp only [MakePost_some hm2] at CM2
              obtain ⟨S2, hS2⟩ : ∃ S2 : ByteArray, S2 = ⟨key2.toArray⟩ := ⟨_, rfl⟩
              rw [← hS2] at CM2
              have HW : Hid (wordKeys bf (r, s) = [S1, S2]) := by show _ = _; unfold wordKeys; rw [if_pos ⟨hrd, by rw [hm1]; rfl⟩, hm1, hm2, hS1, hS2]; rfl
              clear hm1 hrd hS1 hm2 hS2
              go_wp2_with fail
              go_region_held3 (fun W => W.cell? ⟨b, off + k * 2, none⟩ = some (.string r) ∧ W.cell? ⟨b, off + k * 2 + 1, none⟩ = some (.string s)) (first | exact ⟨d0, d1⟩ | exact HKS.out _ p1) (first | (go_at_call 38; refine (CM1.out _).mono ?_; rintro e w1 ⟨rfl, hb1⟩; have p1 := qtrans hbd hb1))
              all_goals
                have ho1 := owns_below (w := wr.drew) hown hb1
                obtain ⟨e0, e1⟩ := HKS.out w1 p1
                clear hb1 hown hbw d0 d1
                go_wp2_with fail
                refine (CR.out _).mono ?_
                rintro e w2 ⟨rfl, hb2⟩
                have ho2 := owns_below ho1 hb2
                have p2 := qtrans p1 hb2
                clear hb2 ho1 p1 e0 e1
                go_wp2_with (at_builtin; refine wpList_append_own _ rfl _ _ 26 rfl w.heap.size 9 i0 (.string ⟨#[]⟩) 1 16 Tryd.underlying26 hi hz0 hz1 hz2 rfl (by decide) _ _ _ rfl (ho2.alloc _) ⟨w2.heap.size, 0, none⟩ 1 1 [.string S1] rfl rfl (cell_one_new _ _ _) (by intro u hu; simp at hu; subst hu; rfl) (by unfold maxLen; omega) (by omega) (by have := p2.size; simp; omega) ?_)
                intro v' w3 ho3 hg3 _
                have p3 := below_append p2 _ ho2 hg3
                obtain ⟨f0, f1⟩ := HKS.out w3 p3
                clear hg3 ho2 p2
                go_wp2_with fail
                refine (CM2.out _).mono ?_
                rintro e w4 ⟨rfl, hb4⟩
                have ho4 := owns_below ho3 hb4
                have p4 := qtrans p3 hb4
                clear hb4 ho3 p3 f0 f1
                go_wp2_with (at_builtin; refine wpList_append_own _ rfl _ _ 26 rfl w.heap.size 9 i0 (.string ⟨#[]⟩) 1 16 Tryd.underlying26 hi hz0 hz1 hz2 rfl (by decide) _ _ _ rfl (ho4.alloc _) ⟨w4.heap.size, 0, none⟩ 1 1 [.string S2] rfl rfl (cell_one_new _ _ _) (by intro u hu; simp at hu; subst hu; rfl) (by unfold maxLen; omega) (by omega) (by have := p4.size; simp; omega) ?_)
                intro v5 w5 ho5 hg5 _
                have p5 := below_append p4 _ ho4 hg5
                clear hg5 ho4 p4
                go_wp2_with fail
                go_roundw
                case rel => exact ⟨k + 1, by rw [← HN.out]; omega, by go_num, by rw [HT.out, HW.out, List.length_append, List.map_append]; simpa using ho5, p5⟩
                case measure => simp [intOf]; omega
    · have HT : Hid (ws.take k = ws) := by
        show _ = _
        exact List.take_of_length_le (by rw [← HN.out]; omega)
      go_wp2_with fail
      go_ret
      refine ⟨_, rfl, ?_, hbw⟩
      rw [HT.out] at hown
      exact hown
end Go.Proofs.YtleflnbcgkfojaaDoor
