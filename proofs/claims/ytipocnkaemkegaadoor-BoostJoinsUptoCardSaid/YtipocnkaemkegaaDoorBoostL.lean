/- What boost.list, boost.Learned and boost.Pairs compute. -/
import Derived.Test.YtipocnkaemkegaaDoorBoostW
namespace Go.Proofs.YtipocnkaemkegaaDoor
open Go.RowKit Go.Lib Go.Shelf Hk
set_option linter.unusedSimpArgs false
set_option linter.unusedVariables false
set_option maxRecDepth 100000

/-- The cells of counts, and of what is made of them. -/
def cntCells (l : List Cnt) : List Value := l.flatMap fun c => [.string c.1, .int .i64 c.2]
def lrnCells (l : List Lrn) : List Value := l.flatMap fun x => [.string x.1, .string x.2.1, .int .i64 x.2.2]
theorem lrnCells_snoc (l : List Lrn) (x : Lrn) : lrnCells (l ++ [x]) = lrnCells l ++ [.string x.1, .string x.2.1, .int .i64 x.2.2] := by simp [lrnCells]
theorem cntCells_at : ∀ (l : List Cnt) (k : Nat) (c : Cnt), l[k]? = some c → (cntCells l)[k * 2]? = some (.string c.1) ∧ (cntCells l)[k * 2 + 1]? = some (.int .i64 c.2)
  | [], k, c, h => by simp at h
  | d :: l, 0, c, h => by
    simp at h
    subst h
    exact ⟨rfl, rfl⟩
  | d :: l, k + 1, c, h => by
    have ih := cntCells_at l k c (by simpa using h)
    simp only [cntCells, List.flatMap_cons] at ih ⊢
    rw [show (k + 1) * 2 = k * 2 + 2 by omega, show k * 2 + 2 + 1 = k * 2 + 1 + 2 by omega, List.getElem?_append_right (by simp), List.getElem?_append_right (by simp)]
    simpa using ih

/-- Counts that a call takes: their keys are not too long. -/
def Light (cs : List Cnt) : Prop := ∀ c ∈ cs, c.1.size ≤ 1048576 ∧ c.2 ≤ 9223372036854775807

theorem Tryd.info41 : (Tryd.prog.info? 41).map (fun i => (i.zero, i.size, i.bytes)) = some (some (.agg #[.string ⟨#[]⟩, .string ⟨#[]⟩, .int .i64 0]), 3, 40) := by kernel_rfl
theorem Tryd.info43 : (Tryd.prog.info? 43).map (fun i => (i.zero, i.size, i.bytes)) = some (some (.agg #[.string ⟨#[]⟩, .string ⟨#[]⟩, .int .i64 0]), 3, 40) := by kernel_rfl

/-- The loop: place k, what is made of the counts before it. -/
def ListAt (t : TypeId) (w : World) (cs : List Cnt) (kind : Int) (v i : Value) (wr : World) : Prop :=
  ∃ k : Nat, k ≤ cs.length ∧ i = .int .i64 (k : Int) ∧ wr.ownsRow w.heap.size t 3 v (many kind (cs.take k)).length (lrnCells (many kind (cs.take k))) ∧ Below w.heap.size w wr

def ListPost (t : TypeId) (w : World) (cs : List Cnt) (kind : Int) (e : Ending) (w' : World) : Prop :=
  ∃ v, e = .returned v ∧ w'.ownsRow w.heap.size t 3 v (many kind cs).length (lrnCells (many kind cs)) ∧ Below w.heap.size w w'

theorem take_snoc_list {α : Type} (l : List α) (k : Nat) (c : α) (h : l[k]? = some c) : l.take (k + 1) = l.take k ++ [c] := by
  obtain ⟨hlt, e⟩ := List.getElem?_eq_some_iff.1 h
  rw [List.take_succ_eq_append_getElem hlt, e]

set_option maxHeartbeats 2000000 in
theorem listL_calls (A : Option Addr) (cap : Nat) (cs : List Cnt) (kind : Int) (w : World) (hl : Lies w w.heap.size 2 A cs.length (cntCells cs)) (hn : cs.length ≤ 2097152) (hcs : Light cs) (he : Env w) :
    Calls Tryd.prog 21 #[.slice A cs.length cap, .int .i64 kind, .func (.func 22) #[] #[]] w (ListPost 41 w cs kind) := by
  obtain ⟨i0, hi, hz0, hz1, hz2⟩ := info_parts Tryd.info41
  have HE := Lib.hid he
  have HL := Lib.hid hl
  have HC := Lib.hid hcs
  clear he hl hcs
  obtain ⟨n, hnn⟩ : ∃ n, n = cs.length := ⟨_, rfl⟩
  have HN := Lib.hid hnn
  rw [← hnn]
  rw [← hnn] at hn
  clear hnn
  go_enter Tryd.func21, Tryd.ntmps21
  go_wp2_with fail
  go_loopw [7, 16] (fun v i wr => ListAt 41 w cs kind v i wr) (fun _ i _ => n - (intOf i).toNat)
  case atStart => exact ⟨0, Nat.zero_le _, rfl, World.ownsRow_nil _ _ _ _, Below.refl _ _⟩
  case round =>
    obtain ⟨k, hk, rfl, hown, hbw⟩ := hrel
    rw [← HN.out] at hk
    by_cases hlt : k < n
    · obtain ⟨c, hc⟩ : ∃ c, cs[k]? = some c := ⟨_, List.getElem?_eq_getElem (by rw [← HN.out]; exact hlt)⟩
      obtain ⟨q0, q1⟩ := cntCells_at cs k c hc
      have hlw := HL.out.below hbw
      rw [← HN.out] at hlw
      obtain ⟨b, off, rfl, hab, c0, c1⟩ := hlw.at2 hlt q0 q1
      clear q0 q1 hlw
      have hmem : c ∈ cs := List.mem_of_getElem? hc
      obtain ⟨hkb, hkv⟩ := HC.out c hmem
      obtain ⟨kb, kv⟩ := c
      simp only at hkb hkv c0 c1
      have hts := take_snoc_list cs k (kb, kv) hc
      have hms := many_snoc kind (cs.take k) (kb, kv)
      rw [← hts] at hms
      have HM := Lib.hid hms
      have CP := Lib.hid fun W (hW : Env W) => parse_calls kb W (by omega) hW
      clear hts hms hmem hc
      have hbx := hbw.alloc hbw.size (.cells #[.string kb, .int .i64 kv] 39)
      have hownx := hown.alloc (.cells #[.string kb, .int .i64 kv] 39)
      have hv : (wr.alloc (.cells #[.string kb, .int .i64 kv] 39)).cell? ⟨wr.heap.size, 1, none⟩ = some (.int .i64 kv) := by go_simp
      have hlen := many_length kind (cs.take k)
      have hlen2 : (many kind (cs.take k)).length ≤ k := Nat.le_trans hlen (List.length_take_le _ _)
      clear hlen
      cases hp : kparse kb.data.toList with
      | none =>
        simp only [ParsePost_none hp] at CP
        have HO := Lib.hid (@one_none kind (kb, kv) hp)
        clear hp
        go_wp2_with fail
        refine (CP.out _ (HE.out.below hbx)).mono ?_
        rintro e w1 ⟨rfl, hb1⟩
        have hown1 := owns_below hownx hb1
        have hbw1 := qtrans hbx hb1
        clear hb1 hownx hbx hv hown hbw c0 c1
        go_wp2_with fail
        go_roundw
        case rel => exact ⟨k + 1, by rw [← HN.out]; omega, by go_num, by rw [HM.out, HO.out]; simpa using hown1, hbw1⟩
        case measure => simp [intOf]; omega
      | some x =>
        obtain ⟨kk, a, b'⟩ := x
        simp only [ParsePost_some hp] at CP
        by_cases hkk : kk = kind
        · by_cases hpos : 0 < kv
          · have HO := Lib.hid (@one_yes kind (kb, kv) kk a b' hp hkk hpos)
            have hk1 : (kk == kind) = true := by simpa using hkk
            have CB := Lib.hid fun W => bonus_calls kv W hkv
            have CF := Lib.hid lrn1_calls
            clear hp hkk
            go_wp2_with fail
            refine (CP.out _ (HE.out.below hbx)).mono ?_
            rintro e w1 ⟨rfl, hb1⟩
            have hv1 := cell_later hb1 hv
            have hown1 := owns_below hownx hb1
            have hbw1 := qtrans hbx hb1
            clear hb1 hownx hbx hv hown hbw c0 c1
            go_wp2_with fail
            refine (CB.out _).mono ?_
            rintro e w2 ⟨rfl, rfl⟩
            go_wp2_with fail
            refine (CF.out _ _ _ _).mono ?_
            rintro e w2 ⟨rfl, hb2⟩
            have hown2 := owns_below hown1 hb2
            have hbw2 := qtrans hbw1 hb2
            clear hb2 hown1 hbw1 hv1
            have hl40 : ((many kind (cs.take k)).length + 1) * 40 ≤ 140737488355328 := by omega
            go_wp2_with (at_builtin; refine wpList_append_own _ rfl _ _ 27 rfl w.heap.size 41 i0 (.agg #[.string ⟨#[]⟩, .string ⟨#[]⟩, .int .i64 0]) 3 40 Tryd.underlying27 hi hz0 hz1 hz2 rfl (by decide) _ _ _ rfl (hown2.alloc _) ⟨w2.heap.size, 0, none⟩ 1 1 [.string ⟨a.toArray⟩, .string ⟨b'.toArray⟩, .int .i64 (bonusD kv)] rfl rfl ?c1 ?c2 ?c3 ?c4 ?c5 ?_)
            case c1 => exact cells_new _ [_, _, _] _
            case c2 => intro u hu; simp at hu; rcases hu with rfl | rfl | rfl <;> rfl
            case c3 => unfold maxLen; omega
            case c4 => exact hl40
            case c5 => have := hbw2.size; simp; omega
            intro v' w3 hown3 hgrow3 _
            have hbw3 := below_append hbw2 _ hown2 hgrow3
            clear hgrow3 hown2 hbw2
            go_wp2_with fail
            go_roundw
            case rel => exact ⟨k + 1, by rw [← HN.out]; omega, by go_num, by rw [HM.out, HO.out]; rw [Option.toList_some, List.length_append, lrnCells_snoc]; exact hown3, hbw3⟩
            case measure => simp [intOf]; omega
          · have HO := Lib.hid (@one_neg kind (kb, kv) kk a b' hp hpos)
            have hk1 : (kk == kind) = true := by simpa using hkk
            clear hp hkk
            go_wp2_with fail
            refine (CP.out _ (HE.out.below hbx)).mono ?_
            rintro e w1 ⟨rfl, hb1⟩
            have hv1 := cell_later hb1 hv
            have hown1 := owns_below hownx hb1
            have hbw1 := qtrans hbx hb1
            clear hb1 hownx hbx hv hown hbw c0 c1
            go_wp2_with fail
            go_roundw
            case rel => exact ⟨k + 1, by rw [← HN.out]; omega, by go_num, by rw [HM.out, HO.out]; simpa using hown1, hbw1⟩
            case measure => simp [intOf]; omega
        · have HO := Lib.hid (@one_other kind (kb, kv) kk a b' hp hkk)
          have hk1 : (kk == kind) = false := by simpa using hkk
          clear hp hkk
          go_wp2_with fail
          refine (CP.out _ (HE.out.below hbx)).mono ?_
          rintro e w1 ⟨rfl, hb1⟩
          have hown1 := owns_below hownx hb1
          have hbw1 := qtrans hbx hb1
          clear hb1 hownx hbx hv hown hbw c0 c1
          go_wp2_with fail
          go_roundw
          case rel => exact ⟨k + 1, by rw [← HN.out]; omega, by go_num, by rw [HM.out, HO.out]; simpa using hown1, hbw1⟩
          case measure => simp [intOf]; omega
    · have HT : Hid (cs.take k = cs) := by
        show _ = _
        exact List.take_of_length_le (by rw [← HN.out]; omega)
      go_wp2_with fail
      go_ret
      refine ⟨_, rfl, ?_, hbw⟩
      rw [HT.out] at hown
      exact hown
set_option maxHeartbeats 2000000 in
theorem listP_calls (A : Option Addr) (cap : Nat) (cs : List Cnt) (kind : Int) (w : World) (hl : Lies w w.heap.size 2 A cs.length (cntCells cs)) (hn : cs.length ≤ 2097152) (hcs : Light cs) (he : Env w) :
    Calls Tryd.prog 24 #[.slice A cs.length cap, .int .i64 kind, .func (.func 25) #[] #[]] w (ListPost 43 w cs kind) := by
  obtain ⟨i0, hi, hz0, hz1, hz2⟩ := info_parts Tryd.info43
  have HE := Lib.hid he
  have HL := Lib.hid hl
  have HC := Lib.hid hcs
  clear he hl hcs
  obtain ⟨n, hnn⟩ : ∃ n, n = cs.length := ⟨_, rfl⟩
  have HN := Lib.hid hnn
  rw [← hnn]
  rw [← hnn] at hn
  clear hnn
  go_enter Tryd.func24, Tryd.ntmps24
  go_wp2_with fail
  go_loopw [7, 16] (fun v i wr => ListAt 43 w cs kind v i wr) (fun _ i _ => n - (intOf i).toNat)
  case atStart => exact ⟨0, Nat.zero_le _, rfl, World.ownsRow_nil _ _ _ _, Below.refl _ _⟩
  case round =>
    obtain ⟨k, hk, rfl, hown, hbw⟩ := hrel
    rw [← HN.out] at hk
    by_cases hlt : k < n
    · obtain ⟨c, hc⟩ : ∃ c, cs[k]? = some c := ⟨_, List.getElem?_eq_getElem (by rw [← HN.out]; exact hlt)⟩
      obtain ⟨q0, q1⟩ := cntCells_at cs k c hc
      have hlw := HL.out.below hbw
      rw [← HN.out] at hlw
      obtain ⟨b, off, rfl, hab, c0, c1⟩ := hlw.at2 hlt q0 q1
      clear q0 q1 hlw
      have hmem : c ∈ cs := List.mem_of_getElem? hc
      obtain ⟨hkb, hkv⟩ := HC.out c hmem
      obtain ⟨kb, kv⟩ := c
      simp only at hkb hkv c0 c1
      have hts := take_snoc_list cs k (kb, kv) hc
      have hms := many_snoc kind (cs.take k) (kb, kv)
      rw [← hts] at hms
      have HM := Lib.hid hms
      have CP := Lib.hid fun W (hW : Env W) => parse_calls kb W (by omega) hW
      clear hts hms hmem hc
      have hbx := hbw.alloc hbw.size (.cells #[.string kb, .int .i64 kv] 39)
      have hownx := hown.alloc (.cells #[.string kb, .int .i64 kv] 39)
      have hv : (wr.alloc (.cells #[.string kb, .int .i64 kv] 39)).cell? ⟨wr.heap.size, 1, none⟩ = some (.int .i64 kv) := by go_simp
      have hlen := many_length kind (cs.take k)
      have hlen2 : (many kind (cs.take k)).length ≤ k := Nat.le_trans hlen (List.length_take_le _ _)
      clear hlen
      cases hp : kparse kb.data.toList with
      | none =>
        simp only [ParsePost_none hp] at CP
        have HO := Lib.hid (@one_none kind (kb, kv) hp)
        clear hp
        go_wp2_with fail
        refine (CP.out _ (HE.out.below hbx)).mono ?_
        rintro e w1 ⟨rfl, hb1⟩
        have hown1 := owns_below hownx hb1
        have hbw1 := qtrans hbx hb1
        clear hb1 hownx hbx hv hown hbw c0 c1
        go_wp2_with fail
        go_roundw
        case rel => exact ⟨k + 1, by rw [← HN.out]; omega, by go_num, by rw [HM.out, HO.out]; simpa using hown1, hbw1⟩
        case measure => simp [intOf]; omega
      | some x =>
        obtain ⟨kk, a, b'⟩ := x
        simp only [ParsePost_some hp] at CP
        by_cases hkk : kk = kind
        · by_cases hpos : 0 < kv
          · have HO := Lib.hid (@one_yes kind (kb, kv) kk a b' hp hkk hpos)
            have hk1 : (kk == kind) = true := by simpa using hkk
            have CB := Lib.hid fun W => bonus_calls kv W hkv
            have CF := Lib.hid prs1_calls
            clear hp hkk
            go_wp2_with fail
            refine (CP.out _ (HE.out.below hbx)).mono ?_
            rintro e w1 ⟨rfl, hb1⟩
            have hv1 := cell_later hb1 hv
            have hown1 := owns_below hownx hb1
            have hbw1 := qtrans hbx hb1
            clear hb1 hownx hbx hv hown hbw c0 c1
            go_wp2_with fail
            refine (CB.out _).mono ?_
            rintro e w2 ⟨rfl, rfl⟩
            go_wp2_with fail
            refine (CF.out _ _ _ _).mono ?_
            rintro e w2 ⟨rfl, hb2⟩
            have hown2 := owns_below hown1 hb2
            have hbw2 := qtrans hbw1 hb2
            clear hb2 hown1 hbw1 hv1
            have hl40 : ((many kind (cs.take k)).length + 1) * 40 ≤ 140737488355328 := by omega
            go_wp2_with (at_builtin; refine wpList_append_own _ rfl _ _ 31 rfl w.heap.size 43 i0 (.agg #[.string ⟨#[]⟩, .string ⟨#[]⟩, .int .i64 0]) 3 40 Tryd.underlying31 hi hz0 hz1 hz2 rfl (by decide) _ _ _ rfl (hown2.alloc _) ⟨w2.heap.size, 0, none⟩ 1 1 [.string ⟨a.toArray⟩, .string ⟨b'.toArray⟩, .int .i64 (bonusD kv)] rfl rfl ?c1 ?c2 ?c3 ?c4 ?c5 ?_)
            case c1 => exact cells_new _ [_, _, _] _
            case c2 => intro u hu; simp at hu; rcases hu with rfl | rfl | rfl <;> rfl
            case c3 => unfold maxLen; omega
            case c4 => exact hl40
            case c5 => have := hbw2.size; simp; omega
            intro v' w3 hown3 hgrow3 _
            have hbw3 := below_append hbw2 _ hown2 hgrow3
            clear hgrow3 hown2 hbw2
            go_wp2_with fail
            go_roundw
            case rel => exact ⟨k + 1, by rw [← HN.out]; omega, by go_num, by rw [HM.out, HO.out]; rw [Option.toList_some, List.length_append, lrnCells_snoc]; exact hown3, hbw3⟩
            case measure => simp [intOf]; omega
          · have HO := Lib.hid (@one_neg kind (kb, kv) kk a b' hp hpos)
            have hk1 : (kk == kind) = true := by simpa using hkk
            clear hp hkk
            go_wp2_with fail
            refine (CP.out _ (HE.out.below hbx)).mono ?_
            rintro e w1 ⟨rfl, hb1⟩
            have hv1 := cell_later hb1 hv
            have hown1 := owns_below hownx hb1
            have hbw1 := qtrans hbx hb1
            clear hb1 hownx hbx hv hown hbw c0 c1
            go_wp2_with fail
            go_roundw
            case rel => exact ⟨k + 1, by rw [← HN.out]; omega, by go_num, by rw [HM.out, HO.out]; simpa using hown1, hbw1⟩
            case measure => simp [intOf]; omega
        · have HO := Lib.hid (@one_other kind (kb, kv) kk a b' hp hkk)
          have hk1 : (kk == kind) = false := by simpa using hkk
          clear hp hkk
          go_wp2_with fail
          refine (CP.out _ (HE.out.below hbx)).mono ?_
          rintro e w1 ⟨rfl, hb1⟩
          have hown1 := owns_below hownx hb1
          have hbw1 := qtrans hbx hb1
          clear hb1 hownx hbx hv hown hbw c0 c1
          go_wp2_with fail
          go_roundw
          case rel => exact ⟨k + 1, by rw [← HN.out]; omega, by go_num, by rw [HM.out, HO.out]; simpa using hown1, hbw1⟩
          case measure => simp [intOf]; omega
    · have HT : Hid (cs.take k = cs) := by
        show _ = _
        exact List.take_of_length_le (by rw [← HN.out]; omega)
      go_wp2_with fail
      go_ret
      refine ⟨_, rfl, ?_, hbw⟩
      rw [HT.out] at hown
      exact hown

set_option maxHeartbeats 400000 in
theorem learned_calls (A : Option Addr) (cap : Nat) (cs : List Cnt) (w : World) (hl : Lies w w.heap.size 2 A cs.length (cntCells cs)) (hn : cs.length ≤ 2097152) (hcs : Light cs) (he : Env w) :
    Calls Tryd.prog 14 #[.slice A cs.length cap] w (ListPost 41 w cs 1) := by
  have C := Lib.hid (listL_calls A cap cs 1 w hl hn hcs he)
  clear hl hcs he
  generalize cs.length = n at *
  go_enter Tryd.func14, Tryd.ntmps14
  go_wp2_with fail
  refine C.out.mono ?_
  rintro e w1 ⟨v, rfl, ho, hb⟩
  go_wp2_with fail
  go_ret
  exact ⟨_, rfl, ho, hb⟩

set_option maxHeartbeats 400000 in
theorem pairs_calls (A : Option Addr) (cap : Nat) (cs : List Cnt) (w : World) (hl : Lies w w.heap.size 2 A cs.length (cntCells cs)) (hn : cs.length ≤ 2097152) (hcs : Light cs) (he : Env w) :
    Calls Tryd.prog 17 #[.slice A cs.length cap] w (ListPost 43 w cs 2) := by
  have C := Lib.hid (listP_calls A cap cs 2 w hl hn hcs he)
  clear hl hcs he
  generalize cs.length = n at *
  go_enter Tryd.func17, Tryd.ntmps17
  go_wp2_with fail
  refine C.out.mono ?_
  rintro e w1 ⟨v, rfl, ho, hb⟩
  go_wp2_with fail
  go_ret
  exact ⟨_, rfl, ho, hb⟩
end Go.Proofs.YtipocnkaemkegaaDoor
