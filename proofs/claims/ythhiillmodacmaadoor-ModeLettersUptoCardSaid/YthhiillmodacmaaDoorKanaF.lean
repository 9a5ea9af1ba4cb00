/- What kana.forms computes: the map of the half-width forms. -/
import Derived.Test.YthhiillmodacmaaDoorKanaM
import Derived.Lib.OthersKept
import Derived.Maps.OwnOps
import Derived.Outline
namespace Go.Proofs.YthhiillmodacmaaDoor
open Go.RowKit Go.Lib Go.Shelf Hk Go.Maps
set_option linter.unusedSimpArgs false
set_option linter.unusedVariables false
set_option maxRecDepth 100000

/-- The loop over the pairs: how many forms there are, the mark, the kana that waits for its partner. -/
def pairStep (st : Nat × Nat × Nat) (p : Nat) : Nat × Nat × Nat := if p = 124 then (st.1, 65439, st.2.2) else if st.2.2 = 0 then (st.1, st.2.1, p) else (st.1 + 1, st.2.1, 0)
def pairSt (j : Nat) : Nat × Nat × Nat := (pairsL.take j).foldl pairStep (61, 65438, 0)
theorem pairSt_succ (j p : Nat) (h : pairsL[j]? = some p) : pairSt (j + 1) = pairStep (pairSt j) p := by
  obtain ⟨hlt, e⟩ := List.getElem?_eq_some_iff.1 h
  unfold pairSt
  rw [List.take_succ_eq_append_getElem hlt, e, List.foldl_append]; rfl
def pairOk (j : Nat) : Bool := decide (61 ≤ (pairSt j).1 ∧ (pairSt j).1 ≤ 87 ∧ ((pairSt j).2.1 = 65438 ∨ (pairSt j).2.1 = 65439) ∧ (pairSt j).2.2 ≤ 65535) &&
  ((pairsL.getD j 0 == 124) || ((pairSt j).2.2 == 0) || (match formsL.drop (86 - (pairSt j).1) with
    | (c, h) :: _ => (c == pairsL.getD j 0) && (decide ((pairSt j).1 ≤ 86)) && (match (formsL.drop (87 - (pairSt j).1)).lookup (pairSt j).2.2 with
      | some x => h == x ++ [(pairSt j).2.1]
      | none => false)
    | [] => false))
theorem pairs_ok : ∀ j : Fin 54, pairOk j.val = true := by decide +kernel
theorem pairs_len : pairsL.length = 53 := rfl
theorem table_len : tableL.length = 61 := rfl
theorem forms_len : formsL.length = 87 := by decide +kernel
/-- What has been put behind k of the plain characters. -/
theorem plain_ok : ∀ k : Fin 61, formsL.drop (86 - k.val) = (tableL.getD k.val 0, [65377 + k.val]) :: formsL.drop (87 - k.val) := by decide +kernel
def plainLit : ByteArray := ⟨#[227, 128, 130, 227, 128, 140, 227, 128, 141, 227, 128, 129, 227, 131, 187, 227, 131, 178, 227, 130, 161, 227, 130, 163, 227, 130, 165, 227, 130, 167, 227, 130, 169, 227, 131, 163, 227, 131, 165, 227, 131, 167, 227, 131, 131, 227, 131, 188, 227, 130, 162, 227, 130, 164, 227, 130, 166, 227, 130, 168, 227, 130, 170, 227, 130, 171, 227, 130, 173, 227, 130, 175, 227, 130, 177, 227, 130, 179, 227, 130, 181, 227, 130, 183, 227, 130, 185, 227, 130, 187, 227, 130, 189, 227, 130, 191, 227, 131, 129, 227, 131, 132, 227, 131, 134, 227, 131, 136, 227, 131, 138, 227, 131, 139, 227, 131, 140, 227, 131, 141, 227, 131, 142, 227, 131, 143, 227, 131, 146, 227, 131, 149, 227, 131, 152, 227, 131, 155, 227, 131, 158, 227, 131, 159, 227, 131, 160, 227, 131, 161, 227, 131, 162, 227, 131, 164, 227, 131, 166, 227, 131, 168, 227, 131, 169, 227, 131, 170, 227, 131, 171, 227, 131, 172, 227, 131, 173, 227, 131, 175, 227, 131, 179]⟩
def pairsLit : ByteArray := ⟨#[227, 130, 166, 227, 131, 180, 227, 130, 171, 227, 130, 172, 227, 130, 173, 227, 130, 174, 227, 130, 175, 227, 130, 176, 227, 130, 177, 227, 130, 178, 227, 130, 179, 227, 130, 180, 227, 130, 181, 227, 130, 182, 227, 130, 183, 227, 130, 184, 227, 130, 185, 227, 130, 186, 227, 130, 187, 227, 130, 188, 227, 130, 189, 227, 130, 190, 227, 130, 191, 227, 131, 128, 227, 131, 129, 227, 131, 130, 227, 131, 132, 227, 131, 133, 227, 131, 134, 227, 131, 135, 227, 131, 136, 227, 131, 137, 227, 131, 143, 227, 131, 144, 227, 131, 146, 227, 131, 147, 227, 131, 149, 227, 131, 150, 227, 131, 152, 227, 131, 153, 227, 131, 155, 227, 131, 156, 124, 227, 131, 143, 227, 131, 145, 227, 131, 146, 227, 131, 148, 227, 131, 149, 227, 131, 151, 227, 131, 152, 227, 131, 154, 227, 131, 155, 227, 131, 157]⟩
theorem plainLit_eq : plainLit = bstr (encT tableL) := by decide +kernel
theorem pairsLit_eq : pairsLit = bstr (encT pairsL) := by decide +kernel
def runeB (r : Nat) : Bool := decide (r < 55296) || (decide (57343 < r) && decide (r ≤ 1114111))
theorem runeB_iff {r : Nat} (h : runeB r = true) : isRune r := by
  unfold runeB at h
  unfold isRune
  simp only [Bool.or_eq_true, Bool.and_eq_true, decide_eq_true_eq] at h
  exact h
theorem all_rune {l : List Nat} (h : l.all runeB = true) : ∀ r ∈ l, isRune r := fun r hr => runeB_iff (List.all_eq_true.1 h r hr)
theorem table_rune : ∀ r ∈ tableL, isRune r := all_rune (by decide +kernel)
theorem pairs_rune : ∀ r ∈ pairsL, isRune r := all_rune (by decide +kernel)

/-- A string is read character by character. -/
theorem at_char (rs : List Nat) (h : ∀ r ∈ rs, isRune r) (k r : Nat) (hk : rs[k]? = some r) :
    (encT (rs.take k)).length < (bstr (encT rs)).size ∧ Utf8.decode (bstr (encT rs)) (encT (rs.take k)).length = (r, (encodeRune (r : Int)).length) ∧ (encT (rs.take (k + 1))).length = (encT (rs.take k)).length + (encodeRune (r : Int)).length := by
  obtain ⟨hlt, e⟩ := List.getElem?_eq_some_iff.1 hk
  have hr : isRune r := h r (List.mem_of_getElem? hk)
  have hs : encT rs = encT (rs.take k) ++ (encodeRune (r : Int) ++ encT (rs.drop (k + 1))) := by
    rw [← encT_cons, ← encT_append]
    congr 1
    rw [← e, ← List.drop_eq_getElem_cons hlt, List.take_append_drop]
  have hl := (enc_len (r : Int)).1
  refine ⟨?_, ?_, ?_⟩
  · rw [bstr_size]
    conv => rhs; rw [hs]
    rw [List.length_append, List.length_append]
    omega
  · rw [← decodeL_drop, bstr_data]
    conv => lhs; rw [hs]
    rw [List.drop_left]
    exact (dec_enc r hr _).1
  · rw [List.take_succ_eq_append_getElem hlt, e, encT_snoc, List.length_append]
theorem at_end (rs : List Nat) (k : Nat) (hk : rs.length ≤ k) : ¬ (encT (rs.take k)).length < (bstr (encT rs)).size := by
  rw [List.take_of_length_le hk, bstr_size]
  omega

theorem mapIs_iterAt {w : World} {k e : TypeId} {b n : Nat} {f : Lit → Option Lit} (h : MapIs w k e b n f) {i : Nat} {s : ByteArray} {pos : Nat} (hi : w.heap[i]? = some (.stringIter s pos)) (pos' : Nat) : MapIs (w.iterAt i s pos') k e b n f := by
  obtain ⟨D, ⟨es, clock, hb, h2⟩, h3⟩ := h
  refine ⟨D, ⟨es, clock, ?_, h2⟩, h3⟩
  rw [Lib.iterAt_other w i b s pos' (by rintro rfl; rw [hi] at hb; cases hb)]
  exact hb
theorem iter_kept {w w' : World} {b i : Nat} {s : ByteArray} {pos : Nat} (hi : w.heap[i]? = some (.stringIter s pos)) (hg : w.grownBy w' (some b)) (hne : i ≠ b) : w'.heap[i]? = some (.stringIter s pos) :=
  (hg.block i (heap_lt hi) (fun e => hne (Option.some.inj e))).trans hi
theorem iterPos_of {w : World} {i : Nat} {s : ByteArray} {pos : Nat} (hi : w.heap[i]? = some (.stringIter s pos)) : w.iterPos i = pos := by simp [World.iterPos, hi]
theorem enc_one_char (c : Nat) (h : isRune c) : (Utf8.encode (c : Int)).data.toList = encT [c] := by
  rw [utf8_encode c h, bstr_data, encT_cons, encT_nil, List.append_nil]
theorem encode_small (c : Int) : (Utf8.encode c).size ≤ maxLen := by
  have := encode_size_le c
  unfold maxLen; omega

theorem mark_half : (⟨#[239, 190, 159]⟩ : ByteArray) = bstr (encT [65439]) := by decide +kernel
/-- The loop over the plain characters: k of them are behind it. -/
def PlainAt (w : World) (c : Value) (wr : World) : Prop :=
  ∃ k n : Nat, k ≤ 61 ∧ n = 65377 + k ∧ c = .int .i32 (n : Int) ∧ wr.heap[w.heap.size + 1]? = some (.stringIter plainLit (encT (tableL.take k)).length) ∧
    MapIs wr 21 9 w.heap.size k (mapF (formsL.drop (87 - k))) ∧ Below w.heap.size w wr
/-- The loop over the pairs: j characters are behind it. -/
def PairsAt (w w1 : World) (mk fr : Value) (wr : World) : Prop :=
  ∃ j : Nat, j ≤ 53 ∧ mk = .string (bstr (encT [(pairSt j).2.1])) ∧ fr = .int .i32 ((pairSt j).2.2 : Int) ∧ wr.heap[w1.heap.size]? = some (.stringIter pairsLit (encT (pairsL.take j)).length) ∧
    MapIs wr 21 9 w.heap.size (pairSt j).1 (mapF (formsL.drop (87 - (pairSt j).1))) ∧ Below w.heap.size w wr ∧ w1.heap.size < wr.heap.size

def FormsPost (w : World) (e : Ending) (w' : World) : Prop := e = .returned (.map (some w.heap.size)) ∧ MapIs w' 21 9 w.heap.size 87 (mapF formsL) ∧ Below w.heap.size w w'

set_option maxHeartbeats 4000000 in
theorem forms_calls (w : World) : Calls Tryd.prog 45 #[] w (FormsPost w) := by
  have hmm := @run_makeMap Tryd.prog
  go_enter Tryd.func45, Tryd.ntmps45
  go_wp2_with fail
  clear hmm
  go_loopw [2] (fun c wr => PlainAt w c wr) (fun _ wr => plainLit.size - wr.iterPos (w.heap.size + 1))
  case atStart =>
    have h0 := World.iter_heap (w.alloc (.map #[] 0)) plainLit 0
    simp only [World.size_alloc] at h0
    have hm : MapIs (w.alloc (.map #[] 0)) 21 9 w.heap.size 0 (fun _ => none) := mapIs_made w _ _
    exact ⟨0, 65377, Nat.zero_le _, rfl, rfl, h0, hm.kept (World.grownBy_alloc _ _ none) (by simp), ((Below.refl _ _).alloc (Nat.le_refl _) _).alloc (by simp) _⟩
  case round =>
    obtain ⟨k, c, hk, hc, rfl, hit, hM, hbw⟩ := hrel
    have hsz := heap_lt hit
    by_cases hlt : k < 61
    · obtain ⟨p, hp⟩ : ∃ p, tableL[k]? = some p := ⟨_, List.getElem?_eq_getElem (by rw [table_len]; exact hlt)⟩
      obtain ⟨a1, a2, a3⟩ := at_char tableL table_rune k p hp
      rw [← plainLit_eq] at a1 a2
      have hpr : isRune p := table_rune p (List.mem_of_getElem? hp)
      have hpl := isRune_lt hpr
      have hl1 := (enc_len (p : Int)).1
      have HP : Hid (mapF (formsL.drop (87 - (k + 1))) = putF (mapF (formsL.drop (87 - k))) (.int .i32 (p : Int)) (.string (Utf8.encode (c : Int)).data.toList)) := by
        show _ = _
        have := plain_ok ⟨k, hlt⟩
        simp only at this
        rw [List.getD_eq_getElem?_getD, hp] at this
        rw [show 87 - (k + 1) = 86 - k by omega, this, enc_one_char c (by unfold isRune; omega), hc]
        rfl
      obtain ⟨pos, hpos⟩ : ∃ pos, (encT (tableL.take k)).length = pos := ⟨_, rfl⟩
      rw [hpos] at hit a1 a2 a3
      have hnx : ∀ ty, (Instr.next (.pointer (some ⟨w.heap.size + 1, 0, none⟩)) true ty).run Tryd.prog wr = .ok (.tuple #[.bool true, .int .i64 pos, .int .i32 p]) (wr.iterAt (w.heap.size + 1) plainLit (pos + (encodeRune (p : Int)).length)) := fun ty => by
        have := Lib.run_next_any_at (P := Tryd.prog) wr (w.heap.size + 1) plainLit pos ty hit a1
        rw [a2] at this
        exact this
      rw [← a3] at hnx
      have hM2 := mapIs_iterAt hM hit (encT (tableL.take (k + 1))).length
      have hit2 := Lib.iterAt_heap wr (w.heap.size + 1) plainLit pos (encT (tableL.take (k + 1))).length hit
      have hbw2 := Lib.below_iterAt hbw (k := w.heap.size + 1) (by omega) plainLit (encT (tableL.take (k + 1))).length
      have hkey := key_rune hpl
      have HC := Lib.hid hc
      have hcl : c ≤ 65438 := by omega
      have A1 := Lib.hid a1
      have A3 := Lib.hid a3
      have HIT := Lib.hid hit
      clear a1 a2 a3 hp hpos hpr hit hM hbw hc
      obtain ⟨pos2, hpos2⟩ : ∃ pos2, (encT (tableL.take (k + 1))).length = pos2 := ⟨_, rfl⟩
      rw [hpos2] at hM2 hit2 hbw2 A3 hnx
      have HP2 := Lib.hid hpos2
      clear hpos2
      go_wp2_with (at_mapUpdate; refine wpList_put hM2 rfl _ _ _ rfl law_i32 Tryd.underlying50 rfl ?n1 (.int .i32 (p : Int)) (.string (Utf8.encode (c : Int))) (.int .i32 (p : Int)) (.string (Utf8.encode (c : Int)).data.toList) rfl rfl hkey trivial (plainElem_string Tryd.underlying9 (encode_small _)) ?_)
      case n1 => unfold maxLen; omega
      intro w2 hM3 hg2
      have hit3 := iter_kept hit2 hg2 (by omega)
      have hbw3 := hbw2.grown hg2 hbw2.size fun g e => by injection e with e; omega
      clear hnx hM2 hit2 hbw2 hkey hg2
      go_wp2_with fail
      go_roundw
      case rel => exact ⟨k + 1, c + 1, by omega, by have := HC.out; omega, by go_num, by rw [HP2.out]; exact hit3, by rw [HP.out]; exact hM3, hbw3⟩
      case measure =>
        rw [iterPos_of hit3, iterPos_of HIT.out, A3.out]
        have := A1.out
        omega
    · have hk61 : k = 61 := by omega
      subst hk61
      have hnx : ∀ ty, (Instr.next (.pointer (some ⟨w.heap.size + 1, 0, none⟩)) true ty).run Tryd.prog wr = .ok (.tuple #[.bool false]) wr := fun ty =>
        Lib.run_next_end_at (P := Tryd.prog) wr (w.heap.size + 1) plainLit _ ty hit (by rw [plainLit_eq]; exact at_end tableL 61 (by rw [table_len]; omega))
      have HM := Lib.hid hM
      have HB := Lib.hid hbw
      clear hit hM hbw hc
      go_wp2_with fail
      obtain ⟨wo, rfl⟩ : ∃ wo : World, wo = wr := ⟨_, rfl⟩
      go_loopw [5, 6] (fun mk fr wz => PairsAt w wo mk fr wz) (fun _ _ wz => pairsLit.size - wz.iterPos wo.heap.size)
      case atStart =>
        have h0 := World.iter_heap wo pairsLit 0
        exact ⟨0, Nat.zero_le _, rfl, rfl, h0, HM.out.kept (World.grownBy_alloc _ _ none) (by simp), HB.out.alloc HB.out.size _, by show _ < (wo.alloc _).heap.size; rw [World.size_alloc]; omega⟩
      case round =>
        obtain ⟨j, hj, rfl, rfl, hit, hM, hbw, hsz2⟩ := hrel
        have hwo := HB.out.size
        by_cases hlt2 : j < 53
        · obtain ⟨p, hp⟩ : ∃ p, pairsL[j]? = some p := ⟨_, List.getElem?_eq_getElem (by rw [pairs_len]; exact hlt2)⟩
          obtain ⟨a1, a2, a3⟩ := at_char pairsL pairs_rune j p hp
          rw [← pairsLit_eq] at a1 a2
          have hpr : isRune p := pairs_rune p (List.mem_of_getElem? hp)
          have hpl := isRune_lt hpr
          have hl1 := (enc_len (p : Int)).1
          have hst := pairSt_succ j p hp
          have hok := pairs_ok ⟨j, by omega⟩
          simp only at hok
          unfold pairOk at hok
          rw [List.getD_eq_getElem?_getD, hp] at hok
          obtain ⟨kk, mm, ff, hS⟩ : ∃ kk mm ff, pairSt j = (kk, mm, ff) := ⟨_, _, _, rfl⟩
          rw [hS] at hst hok hM ⊢
          simp only [Bool.and_eq_true, decide_eq_true_eq, Option.getD_some] at hok hM ⊢
          obtain ⟨⟨b1, b2, b3, b4⟩, hok⟩ := hok
          obtain ⟨pos, hpos⟩ : ∃ pos, (encT (pairsL.take j)).length = pos := ⟨_, rfl⟩
          rw [hpos] at hit a1 a2 a3
          have hnx : ∀ ty, (Instr.next (.pointer (some ⟨wo.heap.size, 0, none⟩)) true ty).run Tryd.prog wr = .ok (.tuple #[.bool true, .int .i64 pos, .int .i32 p]) (wr.iterAt wo.heap.size pairsLit (pos + (encodeRune (p : Int)).length)) := fun ty => by
            have := Lib.run_next_any_at (P := Tryd.prog) wr wo.heap.size pairsLit pos ty hit a1
            rw [a2] at this
            exact this
          rw [← a3] at hnx
          have hM2 := mapIs_iterAt hM hit (encT (pairsL.take (j + 1))).length
          have hit2 := Lib.iterAt_heap wr wo.heap.size pairsLit pos (encT (pairsL.take (j + 1))).length hit
          have hbw2 := Lib.below_iterAt hbw (k := wo.heap.size) (by omega) pairsLit (encT (pairsL.take (j + 1))).length
          have hsz3 : wo.heap.size < (wr.iterAt wo.heap.size pairsLit (encT (pairsL.take (j + 1))).length).heap.size := by rw [Lib.iterAt_size]; exact hsz2
          have hkey := key_rune hpl
          have A1 := Lib.hid a1
          have A3 := Lib.hid a3
          have HIT := Lib.hid hit
          have HST := Lib.hid hst
          clear a1 a2 a3 hp hpos hpr hit hM hbw hst hS hsz2
          obtain ⟨pos2, hpos2⟩ : ∃ pos2, (encT (pairsL.take (j + 1))).length = pos2 := ⟨_, rfl⟩
          rw [hpos2] at hM2 hit2 hbw2 A3 hnx hsz3
          have HP2 := Lib.hid hpos2
          clear hpos2
          by_cases hbar : p = 124
          · have e : pairStep (kk, mm, ff) p = (kk, 65439, ff) := by unfold pairStep; rw [if_pos hbar]
            have HE : Hid (pairSt (j + 1) = (kk, 65439, ff)) := by show _ = _; rw [HST.out, e]
            have q1 : ((p : Int) == 124) = true := by simp; omega
            clear hok hbar e b3
            go_wp2_with fail
            go_roundw
            case rel => exact ⟨j + 1, by omega, by rw [HE.out]; exact congrArg Value.string mark_half, by rw [HE.out], by rw [HP2.out]; exact hit2, by rw [HE.out]; exact hM2, hbw2, hsz3⟩
            case measure =>
              rw [iterPos_of hit2, iterPos_of HIT.out, A3.out]
              have := A1.out
              omega
          · have q1 : ((p : Int) == 124) = false := by simp; omega
            have hb : (p == 124) = false := by simpa using hbar
            rw [hb, Bool.false_or] at hok
            by_cases hf0 : ff = 0
            · have e : pairStep (kk, mm, ff) p = (kk, mm, p) := by unfold pairStep; rw [if_neg hbar, if_pos hf0]
              have HE : Hid (pairSt (j + 1) = (kk, mm, p)) := by show _ = _; rw [HST.out, e]
              have q2 : ((ff : Int) == 0) = true := by simp; omega
              clear hok hbar e b3 hf0 hb
              go_wp2_with fail
              go_roundw
              case rel => exact ⟨j + 1, by omega, by rw [HE.out], by rw [HE.out], by rw [HP2.out]; exact hit2, by rw [HE.out]; exact hM2, hbw2, hsz3⟩
              case measure =>
                rw [iterPos_of hit2, iterPos_of HIT.out, A3.out]
                have := A1.out
                omega
            · have e : pairStep (kk, mm, ff) p = (kk + 1, mm, 0) := by unfold pairStep; rw [if_neg hbar, if_neg hf0]
              have HE : Hid (pairSt (j + 1) = (kk + 1, mm, 0)) := by show _ = _; rw [HST.out, e]
              have q2 : ((ff : Int) == 0) = false := by simp; omega
              have hb2 : (ff == 0) = false := by simpa using hf0
              rw [hb2, Bool.false_or] at hok
              obtain ⟨x, hd, hx⟩ : ∃ x, formsL.drop (86 - kk) = (p, x ++ [mm]) :: formsL.drop (87 - kk) ∧ (formsL.drop (87 - kk)).lookup ff = some x ∧ kk ≤ 86 ∧ x.length ≤ 2 := by
                split at hok
                · rename_i c0 h0 l0 hd0
                  simp only [Bool.and_eq_true, beq_iff_eq, decide_eq_true_eq] at hok
                  obtain ⟨⟨hc0, hk86⟩, hok⟩ := hok
                  split at hok
                  · rename_i x hx
                    have hh : h0 = x ++ [mm] := by simpa using hok
                    subst hh hc0
                    have htl : l0 = formsL.drop (87 - kk) := by
                      have := congrArg List.tail hd0
                      rw [List.tail_drop, show 86 - kk + 1 = 87 - kk by omega] at this
                      exact this.symm
                    refine ⟨x, by rw [hd0, htl], hx, hk86, ?_⟩
                    have hm := lookup_mem _ _ _ hx
                    have := List.all_eq_true.1 forms_ok _ (List.mem_of_mem_drop hm)
                    unfold formOk at this
                    match x, this with
                    | [a], _ => simp
                    | [a, b], _ => simp
                    | [], h => cases h
                    | _ :: _ :: _ :: _, h => cases h
                  · cases hok
                · cases hok
              obtain ⟨hx, hk86, hxl⟩ := hx
              have HP : Hid (mapF (formsL.drop (87 - (kk + 1))) = putF (mapF (formsL.drop (87 - kk))) (.int .i32 (p : Int)) (.string (encT (x ++ [mm])))) := by
                show _ = _
                rw [show 87 - (kk + 1) = 86 - kk by omega, hd]
                rfl
              have hlk := hM2.look_str (t := 50) law_i32 Tryd.underlying50 Tryd.underlying9 (zero_string _) (key_rune (c := ff) (by omega)) trivial (l := encT x) (by rw [mapF_at, hx]; rfl)
              have hcat : bstr (encT x) ++ bstr (encT [mm]) = bstr (encT (x ++ [mm])) := by rw [bstr_append, ← encT_append]
              have HCAT := Lib.hid hcat
              have hlen := (encT_len (x ++ [mm])).2
              rw [List.length_append, List.length_singleton] at hlen
              have hvv : (bstr (encT x) ++ bstr (encT [mm])).size ≤ maxLen := by rw [hcat, bstr_size]; unfold maxLen; omega
              have hxy : (bstr (encT x)).size + (bstr (encT [mm])).size ≤ 4096 := by rw [bstr_size, bstr_size, ← List.length_append, ← encT_append]; omega
              generalize bstr (encT x) = X at *
              generalize hYY : bstr (encT [mm]) = Y at *
              have HY := Lib.hid hYY
              clear hYY
              clear hok hbar e b3 hf0 hb hb2 hd hx hcat
              go_wp2_with (at_mapUpdate; refine wpList_put hM2 rfl _ _ _ rfl law_i32 Tryd.underlying50 rfl ?n2 (.int .i32 (p : Int)) (.string (X ++ Y)) (.int .i32 (p : Int)) (.string (X ++ Y).data.toList) rfl rfl hkey trivial (plainElem_string Tryd.underlying9 hvv) ?_)
              case n2 => unfold maxLen; omega
              intro w2 hM3 hg2
              have hit3 := iter_kept hit2 hg2 (by omega)
              have hbw3 := hbw2.grown hg2 hbw2.size fun g e => by injection e with e; omega
              have hsz4 := hg2.size
              clear hnx hM2 hit2 hbw2 hkey hg2 hlk hvv
              go_wp2_with fail
              go_roundw
              case rel => exact ⟨j + 1, by omega, by rw [HE.out]; exact congrArg Value.string HY.out.symm, by rw [HE.out]; rfl, by rw [HP2.out]; exact hit3, by rw [HE.out]; simp only; rw [HP.out, ← bstr_data (encT (x ++ [mm])), ← HCAT.out]; exact hM3, hbw3, by omega⟩
              case measure =>
                rw [iterPos_of hit3, iterPos_of HIT.out, A3.out]
                have := A1.out
                omega
        · have hj53 : j = 53 := by omega
          subst hj53
          have hnx : ∀ ty, (Instr.next (.pointer (some ⟨wo.heap.size, 0, none⟩)) true ty).run Tryd.prog wr = .ok (.tuple #[.bool false]) wr := fun ty =>
            Lib.run_next_end_at (P := Tryd.prog) wr wo.heap.size pairsLit _ ty hit (by rw [pairsLit_eq]; exact at_end pairsL 53 (by rw [pairs_len]; omega))
          have HM2 : Hid (MapIs wr 21 9 w.heap.size 87 (mapF formsL)) := by
            have e1 : (pairSt 53).1 = 87 := by decide +kernel
            rw [e1] at hM
            exact hM
          have HB2 := Lib.hid hbw
          clear hit hM hbw
          go_wp2_with fail
          go_ret
          exact ⟨rfl, HM2.out, HB2.out⟩
end Go.Proofs.YthhiillmodacmaaDoor
