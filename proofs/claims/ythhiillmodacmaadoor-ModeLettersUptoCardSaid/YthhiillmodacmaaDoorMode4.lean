/- What henkanlaw07.reading computes; a reading's forms; a slice of bytes that came in. -/
import Derived.Test.YthhiillmodacmaaDoorMode2
import Derived.Test.YthhiillmodacmaaDoorBulkM
import Derived.ChangeSlices
import Derived.Outline
namespace Go.Proofs.YthhiillmodacmaaDoor
open Go.ChangeShapes Go.WideShapes Go.ChangeAt Go.RowKit Go.Lib Go.Shelf Hk Go.Deep
set_option linter.unusedSimpArgs false
set_option linter.unusedVariables false
set_option maxRecDepth 100000

def u8s (l : List Nat) : List Value := l.map fun (c : Nat) => Value.int .u8 (c : Int)
/-- Bytes that came in: a slice of bytes, opened. -/
theorem open_u8s {H : Type} {enc : TypeId × Value → H} {W : World} {base : Nat} {t e : TypeId} {v : Value} {d : DataW H} {p : List MemPlace} (ht : Tryd.prog.underlying t = some (.slice e)) (he : Tryd.prog.underlying e = some (.int .u8)) (hc : Tryd.prog.cellsOf e = 1)
    (hv : Value.okWide Tryd.prog W .any base t v) (h : DataW.Trod enc Tryd.prog W 0 (fun _ => true) true t v d p) :
    ∃ (A : Option Addr) (cap : Nat) (l : List Nat), v = .slice A l.length cap ∧ l.length ≤ cap ∧ cap ≤ maxLen ∧ Lies W W.heap.size 1 A l.length (u8s l) ∧ l.length ≤ Rows.uptoBulk d ∧ ∀ c ∈ l, c < 256 := by
  obtain ⟨A, len, cap, rfl⟩ := okWide_slice ht hv
  obtain ⟨fuel, hf⟩ := h
  rcases open_ints ht he hc hf with ⟨hcs, hx⟩ | ⟨a, len', cap', zs, hcs, _, hl, hm, hz, hx, hcell, hss⟩
  · replace hcs : [Value.slice A len cap] = [_] := hcs
    simp at hcs
    obtain ⟨rfl, rfl, rfl⟩ := hcs
    exact ⟨none, 0, [], rfl, Nat.le_refl _, Nat.zero_le _, Lies.empty, Nat.zero_le _, fun s hs => by cases hs⟩
  · replace hcs : [Value.slice A len cap] = [_] := hcs
    simp at hcs
    obtain ⟨rfl, rfl, rfl⟩ := hcs
    simp only [if_true] at hz
    simp only [Prod.mk.injEq] at hx
    obtain ⟨rfl, rfl⟩ := hx
    have hw : ∀ z ∈ zs, 0 ≤ z ∧ z < 256 := fun z hz => by
      have h := hss z hz
      simp [Lit.wf, IntKind.min, IntKind.max, IntKind.bits, IntKind.signed] at h
      omega
    have htl : ((zs.take len).map Int.toNat).length = len := by simp; omega
    refine ⟨some a, cap, (zs.take len).map Int.toNat, by rw [htl], by rw [htl]; exact hl, hm, ?_, ?_, ?_⟩
    · rw [htl]
      by_cases h0 : 0 < len
      · refine Lies.of_addr (by simp [u8s]; omega) (by omega) (World.block_lt_of_cell? W (a.add 0) (hcell 0 (by omega)) |> fun h => by rwa [add_block] at h) fun j u hu => ?_
        simp only [u8s] at hu
        rw [List.getElem?_map, List.getElem?_map] at hu
        obtain ⟨s, hs, rfl⟩ := Option.map_eq_some_iff.1 hu
        obtain ⟨z, hz2, rfl⟩ := Option.map_eq_some_iff.1 hs
        have hj : j < len := by have := (List.getElem?_eq_some_iff.1 hz2).1; simp at this; omega
        rw [hcell j (by omega)]
        rw [List.getElem?_take_of_lt hj] at hz2
        have := hw z (List.mem_of_getElem? hz2)
        simp [List.getD, hz2]
        omega
      · have : len = 0 := by omega
        subst this
        simp
        exact Lies.empty
    · have h1 := bulk_slice (H := H) (lits .u8 (zs.take len)) (lits .u8 (zs.drop len))
      have h2 := bulk_len (H := H) (lits .u8 (zs.take len))
      have h3 : (lits .u8 (zs.take len) : List (DataW H)).length = (zs.take len).length := by simp [lits]
      rw [List.length_map]
      omega
    · intro c hc
      obtain ⟨z, hz, rfl⟩ := List.mem_map.1 hc
      have := hw z (List.mem_of_mem_take hz)
      omega

/-! ### The reading -/
def rdC (c : Nat) : Nat := if 86 ≤ c % 90 then 12540 else 12353 + c % 90
def rdL (l : List Nat) : List Nat := if l = [] then [12354] else (l.take 64).map rdC
def rdS (l : List Nat) : ByteArray := bstr (encT (rdL l))
theorem rdC_hira (c : Nat) : hiraD (rdC c) = true := by
  have : c % 90 < 90 := Nat.mod_lt _ (by decide)
  unfold hiraD rdC
  split <;> simp <;> omega
theorem rdL_hira (l : List Nat) : ∀ r ∈ rdL l, hiraD r = true := by
  unfold rdL
  split
  · intro r hr; simp at hr; subst hr; rfl
  · intro r hr
    obtain ⟨c, _, rfl⟩ := List.mem_map.1 hr
    exact rdC_hira c
theorem rdL_len (l : List Nat) : 1 ≤ (rdL l).length ∧ (rdL l).length ≤ 64 := by
  unfold rdL
  split
  · simp
  · rename_i h
    have : 0 < l.length := List.length_pos_iff.2 h
    simp
    omega
theorem hira_isRune {r : Nat} (h : hiraD r = true) : isRune r := by
  unfold hiraD at h; unfold isRune
  simp at h
  omega
theorem rdS_size (l : List Nat) : (rdS l).size ≤ 256 := by
  unfold rdS
  rw [bstr_size]
  have := (encT_len (rdL l)).2
  have := (rdL_len l).2
  omega
theorem rdS_reading (l : List Nat) : readingD (rdS l).data.toList = true := by
  unfold rdS readingD
  rw [bstr_data, runesD_enc _ fun r hr => hira_isRune (rdL_hira l r hr)]
  have := rdL_len l
  simp only [Bool.and_eq_true, decide_eq_true_eq]
  exact ⟨this, List.all_eq_true.2 (rdL_hira l)⟩
theorem strB_at {g : List Nat → List Nat} {rs : List Nat} (h : ∀ r ∈ rs, isRune r) : strB g (bstr (encT rs)) = bstr (encT (g rs)) := strB_some (by rw [bstr_data]; exact runesD_enc rs h)
theorem full_half_map (f : Nat → Nat) (hf : ∀ c, f (kataC c) = f c) : ∀ rs : List Nat, (∀ r ∈ rs, hiraD r = true) → (fullC (rs.flatMap halfC)).map f = rs.map f
  | [], _ => by simp [fullC]
  | c :: rs, h => by
    have hc : hiraD c = true := h c List.mem_cons_self
    have hr := full_half_map f hf rs fun r hr => h r (List.mem_cons_of_mem _ hr)
    have hhd := half_head rs fun r hr => by
      have := h r (List.mem_cons_of_mem _ hr)
      unfold hiraD at this; unfold isMark
      simp at this ⊢; omega
    rw [List.flatMap_cons]
    by_cases hz : halfK (kataC c) = []
    · have e : halfC c = [c] := by unfold halfC; rw [if_pos hz]
      rw [e, full_append _ _ hhd, full_id [c] (by
        intro x hx
        simp at hx; subst hx
        unfold hiraD at hc
        simp at hc; omega)]
      rw [List.map_append, hr]; rfl
    · rw [full_halfK hz _ hhd, List.map_cons, hr, hf, List.map_cons]
theorem full_low {rs : List Nat} (h : ∀ r ∈ rs, r < 65377) : fullC rs = rs := full_id rs fun x hx => by have := h x hx; omega
theorem hira_low {r : Nat} (h : hiraD r = true) : r ≤ 12540 ∧ kataC r ≤ 12540 ∧ hiraC r = r := by
  unfold hiraD at h; unfold kataC hiraC
  simp at h
  (repeat' split) <;> omega
theorem hira_all {rs : List Nat} (h : ∀ r ∈ rs, hiraD r = true) : rs.map hiraC = rs := by
  conv => rhs; rw [← List.map_id rs]
  exact List.map_congr_left fun r hr => (hira_low (h r hr)).2.2
/-- The forms of a reading that is shown. -/
theorem rd_forms (l : List Nat) (q : Nat) (hq : q < 3) (t : ByteArray) : formS 6 (showD (1 + (q : Int)) (rdS l)) t = rdS l ∧ formS 7 (showD (1 + (q : Int)) (rdS l)) t = kataS (rdS l) := by
  show hiraS (fullS _) = _ ∧ kataS (fullS _) = _
  have hh := rdL_hira l
  unfold rdS
  generalize rdL l = rs at hh
  have h1 : ∀ r ∈ rs, isRune r := fun r hr => hira_isRune (hh r hr)
  have hfull : fullC rs = rs := full_low fun r hr => by have := (hira_low (hh r hr)).1; omega
  have hfullk : fullC (rs.map kataC) = rs.map kataC := full_low fun x hx => by
    obtain ⟨r, hr, rfl⟩ := List.mem_map.1 hx
    have := (hira_low (hh r hr)).2.1; omega
  have hk := keeps_kata rs h1
  have hf := keeps_half rs h1
  have hff := keeps_full _ hf
  have hq3 : q = 0 ∨ q = 1 ∨ q = 2 := by omega
  unfold hiraS kataS fullS
  rw [strB_at (g := List.map kataC) h1]
  rcases hq3 with rfl | rfl | rfl
  · show strB _ (strB _ (bstr (encT rs))) = _ ∧ strB _ (strB _ (bstr (encT rs))) = _
    rw [strB_at h1, hfull, strB_at h1, strB_at h1, hira_all hh]
    exact ⟨rfl, rfl⟩
  · show strB _ (strB _ (kataS (bstr (encT rs)))) = _ ∧ strB _ (strB _ (kataS (bstr (encT rs)))) = _
    unfold kataS
    rw [strB_at h1, strB_at hk, hfullk, strB_at hk, strB_at hk, map2 hira_kata, map2 kata_kata, hira_all hh]
    exact ⟨rfl, rfl⟩
  · show strB _ (strB _ (halfS (bstr (encT rs)))) = _ ∧ strB _ (strB _ (halfS (bstr (encT rs)))) = _
    unfold halfS
    rw [strB_at h1, strB_at hf, strB_at hff, strB_at hff, full_half_map hiraC hira_kata rs hh, full_half_map kataC kata_kata rs hh, hira_all hh]
    exact ⟨rfl, rfl⟩

theorem rd_snoc (l : List Nat) (k c : Nat) (h : l[k]? = some c) : bstr (encT ((l.take (k + 1)).map rdC)) = bstr (encT ((l.take k).map rdC)) ++ bstr (encodeRune (rdC c : Int)) := by
  rw [take_snoc_nat l k c h, List.map_append, bstr_append]
  show _ = bstr (encT _ ++ encodeRune _)
  rw [← encT_snoc]; rfl
theorem ret_one {a b : ByteArray} (h : a = b) : Ending.returned (.string a) = .returned (.string b) := by rw [h]
def longLit : ByteArray := ⟨#[227, 131, 188]⟩
theorem longLit_eq : longLit = bstr (encodeRune ((12540 : Nat) : Int)) := by decide +kernel
theorem aLit_eq : (⟨#[227, 129, 130]⟩ : ByteArray) = bstr (encT [12354]) := by decide +kernel
theorem bstr_nil : bstr (encT []) = (⟨#[]⟩ : ByteArray) := rfl
theorem acc_size (l : List Nat) (k : Nat) (hk : k ≤ 64) : (bstr (encT ((l.take k).map rdC))).size ≤ 256 := by
  rw [bstr_size]
  have := (encT_len ((l.take k).map rdC)).2
  rw [List.length_map, List.length_take] at this
  omega
set_option maxHeartbeats 2000000 in
theorem rd_calls (A : Option Addr) (cap : Nat) (l : List Nat) (w : World) (B : Nat) (hl : Lies w B 1 A l.length (u8s l)) (hb : ∀ c ∈ l, c < 256) (hc : l.length ≤ 9223372036854775807) :
    Calls Tryd.prog 11 #[.slice A l.length cap] w fun e w' => e = .returned (.string (rdS l)) ∧ w = w' := by
  have HL := Lib.hid hl
  have HB := Lib.hid hb
  obtain ⟨n, hn⟩ : ∃ n, n = l.length := ⟨_, rfl⟩
  have HN := Lib.hid hn
  rw [← hn] at HL hc ⊢
  obtain ⟨res, hres⟩ : ∃ r, r = rdS l := ⟨_, rfl⟩
  have HR := Lib.hid hres
  rw [← hres]
  clear hl hb hn hres
  go_enter Tryd.func11, Tryd.ntmps11
  go_wp2_with fail
  go_loop [3, 4] (fun s i => ∃ k : Nat, k ≤ n ∧ k ≤ 64 ∧ i = .int .i64 (k : Int) ∧ s = .string (bstr (encT ((l.take k).map rdC)))) (fun _ i => n - (intOf i).toNat)
  case atStart => exact ⟨0, Nat.zero_le _, Nat.zero_le _, rfl, rfl⟩
  case round =>
    obtain ⟨k, hk, hk6, rfl, rfl⟩ := hrel
    by_cases hlt : k < n ∧ k < 64
    · obtain ⟨hlt1, hlt2⟩ := hlt
      obtain ⟨c, hcc⟩ : ∃ c, l[k]? = some c := ⟨_, List.getElem?_eq_getElem (by rw [← HN.out]; exact hlt1)⟩
      obtain ⟨b, off, rfl, hab, c0⟩ := HL.out.at1 hlt1 (u := .int .u8 (c : Int)) (by simp [u8s, List.getElem?_map, hcc])
      have hc256 : c < 256 := HB.out c (List.mem_of_getElem? hcc)
      have HS := Lib.hid (rd_snoc l k c hcc)
      clear hcc
      obtain ⟨r, hr⟩ : ∃ r, r = c % 90 := ⟨_, rfl⟩
      have hri : (c : Int) % 90 = (r : Int) := by omega
      have hr90 : r < 90 := by omega
      have hsz := acc_size l k hk6
      generalize bstr (encT ((l.take k).map rdC)) = acc at *
      by_cases h86 : 86 ≤ r
      · have HC : Hid (acc ++ longLit = bstr (encT ((l.take (k + 1)).map rdC))) := by
          show _ = _
          rw [HS.out, longLit_eq]
          unfold rdC
          rw [if_pos (by rw [← hr]; exact h86)]
        clear hr
        go_wp2_with fail
        go_round
        case rel => exact ⟨k + 1, by omega, by omega, by go_num, by rw [← HC.out]; rfl⟩
        case measure => simp [intOf]; omega
      · obtain ⟨v, hv⟩ : ∃ v : Nat, v = 12353 + r := ⟨_, rfl⟩
        have hsum : (12353 : Int) + (r : Int) = (v : Int) := by omega
        have hv1 : v ≤ 12438 := by omega
        have hv0 : 12353 ≤ v := by omega
        obtain ⟨x, hx⟩ : ∃ x : ByteArray, x = bstr (encodeRune (v : Int)) := ⟨_, rfl⟩
        have hxs : x.size ≤ 4 := by rw [hx, bstr_size]; exact (enc_len _).2
        have HX2 := Lib.hid hx
        have hvr : isRune v := by unfold isRune; omega
        have HC : Hid (acc ++ x = bstr (encT ((l.take (k + 1)).map rdC))) := by
          show _ = _
          rw [HS.out, hx]
          unfold rdC
          rw [if_neg (by rw [← hr]; exact h86), ← hr, hv]
        clear hr hv hx
        iterate 92 (all_goals (try go_step))
        rw [show Utf8.encode (v : Int) = x by rw [HX2.out]; exact utf8_encode v hvr]
        go_wp2_with fail
        go_round
        case rel => exact ⟨k + 1, by omega, by omega, by go_num, by rw [← HC.out]⟩
        case measure => simp [intOf]; omega
    · by_cases h0 : n = 0
      · have hl0 : l = [] := List.length_eq_zero_iff.1 (by rw [← HN.out]; exact h0)
        have hk0 : k = 0 := by omega
        subst hk0
        have HE0 : Hid (res = ⟨#[227, 129, 130]⟩) := by
          show _ = _
          rw [HR.out, aLit_eq, hl0]; rfl
        rw [List.take_zero]
        clear hlt hl0
        subst h0
        rw [List.map_nil, bstr_nil]
        go_wp2_with fail
        go_ret
        exact ⟨ret_one HE0.out.symm, rfl⟩
      · have hne : l ≠ [] := by rintro rfl; exact h0 (by rw [HN.out]; rfl)
        have HF : Hid (bstr (encT ((l.take k).map rdC)) = res) := by
          show _ = _
          rw [HR.out]
          unfold rdS rdL
          rw [if_neg hne]
          by_cases h64 : k < 64
          · rw [List.take_of_length_le (show l.length ≤ k by rw [← HN.out]; omega), List.take_of_length_le (show l.length ≤ 64 by rw [← HN.out]; omega)]
          · rw [show k = 64 by omega]
        have hpos : 0 < res.size := by
          rw [HR.out]
          unfold rdS
          rw [bstr_size]
          have := (encT_len (rdL l)).1
          have := (rdL_len l).1
          omega
        have hq : res.toList.isEmpty = false := by
          rw [ByteArray.toList_eq]
          cases hb : res.data.toList with
          | nil =>
            have hz : res.size = res.data.toList.length := by simp
            rw [hb] at hz
            rw [hz] at hpos
            exact absurd hpos (by decide)
          | cons a b => rfl
        rw [HF.out]
        have hd : (k < n) = false ∨ (k < 64) = false := by
          by_cases hh : k < n
          · exact .inr (by simpa using fun h => hlt ⟨hh, h⟩)
          · exact .inl (by simpa using hh)
        clear hne hpos
        by_cases h1 : k < n
        · have h2 : ¬ k < 64 := fun h => hlt ⟨h1, h⟩
          clear hlt hd
          go_wp2_with fail
          go_ret
          exact ⟨rfl, rfl⟩
        · clear hlt hd
          go_wp2_with fail
          go_ret
          exact ⟨rfl, rfl⟩
end Go.Proofs.YthhiillmodacmaaDoor
