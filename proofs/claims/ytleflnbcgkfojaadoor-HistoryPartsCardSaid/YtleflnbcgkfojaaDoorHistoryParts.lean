/- Proved: henkanlaw31.HistoryParts returns true for every string, every list of words and every number: words that are committed in two parts teach the same keys as at once. No condition of ours. -/
import Derived.Test.YtleflnbcgkfojaaDoorBulk
import Derived.Test.YtleflnbcgkfojaaDoorHist10
namespace Go.Proofs.YtleflnbcgkfojaaDoor
open Go.ChangeShapes Go.WideShapes Go.ChangeAt Go.RowKit Go.Lib Go.Shelf Hk
open Go.ChangeMaps (open_string shut_string)
set_option linter.unusedSimpArgs false
set_option linter.unusedVariables false
set_option maxRecDepth 100000

/-- The loop over the second part's keys. -/
def PartAt (w : World) (LA LB : List ByteArray) (i v : Value) (wr : World) : Prop :=
  ∃ j : Nat, j ≤ LB.length ∧ i = .int .i64 (j : Int) ∧ wr.ownsRow w.heap.size 9 1 v (LA ++ notIn LA (LB.take j)).length ((LA ++ notIn LA (LB.take j)).map Value.string) ∧ Below w.heap.size w wr
theorem u8_nat {z : Int} (h : (Lit.int .u8 z).wf = true) : ∃ c : Nat, c < 256 ∧ z = (c : Int) := by
  have hb : 0 ≤ z ∧ z ≤ 255 := by
    simp [Lit.wf, IntKind.min, IntKind.max, IntKind.bits, IntKind.signed] at h
    omega
  exact ⟨z.toNat, by omega, by omega⟩
theorem part_len (A N : List ByteArray) (s : ByteArray) : (A ++ (N ++ [s])).length = A.length + N.length + 1 := by simp [Nat.add_assoc]
theorem part_map (A N : List ByteArray) (s : ByteArray) : (A ++ (N ++ [s])).map Value.string = A.map Value.string ++ (N.map Value.string ++ [.string s]) := by simp
theorem str_one (l : List ByteArray) : ∀ u ∈ l.map Value.string, u.oneCell' = true := by
  intro u hu
  obtain ⟨c, _, rfl⟩ := List.mem_map.1 hu
  rfl

set_option maxHeartbeats 8000000 in
theorem parts_go (prev la : ByteArray) (A : Option Addr) (n cap k a : Nat) (L LA LB : List ByteArray) (wcs tcs dcs : List Value) (w : World) (HE : Hid (Env w)) (HL : Hid (Lies w w.heap.size 2 A n wcs)) (hc : n ≤ cap) (hm : cap ≤ 9223372036854775807) (hn : n ≤ 200) (ha : a < 256)
    (hki : (a : Int) % ((n : Int) + 1) = (k : Int)) (hkn : k ≤ n) (nl : Nat) (HNL : Hid (nl = L.length)) (h64 : nl < 64) (HP : Hid (L = LA ++ notIn LA LB)) (hla : LA.length ≤ 64) (hlb : LB.length ≤ 64)
    (C0 : Hid (Calls Tryd.prog 11 #[.string prev, .slice A n cap] w fun e w' => e = .returned (.bool true) ∧ Below w.heap.size w w'))
    (C1 : Hid (∀ W, Lies W W.heap.size 2 A n wcs → Env W → Calls Tryd.prog 14 #[.string prev, .slice A n cap] W (StrsPost W L)))
    (C2 : Hid (∀ W c, Lies W W.heap.size 2 A k tcs → Env W → Calls Tryd.prog 14 #[.string prev, .slice A k c] W (StrsPost W LA)))
    (C3 : Hid (∀ W c B, Lies W B 2 A k tcs → Calls Tryd.prog 21 #[.string prev, .slice A k c] W fun e w' => e = .returned (.string la) ∧ W = w'))
    (C4 : Hid (∀ W X c, Lies W W.heap.size 2 X (n - k) dcs → Env W → Calls Tryd.prog 14 #[.string la, .slice X (n - k) c] W (StrsPost W LB)))
    (CL1 : Hid (∀ W B, Lies W B 2 A n wcs → Lies W B 2 A k tcs))
    (CL2 : Hid (∀ W B X m, Lies W B 2 A n wcs → m = n - k → (0 < m → X = A.map (·.add (k * 2))) → Lies W B 2 X m dcs)) :
    Calls Tryd.prog 9 #[.string prev, .slice A n cap, .int .u8 (a : Int)] w fun e w' => e = .returned (.bool true) ∧ Below w.heap.size w w' := by
  obtain ⟨i0, hi, hz0, hz1, hz2⟩ := info_parts Tryd.info9
  have CW := Lib.hid works_calls
  have CS := Lib.hid same_calls
  have CH := Lib.hid has_calls
  go_enter Tryd.func9, Tryd.ntmps9
  go_wp2_with fail
  refine C0.out.mono ?_
  rintro e w0 ⟨rfl, hb0⟩
  clear C0
  go_wp2_with fail
  refine (C1.out _ ((HL.out.below hb0).up hb0.size) (HE.out.below hb0)).mono ?_
  rintro e w1 ⟨v1, rfl, ho1, hb1⟩
  obtain ⟨A1, c1, rfl, _, _, k1⟩ := own_lies ho1
  rw [← HNL.out] at k1 ⊢
  replace hb1 := qtrans hb0 hb1
  clear ho1 hb0
  go_wp2_with fail
  refine (C2.out _ cap (CL1.out _ _ ((HL.out.below hb1).up hb1.size)) (HE.out.below hb1)).mono ?_
  rintro e w2 ⟨v2, rfl, ho2, hb2⟩
  obtain ⟨na, hna⟩ : ∃ na, na = LA.length := ⟨_, rfl⟩
  have HNA := Lib.hid hna
  rw [← hna] at ho2 hla
  clear hna C1 C2
  obtain ⟨A2, c2, rfl, _, _, k2⟩ := own_lies ho2
  have k1' := (k1.below hb2).up hb2.size
  have hb12 := qtrans hb1 hb2
  clear ho2 k1 hb1 hb2
  go_wp2_with fail
  obtain ⟨X, hX⟩ : ∃ X, (if cap = k then A else A.map (·.add (k * 2))) = X := ⟨_, rfl⟩
  have HX : Hid (0 < n - k → X = A.map (·.add (k * 2))) := fun h0 => by rw [← hX, if_neg (by omega)]
  have hbd : Below w.heap.size w w2.drew := hb12.trans ⟨rfl, rfl, rfl, Nat.le_refl _, fun _ _ => rfl⟩
  have hd0 : Below w2.heap.size w2 w2.drew := ⟨rfl, rfl, rfl, Nat.le_refl _, fun _ _ => rfl⟩
  go_region_with (first
    | (go_at_call 21; refine (C3.out _ _ w.heap.size ?_).mono ?_; exact CL1.out _ _ (HL.out.below hbd); rintro e w' ⟨rfl, rfl⟩)
    | (go_at_call 14; refine (C4.out _ X _ ?_ ?_).mono ?_; exact CL2.out _ _ X _ ((HL.out.below hbd).up hbd.size) rfl HX.out; exact HE.out.below hbd; rintro e w4 ⟨v4, rfl, ho4, hb4⟩))
  have hd4 : Below w2.heap.size w2 w4 := hd0.trans hb4
  have hbw4 := qtrans hb12 hd4
  have k1w := (k1'.below hd4).up hd4.size
  have k2w := (k2.below hd4).up hd4.size
  obtain ⟨nb, hnb⟩ : ∃ nb, nb = LB.length := ⟨_, rfl⟩
  have HNB := Lib.hid hnb
  rw [← hnb] at ho4 hlb
  clear hnb hd0 hbd hb4 hd4 k1' k2 hb12 hX HX C3 C4 CL1 CL2
  obtain ⟨A4, c4, rfl, _, _, k4⟩ := own_lies ho4
  clear ho4
  have bx : Below w4.heap.size w4 (w4.alloc (.cells #[] 9)) := (Below.refl _ _).alloc (Nat.le_refl _) _
  have ox : (w4.alloc (.cells #[] 9)).ownsRow w4.heap.size 9 1 (.slice (some ⟨w4.heap.size, 0, none⟩) 0 0) 0 [] := World.ownsRow_made w4 #[] 0 (Nat.le_refl _) (by unfold maxLen; omega) (by simp)
  have lx := k2w.below bx
  go_wp2_with (at_builtin; refine wpList_append_lies _ rfl (.tmp 46) (.tmp 47) 26 rfl w4.heap.size 9 i0 (.string ⟨#[]⟩) 1 16 Tryd.underlying26 hi hz0 hz1 hz2 rfl (by omega) _ 0 [] rfl ox w4.heap.size A2 na c2 (LA.map Value.string) rfl lx (str_one LA) ?l1 ?l2 ?l3 ?_)
  case l1 => unfold maxLen; omega
  case l2 => omega
  case l3 => simp
  intro vo w5 ho5 hg5
  have hb5 : Below w4.heap.size w4 w5 := bx.grown hg5 (by simp) fun k hk => (ox.lt k hk).1
  have ho5' : w5.ownsRow w4.heap.size 9 1 vo (LA ++ notIn LA (LB.take 0)).length ((LA ++ notIn LA (LB.take 0)).map Value.string) := by
    have e : LA ++ notIn LA (LB.take 0) = LA := by simp [notIn]
    rw [e, ← HNA.out]
    simpa using ho5
  clear ho5 hg5 bx ox lx
  go_wp2_with fail
  go_loopw [11, 51] (fun v i wr => PartAt w4 LA LB i v wr) (fun _ i _ => nb - (intOf i).toNat)
  case atStart => exact ⟨0, Nat.zero_le _, rfl, ho5', hb5⟩
  case round =>
    clear ho5' hb5
    obtain ⟨j, hj, rfl, hox, hbx⟩ := hrel
    rw [← HNB.out] at hj
    by_cases hlt : j < nb
    · obtain ⟨s, hcc⟩ : ∃ c, LB[j]? = some c := ⟨_, List.getElem?_eq_getElem (by rw [← HNB.out]; exact hlt)⟩
      obtain ⟨b, off, rfl, hab, c0⟩ := (k4.below hbx).at1 hlt (u := .string s) (by rw [List.getElem?_map, hcc]; rfl)
      have HT : Hid (notIn LA (LB.take (j + 1)) = if s ∈ LA then notIn LA (LB.take j) else notIn LA (LB.take j) ++ [s]) := by
        show _ = _
        rw [take_snoc_list LB j s hcc, notIn_snoc]
      have CHs := Lib.hid (CH.out A2 na c2 LA s wr w4.heap.size HNA.out.symm (k2w.below hbx) (by omega))
      have hlen2 : (LA ++ notIn LA (LB.take j)).length ≤ 128 := by
        have h1 := notIn_len LA (LB.take j)
        rw [List.length_take] at h1
        have h2 := HNA.out
        have h3 := HNB.out
        rw [List.length_append]; omega
      clear hcc
      by_cases hmem : s ∈ LA
      · rw [decide_eq_true hmem] at CHs
        have HT2 : Hid (notIn LA (LB.take (j + 1)) = notIn LA (LB.take j)) := by show _ = _; rw [HT.out, if_pos hmem]
        clear hmem HT
        go_wp2_with fail
        refine CHs.out.mono ?_
        rintro e w6 ⟨rfl, rfl⟩
        go_wp2_with fail
        go_roundw
        case rel => exact ⟨j + 1, by rw [← HNB.out]; omega, by go_num, by rw [HT2.out]; exact hox, hbx⟩
        case measure => simp [intOf]; omega
      · rw [decide_eq_false hmem] at CHs
        have HT2 : Hid (notIn LA (LB.take (j + 1)) = notIn LA (LB.take j) ++ [s]) := by show _ = _; rw [HT.out, if_neg hmem]
        clear hmem HT
        go_wp2_with fail
        refine CHs.out.mono ?_
        rintro e w6 ⟨rfl, rfl⟩
        clear c0 CHs
        go_wp2_with (at_builtin; refine wpList_append_own _ rfl _ _ 26 rfl w4.heap.size 9 i0 (.string ⟨#[]⟩) 1 16 Tryd.underlying26 hi hz0 hz1 hz2 rfl (by decide) _ _ _ rfl (hox.alloc _) ⟨wr.heap.size, 0, none⟩ 1 1 [.string s] rfl rfl ?x1 ?x2 ?x3 ?x4 ?x5 ?_)
        case x1 => exact cell_one_new _ _ _
        case x2 => intro u hu; simp at hu; subst hu; rfl
        case x3 => unfold maxLen; omega
        case x4 => omega
        case x5 => have := hbx.size; simp; omega
        intro v' w7 ho7 hg7 _
        have hb7 := below_append hbx _ hox hg7
        clear hg7 hox hbx
        go_wp2_with fail
        go_roundw
        case rel => exact ⟨j + 1, by rw [← HNB.out]; omega, by go_num, by rw [HT2.out, part_len, part_map]; exact ho7, hb7⟩
        case measure => simp [intOf]; omega
    · have e : LA ++ notIn LA (LB.take j) = L := by rw [List.take_of_length_le (by rw [← HNB.out]; omega), HP.out]
      rw [e, ← HNL.out] at hox
      obtain ⟨Ao, co, rfl, _, _, ko⟩ := own_lies hox
      have k1r := k1w.below hbx
      have hbr := qtrans hbw4 hbx
      clear hox hbx e k4 k2w k1w hbw4
      go_wp2_with fail
      refine (CS.out _ _ _ _ _ L _ _ _ HNL.out.symm k1r ko (by omega)).mono ?_
      rintro e w7 ⟨rfl, hb7⟩
      replace hb7 := qtrans hbr hb7
      clear k1r ko hbr
      go_wp2_with fail
      refine (CW.out _ (HE.out.below hb7)).mono ?_
      rintro e w8 ⟨rfl, hb8⟩
      replace hb8 := qtrans hb7 hb8
      go_wp2_with fail
      go_ret
      exact ⟨rfl, hb8⟩

set_option maxHeartbeats 8000000 in
theorem historyParts_calls (prev : ByteArray) (A : Option Addr) (cap : Nat) (ws : List Wd) (z : Int) (w : World) (hp : prev.size ≤ 9223372036854775807) (hl : Lies w w.heap.size 2 A ws.length (wdCells ws)) (hc : ws.length ≤ cap) (hm : cap ≤ maxLen) (hs : WLight 9223372036854775807 ws) (hz : (Lit.int .u8 z).wf = true) (he : Env w) :
    Calls Tryd.prog 9 #[.string prev, .slice A ws.length cap, .int .u8 z] w fun e w' => e = .returned (.bool true) ∧ Below w.heap.size w w' := by
  obtain ⟨i0, hi, hz0, hz1, hz2⟩ := info_parts Tryd.info9
  obtain ⟨a, ha, rfl⟩ := u8_nat hz
  unfold maxLen at hm
  have HE := Lib.hid he
  have CW := Lib.hid works_calls
  have C0 := Lib.hid (light_calls prev A cap ws w hl (by omega) hp hs)
  cases hf : lightB prev ws with
  | false =>
    rw [hf] at C0
    clear he hl hs hf
    generalize ws.length = n at *
    go_enter Tryd.func9, Tryd.ntmps9
    go_wp2_with fail
    refine C0.out.mono ?_
    rintro e w1 ⟨rfl, hb1⟩
    go_wp2_with fail
    refine (CW.out _ (HE.out.below hb1)).mono ?_
    rintro e w2 ⟨rfl, hb2⟩
    replace hb2 := qtrans hb1 hb2
    clear hb1
    go_wp2_with fail
    go_ret
    exact ⟨rfl, hb2⟩
  | true =>
    rw [hf] at C0
    obtain ⟨h1, h2, h3⟩ := lightB_yes hf
    have hwl : WLight 1048576 ws := fun c hc => by have := h1 c hc; omega
    have hlen : (keysD prev ws).length ≤ 64 := by rw [keysD_all]; exact addAll_len _
    have C1 := Lib.hid fun W (h : Lies W W.heap.size 2 A ws.length (wdCells ws)) (hW : Env W) => keys_calls prev A cap ws W (by omega) h (by omega) hwl hW
    have HL := Lib.hid hl
    by_cases h64 : 64 ≤ (keysD prev ws).length
    · obtain ⟨nl, hnl⟩ : ∃ nl, nl = (keysD prev ws).length := ⟨_, rfl⟩
      rw [← hnl] at h64
      clear he hl hs hf h1 hwl
      have HNL := Lib.hid hnl
      clear hnl hlen
      generalize ws.length = n at *
      go_enter Tryd.func9, Tryd.ntmps9
      go_wp2_with fail
      refine C0.out.mono ?_
      rintro e w0 ⟨rfl, hb0⟩
      clear C0
      go_wp2_with fail
      refine (C1.out _ ((HL.out.below hb0).up hb0.size) (HE.out.below hb0)).mono ?_
      rintro e w1 ⟨v1, rfl, ho1, hb1⟩
      obtain ⟨A1, c1, rfl, _, _⟩ := own_slice ho1
      rw [← HNL.out]
      replace hb1 := qtrans hb0 hb1
      clear ho1 hb0
      go_wp2_with fail
      refine (CW.out _ (HE.out.below hb1)).mono ?_
      rintro e w2 ⟨rfl, hb2⟩
      replace hb2 := qtrans hb1 hb2
      go_wp2_with fail
      go_ret
      exact ⟨rfl, hb2⟩
    · obtain ⟨k, hk⟩ : ∃ k, k = a % (ws.length + 1) := ⟨_, rfl⟩
      have hki : (a : Int) % ((ws.length : Int) + 1) = (k : Int) := by rw [hk]; push_cast; rfl
      have hkn : k ≤ ws.length := by rw [hk]; have := Nat.mod_lt a (show 0 < ws.length + 1 by omega); omega
      have HP := Lib.hid (keys_parts prev ws k (by omega))
      have htk : (ws.take k).length = k := by rw [List.length_take]; omega
      have hdk : (ws.drop k).length = ws.length - k := List.length_drop
      have hta := keysD_small prev (ws.take k)
      have hwt : WLight 1048576 (ws.take k) := fun c hc => hwl c (List.mem_of_mem_take hc)
      have hwd : WLight 1048576 (ws.drop k) := fun c hc => hwl c (List.mem_of_mem_drop hc)
      have hlast : (lastD prev (ws.take k)).size ≤ 1048576 := by
        unfold lastD
        cases hg : (ws.take k).getLast? with
        | none => simp only; omega
        | some x => simp only; have := hwt x (List.mem_of_getLast? hg); omega
      have C2 := Lib.hid fun W c (h : Lies W W.heap.size 2 A k (wdCells (ws.take k))) (hW : Env W) => keys_calls prev A c (ws.take k) W (by omega) (by rw [htk]; exact h) (by omega) hwt hW
      have C3 := Lib.hid fun W c B (h : Lies W B 2 A k (wdCells (ws.take k))) => last_calls prev A c (ws.take k) W B (by rw [htk]; exact h) (by omega)
      have C4 := Lib.hid fun W X c (h : Lies W W.heap.size 2 X (ws.length - k) (wdCells (ws.drop k))) (hW : Env W) => keys_calls (lastD prev (ws.take k)) X c (ws.drop k) W hlast (by rw [hdk]; exact h) (by omega) hwd hW
      simp only [htk] at C2 C3
      simp only [hdk] at C4
      exact parts_go prev (lastD prev (ws.take k)) A ws.length cap k a (keysD prev ws) (keysD prev (ws.take k)) (keysD (lastD prev (ws.take k)) (ws.drop k)) (wdCells ws) (wdCells (ws.take k)) (wdCells (ws.drop k)) w HE HL hc (by omega) h2 ha hki hkn _ (Lib.hid rfl) (by omega) HP
        (by rw [keysD_all]; exact addAll_len _) (by rw [keysD_all]; exact addAll_len _) C0 C1 C2 C3 C4 (Lib.hid fun W B h => lies_take h k hkn) (Lib.hid fun W B X m h hm hX => lies_drop h k m hkn hm hX)

theorem historyParts_lifted (os : Os) (started : os.Started) (H : Type) (enc : TypeId × Value → H) :
    ReturnsInHanded {} Tryd.checked os 9 .any (fun w args => (Rows.historyPartsSpec.pre enc Tryd.prog Tryd.f9 Rows.historyPartsRow.domain false w args ∧ laidMetH Tryd.prog laidOf w) ∧ sizedMet enc Tryd.prog Tryd.f9 (OpenSpec.ofChange Rows.historyPartsSpec) false w args)
      (Rows.historyPartsSpec.post enc Tryd.prog Tryd.f9 false true false false) := by
  refine returns_shaped (C := Tryd.checked) (X := fun w _ => laidMetH Tryd.prog laidOf w) (fun _ _ _ hh h => h.of_heap hh) own started (by kernel_rfl) Tryd.func9
    (ChangeSpec.witness_shaped (enc := enc) (C := Tryd.checked) (os := os) (X := fun w _ => laidMetH Tryd.prog laidOf w) false (World.laidAll Tryd.prog os laidOf) #[.string ⟨#[]⟩, .slice none 0 0, .int .u8 0] 8 (World.laidAll_os _ _ _)
      (World.shaped_of_ZipB (by kernel_rfl) (by kernel_rfl)) (by kernel_rfl) (by kernel_rfl) (by kernel_rfl)
      (by rw [MakeChecks.laidMetH_plain _ _ _ laidOf_plain]; exact laidMet_laidAll _ (by kernel_rfl) (by kernel_rfl))) ?_
  intro W base args ds gs before hval0 hW hz hL hsh
  have hval : ∀ (j : Nat) t v, Tryd.f9.params[j]? = some t → args[j]? = some v → Value.okWide Tryd.prog W .any base t v := hval0
  have hW' := hW
  obtain ⟨p, q, hA0, hV, rfl, _, _⟩ := hW
  have hA : DataW.TrodAll enc Tryd.prog W 0 (fun _ => true) true Tryd.f9.params.toList args.toList ds p := hA0
  have hpar : Tryd.f9.params = #[9, 22, 5] := by kernel_rfl
  rw [hpar] at hA hval
  obtain ⟨v0, v1, v2, d0, d1, d2, p0, p1, p2, hargs, rfl, rfl, h0, h1, h2⟩ := trodAll_three hA
  obtain rfl : args = #[v0, v1, v2] := by first | exact hargs | (cases args; simp_all)
  obtain ⟨x0, rfl, rfl, rfl, w0⟩ := open_string Tryd.underlying9 (hval 0 9 v0 rfl rfl) h0
  obtain ⟨A1, cap1, ss1, rfl, hc1, hm1, hl1, hb1, he1⟩ := open_words Tryd.underlying22 Tryd.underlying35 (by kernel_rfl) rfl rfl (by kernel_rfl) (by kernel_rfl) Tryd.underlying9 Tryd.underlying9 (hval 1 22 v1 rfl rfl) h1
  obtain ⟨x2, rfl, rfl, rfl, w2⟩ := open_int Tryd.underlying5 (hval 2 5 v2 rfl rfl) h2
  refine (historyParts_calls x0 A1 cap1 ss1 x2 W (by simpa [maxLen] using w0) hl1 hc1 hm1 (fun s hs => (he1 s hs).2) w2 (env_of hL hsh)).mono fun e W' ⟨he, hbl⟩ => ?_
  subst he
  exact ⟨_, rfl, law_post rfl rfl (by kernel_rfl) hW' rfl rfl rfl hbl⟩

theorem historyParts_row : Rows.HistoryPartsSaid :=
  OpenClaim.holds_of_wide 9 Tryd.f9 rfl rfl rfl rfl rfl rfl rfl ⟨rfl, rfl, rfl, rfl, rfl⟩ rfl rfl rfl rfl rfl (by kernel_rfl) Tryd.func9 (by kernel_rfl)
    (of_decide_eq_true (by kernel_rfl)) (by unfold Func.isWrapper; first | (rw [if_pos (by decide +kernel)]; kernel_rfl) | (rw [if_neg (by decide +kernel)]; exact ⟨rfl, rfl⟩))
    (fun os started H enc _ => historyParts_lifted os started H enc)
theorem historyParts_holds : Rows.HistoryPartsCardSaid :=
  Claim7.holds_tied_plain_at .later [] [.data, .pinned] true Rows.historyPartsCard.stood.harness false historyParts_row (fun _ h => by cases h) (by kernel_rfl) (fun _ h => by cases h) historyParts_row_tie rfl ⟨rfl, rfl⟩ (by kernel_rfl) rfl
    (fun f fn hf hfn => by
      obtain rfl : f = 9 := Option.some.inj ((show Tryd.prog.funcNamed Rows.historyPartsRow.func = some 9 by kernel_rfl).symm.trans hf) |>.symm
      obtain rfl : fn = Tryd.f9 := (Option.some.inj (Tryd.func9.symm.trans hfn)).symm
      exact ⟨by kernel_rfl, fun j t ht => by
        have hpar : Tryd.f9.params = #[9, 22, 5] := by kernel_rfl
        rw [hpar] at ht
        have hm : t ∈ [9, 22, 5] := by simpa using Array.mem_of_getElem? ht
        have hall : ([9, 22, 5].all fun u => !Tryd.prog.wantsStandIn u) = true := by kernel_rfl
        exact (show Tryd.prog.wantsStandIn t = false by simpa using List.all_eq_true.1 hall t hm)⟩)
    (by kernel_rfl)
#print axioms historyParts_holds
end Go.Proofs.YtleflnbcgkfojaaDoor
