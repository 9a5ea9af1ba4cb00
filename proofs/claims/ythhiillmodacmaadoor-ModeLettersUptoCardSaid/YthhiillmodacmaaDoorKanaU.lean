/- What kana.Full computes. -/
import Derived.Test.YthhiillmodacmaaDoorKanaG
import Derived.Test.YthhiillmodacmaaDoorBld
import Derived.Outline
namespace Go.Proofs.YthhiillmodacmaaDoor
open Go.RowKit Go.Lib Go.Shelf Hk Go.Maps
set_option linter.unusedSimpArgs false
set_option linter.unusedVariables false
set_option maxRecDepth 100000

theorem mark_a : ([239, 190, 158] : List UInt8) = encT [65438] := by decide +kernel
theorem mark_b : ([239, 190, 159] : List UInt8) = encT [65439] := by decide +kernel
theorem mark_c : ([227, 130, 155] : List UInt8) = encT [12443] := by decide +kernel
theorem mark_d : ([227, 130, 156] : List UInt8) = encT [12444] := by decide +kernel
theorem key_lit (s : ByteArray) (h : s.size ≤ maxLen) : keyOf Tryd.prog 9 (.string s) = some (.string s.data.toList) := Go.WideMaps.keyOf_string_mk Tryd.underlying9 h

theorem forms_look_ok : formsL.all (fun x => formsL.lookup x.1 == some x.2) = true := by decide +kernel
theorem forms_look (x : Nat × List Nat) (h : x ∈ formsL) : formsL.lookup x.1 = some x.2 := by
  have := List.all_eq_true.1 forms_look_ok x h
  simpa using this
/-- The loop over the forms. -/
def RevAt (w : World) (fb : Nat) (D : DataW Unit) (mb r : Nat) (wr : World) : Prop :=
  ∃ (left : Lit → Bool) (cnt n : Nat), wr.ranges Tryd.prog 21 (plainElem Tryd.prog 9) mb r 87 D left cnt ∧ n + cnt ≤ 1048576 ∧ MapIs wr 9 9 fb n (revF left formsL) ∧ Below w.heap.size w wr ∧ r < wr.heap.size

theorem full_single (rs : List Nat) (k c : Nat) (hc : rs[k]? = some c) (h : ∀ m, rs[k + 1]? = some m → ¬ (inTab c = true ∧ markedD (tabD c) m ≠ 0)) : fullC (rs.drop k) = (if inTab c = true then tabD c else markC c) :: fullC (rs.drop (k + 1)) := by
  obtain ⟨hlt, e⟩ := List.getElem?_eq_some_iff.1 hc
  rw [List.drop_eq_getElem_cons hlt, e]
  cases hd : rs.drop (k + 1) with
  | nil => simp [fullC]
  | cons m l =>
    have hm : rs[k + 1]? = some m := by
      have : (rs.drop (k + 1))[0]? = some m := by rw [hd]; rfl
      simpa using this
    have hn := h m hm
    rw [fullC]
    by_cases ht : inTab c = true
    · have h0 : ¬ markedD (tabD c) m ≠ 0 := fun e => hn ⟨ht, e⟩
      rw [if_pos ht, if_pos ht, if_neg h0]
    · rw [if_neg ht, if_neg ht]
theorem full_double (rs : List Nat) (k c m : Nat) (hc : rs[k]? = some c) (hm : rs[k + 1]? = some m) (h : inTab c = true ∧ markedD (tabD c) m ≠ 0) : fullC (rs.drop k) = markedD (tabD c) m :: fullC (rs.drop (k + 2)) := by
  obtain ⟨hlt, e⟩ := List.getElem?_eq_some_iff.1 hc
  obtain ⟨hlt2, e2⟩ := List.getElem?_eq_some_iff.1 hm
  rw [List.drop_eq_getElem_cons hlt, e, List.drop_eq_getElem_cons hlt2, e2, fullC, if_pos h.1, if_pos h.2]
/-- The loop over the characters. -/
def FullAt (g : Nat) (rs : List Nat) (wL : World) (i : Value) (wz : World) : Prop :=
  ∃ (k : Nat) (acc : List Nat), k ≤ rs.length ∧ i = .int .i64 (k : Int) ∧ fullC rs = acc ++ fullC (rs.drop k) ∧ acc.length ≤ k ∧ Bld (g + 1) acc wz ∧ Below (g + 1) wL wz
set_option maxHeartbeats 4000000 in
theorem full_calls (s : ByteArray) (w : World) (hs : s.size ≤ 16777216) (he : Env w) : Calls Tryd.prog 29 #[.string s] w fun e w' => e = .returned (.string (fullS s)) ∧ Below w.heap.size w w' := by
  have CV := Lib.hid (utfValid_calls s w (by omega) he)
  have CF := Lib.hid forms_calls
  clear he
  cases hr : runesD s.data.toList with
  | none =>
    have HX : Hid (fullS s = s) := strB_none hr
    rw [validD_eq, hr] at CV
    simp only [Option.isSome_none] at CV
    clear hr
    go_enter Tryd.func29, Tryd.ntmps29
    go_wp2_with fail
    refine CV.out.mono ?_
    rintro e w1 ⟨rfl, hb1⟩
    go_wp2_with fail
    go_ret
    exact ⟨by rw [HX.out]; rfl, hb1⟩
  | some rs =>
    have HX : Hid (fullS s = bstr (encT (fullC rs))) := strB_some hr
    have hrn := Lib.hid (runesD_are hr)
    have hl : rs.length ≤ s.size := by have := runesD_length _ _ _ (Nat.le_refl _) hr; simpa using this
    have HR := Lib.hid hr
    rw [validD_eq, hr] at CV
    simp only [Option.isSome_some] at CV
    clear hr
    have hmm := @run_makeMap Tryd.prog
    go_enter Tryd.func29, Tryd.ntmps29
    go_wp2_with fail
    refine CV.out.mono ?_
    rintro e w1 ⟨rfl, hb1⟩
    have hm0 := mapIs_made w1 9 9
    have hb1m := qtrans hb1 ((Below.refl _ _).alloc (Nat.le_refl _) (.map #[] 0))
    have hf1 : w1.heap.size < (w1.alloc (.map #[] 0)).heap.size := by simp
    go_wp2_with (refine wpList_insert hm0 rfl (.tmp 17) (.const (.string ⟨#[239, 190, 158]⟩)) (.const (.string ⟨#[227, 130, 155]⟩)) rfl law_string Tryd.underlying61 rfl ?n1 (.string ⟨#[239, 190, 158]⟩) (.string ⟨#[227, 130, 155]⟩) _ _ rfl rfl (key_lit _ ?n2) trivial (plainElem_string Tryd.underlying9 ?n3) ?_)
    case n1 => decide
    case n2 => decide
    case n3 => decide
    intro wa hma hga
    clear hm0 hmm
    go_wp2_with (refine wpList_insert hma rfl (.tmp 17) (.const (.string ⟨#[239, 190, 159]⟩)) (.const (.string ⟨#[227, 130, 156]⟩)) rfl law_string Tryd.underlying61 rfl ?n4 (.string ⟨#[239, 190, 159]⟩) (.string ⟨#[227, 130, 156]⟩) _ _ rfl rfl (key_lit _ ?n5) trivial (plainElem_string Tryd.underlying9 ?n6) ?_)
    case n4 => decide
    case n5 => decide
    case n6 => decide
    intro wb hmb hgb
    rw [mark_a, mark_b, mark_c, mark_d] at hmb
    have hmB : MapIs wb 9 9 w1.heap.size 2 baseF := hmb
    have hba := hb1m.grown hga hb1m.size fun g e => by injection e with e; rw [← e]; exact hb1.size
    have hbb := hba.grown hgb hba.size fun g e => by injection e with e; rw [← e]; exact hb1.size
    have hfb : w1.heap.size < wb.heap.size := hmB.lt
    clear hma hga hgb hmb hba hb1m hf1
    go_wp2_with fail
    refine (CF.out _).mono ?_
    rintro e wc ⟨rfl, hMc, hbc⟩
    have hmlt := hMc.lt
    have hmC := hmB.below hbc
    have hbw := qtrans hbb hbc
    obtain ⟨D, hown, hD, hat⟩ := hMc
    have HAT := Lib.hid hat
    clear hat hbb hbc hmB
    go_wp2_with (at_range; refine wpList_range_own _ rfl _ 50 rfl 21 9 law_i32 Tryd.underlying50 _ wb.heap.size 87 D rfl hown ?_; intro w0 hrg0 hg0 hs0)
    go_frame
    have hmC0 := hmC.kept hg0 (by simp)
    have hbw0 := hbw.grown hg0 hbw.size fun g e => by cases e
    have hstart : revF (Maps.has D) formsL = baseF := revF_start formsL fun x hx => by
      have hk : halfK x.1 = x.2 := by
        unfold halfK
        rw [forms_look x hx]; rfl
      have hne : halfK x.1 ≠ [] := by
        intro e
        have := List.all_eq_true.1 forms_ok _ hx
        rw [hk] at e
        unfold formOk at this
        rw [e] at this
        cases this
      exact Maps.has_true_of_atKey (y := .lit (.string (encT (halfK x.1)))) fun zd => by rw [HAT.out (.int .i32 (x.1 : Int)) trivial zd, mapF_some hne]
    have hsize : Maps.size D ≤ 87 := hown.size_le
    have HL := Lib.hid hl
    clear hmC hbw hg0 hown hl
    obtain ⟨r0, hr0⟩ : ∃ r0, wc.heap.size = r0 := ⟨_, rfl⟩
    rw [hr0] at hrg0 hs0 ⊢
    obtain ⟨fb, hfbe⟩ : ∃ fb, w1.heap.size = fb := ⟨_, rfl⟩
    have hsz1 := hb1.size
    rw [hfbe] at hmC0 hfb hsz1 ⊢
    obtain ⟨mb, hmbe⟩ : ∃ mb, wb.heap.size = mb := ⟨_, rfl⟩
    rw [hmbe] at hrg0 hfb hmlt ⊢
    rw [hr0] at hmlt
    have HWB := Lib.hid hmbe
    have HWC := Lib.hid hr0
    clear hr0 hfbe hmbe
    go_loopw [] (fun wr => RevAt w fb D mb r0 wr) (fun wr => wr.rangeLeft mb r0)
    case atStart => exact ⟨_, _, 2, hrg0, by omega, by rw [hstart]; exact hmC0, hbw0, by omega⟩
    case round =>
      obtain ⟨left, cnt, n, hrg, hnc, hmF, hbw, hrl⟩ := hrel
      clear hrg0 hs0 hmC0 hbw0 hstart
      go_wp2_with (at_next; refine wpList_next_ranges_is _ rfl _ rfl 21 9 .i32 law_i32 Tryd.underlying21 Tryd.underlying9 mb r0 87 _ _ _ rfl hrg ?_ ?_)
      · intro hc0 hl0
        have hfin : left = fun _ => false := funext hl0
        subst hfin
        clear hrg hl0 hnc
        obtain ⟨cap, cc, hcv, hcap, hlies⟩ := runes_conv wr s rs HR.out (by have := HL.out; omega)
        obtain ⟨g, hg⟩ : ∃ g, wr.heap.size = g := ⟨_, rfl⟩
        have hlies2 : Lies (wr.alloc (.cells cc 21)) (g + 1) 1 (some ⟨g, 0, none⟩) rs.length (runeCellsOf rs) := by rw [← hg]; exact hlies.keep fun _ _ => rfl
        have hW0 : (wr.alloc (.cells cc 21)).heap.size = g + 1 := by rw [World.size_alloc, hg]
        have hbld := bld_new (wr.alloc (.cells cc 21))
        have hmL := (hmF.kept (World.grownBy_alloc wr (.cells cc 21) none) (by simp)).kept (World.grownBy_alloc _ (.cells #[.pointer none, .slice none 0 0] 54) none) (by simp)
        have hbwL := (hbw.alloc hbw.size (.cells cc 21)).alloc (by rw [World.size_alloc]; have := hbw.size; omega) (.cells #[.pointer none, .slice none 0 0] 54)
        have hlL := hlies2.alloc (by rw [hW0]; exact Nat.le_refl _) (.cells #[.pointer none, .slice none 0 0] 54)
        rw [hW0] at hbld
        have hfg : fb < g + 1 := by have := hmF.lt; omega
        have hszL : ((wr.alloc (.cells cc 21)).alloc (.cells #[.pointer none, .slice none 0 0] 54)).heap.size = g + 2 := by rw [World.size_alloc, hW0]
        have HG := Lib.hid hg
        clear hg hW0 hszL
        go_wp2_with fail
        rw [HG.out]
        clear hcv hlies hlies2 hmF hbw
        obtain ⟨wL, hwL⟩ : ∃ wL, ((wr.alloc (.cells cc 21)).alloc (.cells #[.pointer none, .slice none 0 0] 54)).drew = wL := ⟨_, rfl⟩
        have hbld2 : Bld (g + 1) [] wL := by rw [← hwL]; exact hbld
        have hmL2 : MapIs wL 9 9 fb n (revF (fun _ => false) formsL) := by rw [← hwL]; exact hmL
        have hbwL2 : Below w.heap.size w wL := by rw [← hwL]; exact hbwL.drew
        have hlL2 : Lies wL (g + 1) 1 (some ⟨g, 0, none⟩) rs.length (runeCellsOf rs) := by rw [← hwL]; exact hlL.keep fun _ _ => rfl
        have hszL2 : wL.heap.size = g + 2 := by rw [← hwL]; show ((wr.alloc _).alloc _).heap.size = _; rw [World.size_alloc, World.size_alloc, HG.out]
        rw [hwL]
        clear hbld hmL hbwL hlL hwL hrl
        have HM := Lib.hid hmL2
        have HLL := Lib.hid hlL2
        have HB := Lib.hid hbwL2
        have HBL := Lib.hid hbld2
        have hszL3 : g + 1 ≤ wL.heap.size := by omega
        have hwg : w.heap.size ≤ g := by have := hb1.size; omega
        clear hmL2 hlL2 hbwL2 hbld2 hszL2
        obtain ⟨nn, hnn⟩ : ∃ nn, rs.length = nn := ⟨_, rfl⟩
        have HNN := Lib.hid hnn
        rw [hnn] at hcap ⊢
        have hn24 : nn ≤ 16777216 := by rw [← hnn]; have := HL.out; omega
        clear hnn
        obtain ⟨wo, rfl⟩ : ∃ wo : World, wo = wr := ⟨_, rfl⟩
        go_loopw [8] (fun i wz => FullAt g rs wL i wz) (fun i _ => nn - (intOf i).toNat)
        case atStart => exact ⟨0, [], Nat.zero_le _, rfl, rfl, Nat.le_refl _, HBL.out, Below.refl _ _⟩
        case round =>
          obtain ⟨k, acc, hk, rfl, hacc, hal, hB, hbz⟩ := hrel
          rw [HNN.out] at hk
          have HACC := Lib.hid hacc
          have hMz := HM.out.low hbz hfg
          have hLz := (HLL.out.below hbz)
          have hszz : g + 1 ≤ wr.heap.size := Nat.le_trans hszL3 hbz.size
          clear hacc
          by_cases hlt : k < nn
          · obtain ⟨c, hc⟩ : ∃ c, rs[k]? = some c := ⟨_, List.getElem?_eq_getElem (by rw [HNN.out]; exact hlt)⟩
            have hcr : isRune c := hrn.out c (List.mem_of_getElem? hc)
            have hc11 : c ≤ 1114111 := by unfold isRune at hcr; omega
            have HD := Lib.hid fun (j r : Nat) (hj : rs[j]? = some r) => (show wr.cell? ⟨g, j, none⟩ = some (.int .i32 (r : Int)) by
              obtain ⟨b, off, e1, _, hcc⟩ := hLz.cells (by rw [HNN.out]; omega)
              injection e1 with e1
              injection e1 with e1 e2
              subst e1 e2
              have := hcc j _ (show (runeCellsOf rs)[j]? = some (.int .i32 (r : Int)) by unfold runeCellsOf; rw [List.getElem?_map, hj]; rfl)
              simpa using this)
            have d0 := HD.out k c hc
            obtain ⟨x, hx⟩ : ∃ x, (if inTab c = true then tabD c else markC c) = x := ⟨_, rfl⟩
            have hsing := full_single rs k c hc
            rw [hx] at hsing
            have HSI := Lib.hid hsing
            have hkey1 := key_lit (Utf8.encode (c : Int)) (encode_small _)
            rw [enc_one_char c hcr] at hkey1
            have hone := full_one c hcr
            have CS := Lib.hid fun (y : List Nat) (hy : y.length ≤ 1048576) => bld_string hB y hy (by omega) hszz
            have CR := Lib.hid (bld_rune hB c hc11 (by omega) hszz)
            by_cases hnx : k + 1 < nn
            · obtain ⟨m, hm⟩ : ∃ m, rs[k + 1]? = some m := ⟨_, List.getElem?_eq_getElem (by rw [HNN.out]; exact hnx)⟩
              have hmr : isRune m := hrn.out m (List.mem_of_getElem? hm)
              have d1 := HD.out (k + 1) m hm
              have hcv2 : (convert 62 9 (.slice (some ⟨g, k, none⟩) 2 (cap - k))).run Tryd.prog wr = .ok (.string (bstr (encT [c, m]))) wr := by
                have := run_convert_runes (P := Tryd.prog) wr 62 9 21 ⟨g, k, none⟩ 2 (cap - k) ([c, m].map fun (r : Nat) => (r : Int)) (by simp) Tryd.underlying62 Tryd.underlying21 Tryd.underlying9 (fun j hj => by
                  have hj2 : j = 0 ∨ j = 1 := by simp at hj; omega
                  rcases hj2 with rfl | rfl
                  · simpa [Addr.add] using d0
                  · simpa [Addr.add] using d1)
                rw [List.take_of_length_le (by simp), runesBytes_eq [c, m] (fun r hr => by
                  simp at hr
                  rcases hr with rfl | rfl
                  · exact hcr
                  · exact hmr)] at this
                exact this
              have hkey2 := key_str (l := encT [c, m]) (Nat.le_trans (encT_len [c, m]).2 (by simp))
              have htwo := full_two c m hcr hmr
              have hq1 : (k : Int) + 1 < (nn : Int) := by omega
              by_cases hmk2 : inTab c = true ∧ markedD (tabD c) m ≠ 0
              · rw [if_pos hmk2] at htwo
                obtain ⟨y, hy⟩ : ∃ y, markedD (tabD c) m = y := ⟨_, rfl⟩
                have HF : Hid (fullC (rs.drop k) = y :: fullC (rs.drop (k + 2))) := by show _ = _; rw [full_double rs k c m hc hm hmk2, hy]
                rw [hy] at htwo
                have hlook := hMz.look_yes (t := 61) law_string Tryd.underlying61 Tryd.underlying9 (zero_string _) hkey2 trivial htwo
                clear hone hsing hMz hLz hx hc hkey1 hm hkey2 htwo hmk2 hy
                generalize bstr (encT [c, m]) = X2 at *
                go_wp2_with fail
                refine (CS.out [y] (by simp)).mono ?_
                rintro e w9 ⟨rfl, hI9, hb9, _⟩
                have hbz9 := hbz.trans hb9
                clear hlook hb9 hcv2 d0 d1
                go_wp2_with fail
                go_roundw
                case rel => exact ⟨k + 2, acc ++ [y], by rw [HNN.out]; omega, by go_num, by rw [HACC.out, HF.out]; simp, by simp; omega, hI9, hbz9⟩
                case measure => simp [intOf]; omega
              · rw [if_neg hmk2] at htwo
                have HF : Hid (fullC (rs.drop k) = x :: fullC (rs.drop (k + 1))) := hsing fun m' hm' => by
                  rw [hm] at hm'
                  rw [← Option.some.inj hm']
                  exact hmk2
                have hlook2 := hMz.look_no (t := 61) law_string Tryd.underlying61 Tryd.underlying9 (zero_string _) hkey2 trivial htwo
                clear hkey2 htwo hmk2 hm
                generalize bstr (encT [c, m]) = X2 at *
                cases hone1 : inTab c with
                | true =>
                  rw [hone1, if_pos rfl] at hone hx
                  rw [hx] at hone
                  have hlook := hMz.look_yes (t := 61) law_string Tryd.underlying61 Tryd.underlying9 (zero_string _) hkey1 trivial hone
                  clear hone hsing hMz hLz hone1 hx hc hkey1
                  go_wp2_with fail
                  refine (CS.out [x] (by simp)).mono ?_
                  rintro e w9 ⟨rfl, hI9, hb9, _⟩
                  have hbz9 := hbz.trans hb9
                  clear hlook hb9
                  go_wp2_with fail
                  go_roundw
                  case rel => exact ⟨k + 1, acc ++ [x], by rw [HNN.out]; omega, by go_num, by rw [HACC.out, HF.out]; simp, by simp; omega, hI9, hbz9⟩
                  case measure => simp [intOf]; omega
                | false =>
                  rw [hone1, if_neg (by simp)] at hone hx
                  by_cases hmk : c = 65438 ∨ c = 65439
                  · rw [if_pos hmk, hx] at hone
                    have hlook := hMz.look_yes (t := 61) law_string Tryd.underlying61 Tryd.underlying9 (zero_string _) hkey1 trivial hone
                    clear hone hsing hMz hLz hone1 hx hc hmk hkey1
                    go_wp2_with fail
                    refine (CS.out [x] (by simp)).mono ?_
                    rintro e w9 ⟨rfl, hI9, hb9, _⟩
                    have hbz9 := hbz.trans hb9
                    clear hlook hb9
                    go_wp2_with fail
                    go_roundw
                    case rel => exact ⟨k + 1, acc ++ [x], by rw [HNN.out]; omega, by go_num, by rw [HACC.out, HF.out]; simp, by simp; omega, hI9, hbz9⟩
                    case measure => simp [intOf]; omega
                  · rw [if_neg hmk] at hone
                    have hxc : x = c := by
                      rw [← hx]; unfold markC
                      rw [if_neg (fun e => hmk (.inl e)), if_neg (fun e => hmk (.inr e))]
                    subst hxc
                    have hlook := hMz.look_no (t := 61) law_string Tryd.underlying61 Tryd.underlying9 (zero_string _) hkey1 trivial hone
                    clear hone hsing hMz hLz hone1 hx hc hmk hkey1
                    go_wp2_with fail
                    refine CR.out.mono ?_
                    rintro e w9 ⟨rfl, hI9, hb9, _⟩
                    have hbz9 := hbz.trans hb9
                    clear hlook hb9
                    go_wp2_with fail
                    go_roundw
                    case rel => exact ⟨k + 1, acc ++ [x], by rw [HNN.out]; omega, by go_num, by rw [HACC.out, HF.out]; simp, by simp; omega, hI9, hbz9⟩
                    case measure => simp [intOf]; omega
            · have HF : Hid (fullC (rs.drop k) = x :: fullC (rs.drop (k + 1))) := hsing fun m hm => by
                have := (List.getElem?_eq_some_iff.1 hm).1
                rw [HNN.out] at this
                omega
              cases hone1 : inTab c with
              | true =>
                rw [hone1, if_pos rfl] at hone hx
                rw [hx] at hone
                have hlook := hMz.look_yes (t := 61) law_string Tryd.underlying61 Tryd.underlying9 (zero_string _) hkey1 trivial hone
                clear hone hsing hMz hLz hone1 hx hc hkey1
                go_wp2_with fail
                refine (CS.out [x] (by simp)).mono ?_
                rintro e w9 ⟨rfl, hI9, hb9, _⟩
                have hbz9 := hbz.trans hb9
                clear hlook hb9
                go_wp2_with fail
                go_roundw
                case rel => exact ⟨k + 1, acc ++ [x], by rw [HNN.out]; omega, by go_num, by rw [HACC.out, HF.out]; simp, by simp; omega, hI9, hbz9⟩
                case measure => simp [intOf]; omega
              | false =>
                rw [hone1, if_neg (by simp)] at hone hx
                by_cases hmk : c = 65438 ∨ c = 65439
                · rw [if_pos hmk, hx] at hone
                  have hlook := hMz.look_yes (t := 61) law_string Tryd.underlying61 Tryd.underlying9 (zero_string _) hkey1 trivial hone
                  clear hone hsing hMz hLz hone1 hx hc hmk hkey1
                  go_wp2_with fail
                  refine (CS.out [x] (by simp)).mono ?_
                  rintro e w9 ⟨rfl, hI9, hb9, _⟩
                  have hbz9 := hbz.trans hb9
                  clear hlook hb9
                  go_wp2_with fail
                  go_roundw
                  case rel => exact ⟨k + 1, acc ++ [x], by rw [HNN.out]; omega, by go_num, by rw [HACC.out, HF.out]; simp, by simp; omega, hI9, hbz9⟩
                  case measure => simp [intOf]; omega
                · rw [if_neg hmk] at hone
                  have hxc : x = c := by
                    rw [← hx]; unfold markC
                    rw [if_neg (fun e => hmk (.inl e)), if_neg (fun e => hmk (.inr e))]
                  subst hxc
                  have hlook := hMz.look_no (t := 61) law_string Tryd.underlying61 Tryd.underlying9 (zero_string _) hkey1 trivial hone
                  clear hone hsing hMz hLz hone1 hx hc hmk hkey1
                  go_wp2_with fail
                  refine CR.out.mono ?_
                  rintro e w9 ⟨rfl, hI9, hb9, _⟩
                  have hbz9 := hbz.trans hb9
                  clear hlook hb9
                  go_wp2_with fail
                  go_roundw
                  case rel => exact ⟨k + 1, acc ++ [x], by rw [HNN.out]; omega, by go_num, by rw [HACC.out, HF.out]; simp, by simp; omega, hI9, hbz9⟩
                  case measure => simp [intOf]; omega
          · have HK : Hid (k = rs.length) := by show _ = _; rw [HNN.out]; omega
            have CD := Lib.hid (bld_done hB hszz)
            have HAC : Hid (fullC rs = acc) := by
              show _ = _
              have := HACC.out
              rw [HK.out, List.drop_length] at this
              simpa [fullC] using this
            go_wp2_with fail
            refine CD.out.mono ?_
            rintro e w9 ⟨rfl, hb9⟩
            go_wp2_with fail
            go_ret
            exact ⟨by rw [HX.out, HAC.out]; rfl, HB.out.trans ((hbz.trans hb9).mono (by omega))⟩
      · intro x c w4 cnt4 hwx hwc hlx hatx hrg4 hlt4 hg4 hs4 hen
        have hmF4 := hmF.kept hg4 (fun e => by injection e with e; omega)
        have hbw4 := hbw.grown hg4 hbw.size fun g e => by injection e with e; omega
        have hx1 := hatx .nil
        rw [HAT.out (.int .i32 x) trivial .nil] at hx1
        obtain ⟨c0, h0, hm0, e1, e2⟩ : ∃ c0 h0, (c0, h0) ∈ formsL ∧ Lit.int .i32 x = .int .i32 (c0 : Int) ∧ Lit.string c.data.toList = .string (encT h0) := by
          cases hq : mapF formsL (.int .i32 x) with
          | none => rw [hq] at hx1; cases hx1
          | some v =>
            rw [hq] at hx1
            simp only [DataW.lit.injEq] at hx1
            obtain ⟨c0, h0, g1, g2, g3⟩ := mapF_keys _ _ _ hq
            exact ⟨c0, h0, g1, g2, by rw [← hx1, g3]⟩
        obtain rfl : x = (c0 : Int) := by injection e1
        have hce : c.data.toList = encT h0 := by injection e2
        have hmm := List.all_eq_true.1 forms_runes _ hm0
        rw [Bool.and_eq_true] at hmm
        have hcr : isRune c0 := runeB_iff hmm.2
        have HST : Hid (putF (revF left formsL) (.string c.data.toList) (.string (Utf8.encode (c0 : Int)).data.toList) = revF (fun z => left z && !z.sameKey (.int .i32 (c0 : Int))) formsL) := by
          show _ = _
          rw [hce, enc_one_char c0 hcr]
          exact revF_step c0 h0 hlx formsL forms_dist forms_runes hm0
        have hkey := key_lit c hwc
        have HRG := Lib.hid hrg
        clear hatx hx1 e1 e2 hm0 hce hmm hcr hwx hlx hrg hmF hbw hg4
        go_wp2_with (at_mapUpdate; refine wpList_put hmF4 rfl _ _ _ rfl law_string Tryd.underlying61 rfl ?n7 (.string c) (.string (Utf8.encode (c0 : Int))) (.string c.data.toList) (.string (Utf8.encode (c0 : Int)).data.toList) rfl rfl hkey trivial (plainElem_string Tryd.underlying9 (encode_small _)) ?_)
        case n7 => unfold maxLen; omega
        intro w5 hm5 hg5
        have hrg5 := hrg4.kept hg5 (fun e => by have := Option.some.inj e; omega) (fun e => by have := Option.some.inj e; omega)
        have hbw5 := hbw4.grown hg5 hbw4.size fun g e => by injection e with e; omega
        have hsz5 := hg5.size
        rw [HST.out] at hm5
        clear hmF4 hbw4 hg5 hrg4 hen
        go_wp2_with fail
        go_roundw
        case rel => exact ⟨_, cnt4, n + 1, hrg5, by omega, hm5, hbw5, by omega⟩
        case measure => rw [hrg5.left_eq, HRG.out.left_eq]; exact hlt4
end Go.Proofs.YthhiillmodacmaaDoor
