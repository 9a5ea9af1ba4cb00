/- Proved: henkanlaw31.HistoryOnly returns true for every string and every list of words: what is learned from words are keys of these words and of neighbours among them, each once, and at most 64. No condition of ours. -/
import Derived.Test.YtleflnbcgkfojaaDoorBulk
import Derived.Test.YtleflnbcgkfojaaDoorHist10
namespace Go.Proofs.YtleflnbcgkfojaaDoor
open Go.ChangeShapes Go.WideShapes Go.ChangeAt Go.RowKit Go.Lib Go.Shelf Hk
open Go.ChangeMaps (open_string shut_string)
set_option linter.unusedSimpArgs false
set_option linter.unusedVariables false
set_option maxRecDepth 100000

/-- The loop over the keys. -/
def OnlyAt (w : World) (L : List ByteArray) (i : Value) (wr : World) : Prop :=
  ∃ k : Nat, k ≤ L.length ∧ i = .int .i64 (k : Int) ∧ MapIs wr 9 4 w.heap.size (L.take k).length (setF (L.take k)) ∧ Below w.heap.size w wr
/-- The loop over the words. -/
def InAt (w : World) (kind : Int) (a b : List UInt8) (prev : ByteArray) (ws : List Wd) (f p i : Value) (wr : World) : Prop :=
  ∃ j : Nat, j ≤ ws.length ∧ i = .int .i64 (j : Int) ∧ f = .bool (foundD kind a b prev (ws.take j)) ∧ p = .string (lastD prev (ws.take j)) ∧ Below w.heap.size w wr
theorem lastD_snoc (p : ByteArray) (ws : List Wd) (x : Wd) : lastD p (ws ++ [x]) = x.2 := by unfold lastD; simp

set_option maxHeartbeats 16000000 in
theorem only_go (prev : ByteArray) (A : Option Addr) (n cap : Nat) (ws : List Wd) (L : List ByteArray) (w : World) (HE : Hid (Env w)) (HL : Hid (Lies w w.heap.size 2 A n (wdCells ws))) (HN : Hid (n = ws.length)) (hn : n ≤ 200)
    (nl : Nat) (HNL : Hid (nl = L.length)) (h64 : nl ≤ 64) (HND : Hid L.Nodup) (HLS : Hid (∀ k ∈ L, k.size ≤ 1048576))
    (HP : Hid (∀ k ∈ L, ∃ kind a b, kparse k.data.toList = some (kind, a, b) ∧ foundD kind a b prev ws = true))
    (C0 : Hid (Calls Tryd.prog 11 #[.string prev, .slice A n cap] w fun e w' => e = .returned (.bool true) ∧ Below w.heap.size w w'))
    (C1 : Hid (∀ W, Lies W W.heap.size 2 A n (wdCells ws) → Env W → Calls Tryd.prog 14 #[.string prev, .slice A n cap] W (StrsPost W L))) :
    Calls Tryd.prog 5 #[.string prev, .slice A n cap] w fun e w' => e = .returned (.bool true) ∧ Below w.heap.size w w' := by
  have CW := Lib.hid works_calls
  have hmm := @run_makeMap Tryd.prog
  go_enter Tryd.func5, Tryd.ntmps5
  go_wp2_with fail
  refine C0.out.mono ?_
  rintro e w0 ⟨rfl, hb0⟩
  clear C0
  go_wp2_with fail
  refine (C1.out _ ((HL.out.below hb0).up hb0.size) (HE.out.below hb0)).mono ?_
  rintro e w1 ⟨v1, rfl, ho1, hb1⟩
  rw [← HNL.out] at ho1
  obtain ⟨A1, c1, rfl, _, _, k1⟩ := own_lies ho1
  replace hb1 := qtrans hb0 hb1
  clear ho1 hb0 C1
  have hm0 : MapIs (w1.alloc (.map #[] 0)) 9 4 w1.heap.size 0 (fun _ => none) := mapIs_made w1 _ _
  have hbm : Below w1.heap.size w1 (w1.alloc (.map #[] 0)) := (Below.refl _ _).alloc (Nat.le_refl _) _
  go_wp2_with fail
  go_loopw [28] (fun i wr => OnlyAt w1 L i wr) (fun i _ => nl - (intOf i).toNat)
  case atStart => exact ⟨0, Nat.zero_le _, rfl, by rw [List.take_zero, setF_nil]; exact hm0, hbm⟩
  case round =>
    clear hm0 hbm hmm
    obtain ⟨k, hk, rfl, hM, hbx⟩ := hrel
    rw [← HNL.out] at hk
    by_cases hlt : k < nl
    · obtain ⟨key, hcc⟩ : ∃ c, L[k]? = some c := ⟨_, List.getElem?_eq_getElem (by rw [← HNL.out]; exact hlt)⟩
      obtain ⟨b0, off0, rfl, hab, c0⟩ := (k1.below hbx).at1 hlt (u := .string key) (by rw [List.getElem?_map, hcc]; rfl)
      have hmem := List.mem_of_getElem? hcc
      have hks := HLS.out key hmem
      obtain ⟨kk, a, b, hpar, hfo⟩ := HP.out key hmem
      have HT := Lib.hid (take_snoc_list L k key hcc)
      have hnin : key ∉ L.take k := fun h => by
        have h2 := HND.out
        rw [← List.take_append_drop (k + 1) L, HT.out, List.nodup_append, List.nodup_append] at h2
        exact h2.1.2.2 key h key (by simp) rfl
      have HK : Hid (keyOf Tryd.prog 9 (.string key) = some (.string key.data.toList)) := Go.WideMaps.keyOf_string_mk Tryd.underlying9 (by unfold maxLen; omega)
      have hsf := setF_at (L.take k) key
      rw [decide_eq_false hnin] at hsf
      have HSF := Lib.hid hsf
      have CP := Lib.hid fun W (hW : Env W) => parse_calls key W (by omega) hW
      simp only [ParsePost_some hpar] at CP
      obtain ⟨_, _, _, hab2, hkl⟩ := kmk_some ((kparse_iff _ _ _ _).1 hpar)
      obtain ⟨a', ha'⟩ : ∃ a' : ByteArray, a' = ⟨a.toArray⟩ := ⟨_, rfl⟩
      obtain ⟨d, hd⟩ : ∃ d : ByteArray, d = ⟨b.toArray⟩ := ⟨_, rfl⟩
      have ea : a = a'.toList := by rw [ByteArray.toList_eq, ha']
      have ed : b = d.toList := by rw [ByteArray.toList_eq, hd]
      have hsa : a'.size ≤ 398 := by rw [ha']; show a.toArray.size ≤ _; simp; omega
      rw [← ha', ← hd] at CP
      subst ea ed
      have HFO := Lib.hid hfo
      have CR := Lib.hid fun W (hW : Env W) => reading_calls a' W (by omega) hW
      rw [← ByteArray.toList_eq] at CR
      clear hcc hmem hpar hnin hsf hab2 hkl ha' hd hfo
      go_wp2_with fail
      refine (CP.out _ (HE.out.below (qtrans hb1 hbx))).mono ?_
      rintro e w3 ⟨rfl, hb3⟩
      have hM3 := hM.below hb3
      have hb13 := qtrans hbx hb3
      clear CP hb3 hM hbx c0
      obtain ⟨wo, rfl⟩ : ∃ wo : World, wo = w3 := ⟨_, rfl⟩
      have hbwo := qtrans hb1 hb13
      go_wp2_with fail
      go_loopw [13, 14, 42] (fun f p i wr => InAt wo kk a'.toList d.toList prev ws f p i wr) (fun _ _ i _ => n - (intOf i).toNat)
      case atStart => exact ⟨0, Nat.zero_le _, rfl, rfl, rfl, Below.refl _ _⟩
      case round =>
        obtain ⟨j, hj, rfl, rfl, rfl, hbi⟩ := hrel
        rw [← HN.out] at hj
        by_cases hltj : j < n
        · obtain ⟨c, hc⟩ : ∃ c, ws[j]? = some c := ⟨_, List.getElem?_eq_getElem (by rw [← HN.out]; exact hltj)⟩
          obtain ⟨q0, q1⟩ := wdCells_at ws j c hc
          obtain ⟨b1, off1, rfl, hab1, d0, d1⟩ := (HL.out.below (qtrans hbwo hbi)).at2 hltj q0 q1
          obtain ⟨r, s⟩ := c
          simp only at d0 d1
          have HF : Hid (foundD kk a'.toList d.toList prev (ws.take (j + 1)) = (foundD kk a'.toList d.toList prev (ws.take j) || onlyB kk a'.toList d.toList (lastD prev (ws.take j)).toList (r, s))) := by
            show _ = _
            rw [take_snoc_list ws j _ hc, foundD_snoc]
          have HLD : Hid (lastD prev (ws.take (j + 1)) = s) := by show _ = _; rw [take_snoc_list ws j _ hc, lastD_snoc]
          have Hbox := Lib.hid (heap_alloc_new wr (.cells #[.string r, .string s] 35))
          have hbx2 := hbi.alloc hbi.size (.cells #[.string r, .string s] 35)
          clear q0 q1 hc hbi
          generalize foundD kk a'.toList d.toList prev (ws.take j) = F at HF ⊢
          generalize lastD prev (ws.take j) = bf at HF ⊢
          have fin : Hid (∀ w', Below wo.heap.size wo w' → ∀ X, X = (F || onlyB kk a'.toList d.toList bf.toList (r, s)) → InAt wo kk a'.toList d.toList prev ws (.bool X) (.string s) (.int .i64 ((j : Int) + 1)) w') := fun w' hb X hX => ⟨j + 1, by rw [← HN.out]; omega, by go_num, by rw [HF.out, hX], by rw [HLD.out], hb⟩
          clear HF HLD
          cases F with
          | true =>
            have HX : Hid (true = (true || onlyB kk a'.toList d.toList bf.toList (r, s))) := rfl
            go_wp2_with fail
            go_roundw
            case rel => exact fin.out _ hbx2 _ HX.out
            case measure => simp [intOf]; omega
          | false =>
            cases h1 : (kk == 1) with
            | true =>
              have h5 : (kk == 2) = false := by
                have : kk = 1 := by simpa using h1
                subst this; rfl
              cases h2 : (a'.toList == r.toList) with
              | false =>
                have HX : Hid (false = (false || onlyB kk a'.toList d.toList bf.toList (r, s))) := by show _ = _; unfold onlyB; simp only [h1, h2, h5, Bool.true_and, Bool.false_and]; rfl
                go_wp2_with fail
                go_roundw
                case rel => exact fin.out _ hbx2 _ HX.out
                case measure => simp [intOf]; omega
              | true =>
                cases h3 : (d.toList == s.toList) with
                | false =>
                  have HX : Hid (false = (false || onlyB kk a'.toList d.toList bf.toList (r, s))) := by show _ = _; unfold onlyB; simp only [h1, h2, h3, h5, Bool.true_and, Bool.false_and]; rfl
                  go_wp2_with fail
                  go_roundw
                  case rel => exact fin.out _ hbx2 _ HX.out
                  case measure => simp [intOf]; omega
                | true =>
                  have HX : Hid (readingD a'.toList = (false || onlyB kk a'.toList d.toList bf.toList (r, s))) := by show _ = _; unfold onlyB; simp only [h1, h2, h3, h5, Bool.true_and, Bool.false_and, Bool.or_false, Bool.false_or]
                  cases hrd : readingD a'.toList with
                  | false =>
                    rw [hrd] at HX
                    simp only [hrd] at CR
                    clear hrd
                    go_wp2_with fail
                    refine (CR.out _ (HE.out.below (qtrans hbwo hbx2))).mono ?_
                    rintro e w5 ⟨rfl, hb5⟩
                    have d5 : w5.cell? ⟨wr.heap.size, 1, none⟩ = some (.string s) := cell_later hb5 (cell_of_row _ wr.heap.size 1 _ _ _ Hbox.out)
                    replace hbx2 := qtrans hbx2 hb5
                    clear hb5 d0 d1 Hbox
                    go_wp2_with fail
                    go_roundw
                    case rel => exact fin.out _ hbx2 _ HX.out
                    case measure => simp [intOf]; omega
                  | true =>
                    rw [hrd] at HX
                    simp only [hrd] at CR
                    clear hrd
                    go_wp2_with fail
                    refine (CR.out _ (HE.out.below (qtrans hbwo hbx2))).mono ?_
                    rintro e w5 ⟨rfl, hb5⟩
                    have d5 : w5.cell? ⟨wr.heap.size, 1, none⟩ = some (.string s) := cell_later hb5 (cell_of_row _ wr.heap.size 1 _ _ _ Hbox.out)
                    replace hbx2 := qtrans hbx2 hb5
                    clear hb5 d0 d1 Hbox
                    go_wp2_with fail
                    go_roundw
                    case rel => exact fin.out _ hbx2 _ HX.out
                    case measure => simp [intOf]; omega
            | false =>
              cases h5 : (kk == 2) with
              | false =>
                have HX : Hid (false = (false || onlyB kk a'.toList d.toList bf.toList (r, s))) := by show _ = _; unfold onlyB; simp only [h1, h5, Bool.true_and, Bool.false_and]; rfl
                go_wp2_with fail
                go_roundw
                case rel => exact fin.out _ hbx2 _ HX.out
                case measure => simp [intOf]; omega
              | true =>
                cases h6 : (a'.toList == bf.toList) with
                | false =>
                  have HX : Hid (false = (false || onlyB kk a'.toList d.toList bf.toList (r, s))) := by show _ = _; unfold onlyB; simp only [h1, h5, h6, Bool.true_and, Bool.false_and]; rfl
                  go_wp2_with fail
                  go_roundw
                  case rel => exact fin.out _ hbx2 _ HX.out
                  case measure => simp [intOf]; omega
                | true =>
                  cases h3 : (d.toList == s.toList) with
                  | false =>
                    have HX : Hid (false = (false || onlyB kk a'.toList d.toList bf.toList (r, s))) := by show _ = _; unfold onlyB; simp only [h1, h5, h6, h3, Bool.true_and, Bool.false_and]; rfl
                    go_wp2_with fail
                    go_roundw
                    case rel => exact fin.out _ hbx2 _ HX.out
                    case measure => simp [intOf]; omega
                  | true =>
                    have HX : Hid (true = (false || onlyB kk a'.toList d.toList bf.toList (r, s))) := by show _ = _; unfold onlyB; simp only [h1, h5, h6, h3, Bool.true_and, Bool.false_and]; rfl
                    go_wp2_with fail
                    go_roundw
                    case rel => exact fin.out _ hbx2 _ HX.out
                    case measure => simp [intOf]; omega
        · have hF : foundD kk a'.toList d.toList prev (ws.take j) = true := by rw [List.take_of_length_le (by rw [← HN.out]; omega)]; exact HFO.out
          rw [hF]
          have hMi := hM3.below hbi
          have hbxi := qtrans hb13 hbi
          have hkey := HK.out
          have hlook := hMi.look_bool (t := 31) law_str Tryd.underlying31 Tryd.underlying4 (zero_bool _) hkey (by trivial) HSF.out
          have hlk : (L.take k).length = k := by rw [List.length_take, ← HNL.out]; omega
          clear hF hM3 hb13 hbwo hbi
          generalize lastD prev (ws.take j) = bf at *
          go_wp2_with (at_mapUpdate; refine wpList_put hMi rfl _ _ _ rfl law_str Tryd.underlying31 rfl ?n1 (.string key) (.bool true) (.string key.data.toList) (.bool true) rfl rfl hkey trivial (plainElem_bool Tryd.underlying4 true) ?_)
          case n1 => rw [hlk]; unfold maxLen; omega
          intro w7 hm7 hg7
          have hb7 : Below w1.heap.size w1 w7 := hbxi.grown hg7 (by first | exact hbxi.size | simp) fun k hk => by injection hk with e; omega
          have hl1 : k + 1 = (L.take (k + 1)).length := by rw [HT.out, List.length_append, hlk]; rfl
          rw [setF_put, ← HT.out] at hm7
          have HM7 : Hid (MapIs w7 9 4 w1.heap.size (L.take (k + 1)).length (setF (L.take (k + 1)))) := by
            show MapIs _ _ _ _ _ _
            rw [← hl1]
            exact hm7
          clear hm7 hg7 hMi hbxi hlook hlk hl1 hkey
          go_wp2_with fail
          go_roundw
          case rel => exact ⟨k + 1, by rw [← HNL.out]; omega, by go_num, HM7.out, hb7⟩
          case measure => simp [intOf]; omega
    · have hbw := qtrans hb1 hbx
      clear hM hbx
      go_wp2_with fail
      refine (CW.out _ (HE.out.below hbw)).mono ?_
      rintro e w5 ⟨rfl, hb5⟩
      replace hb5 := qtrans hbw hb5
      go_wp2_with fail
      go_ret
      exact ⟨rfl, hb5⟩

set_option maxHeartbeats 1000000 in
theorem historyOnly_calls (prev : ByteArray) (A : Option Addr) (cap : Nat) (ws : List Wd) (w : World) (hp : prev.size ≤ 9223372036854775807) (hl : Lies w w.heap.size 2 A ws.length (wdCells ws)) (hc : ws.length ≤ cap) (hm : cap ≤ maxLen) (hs : WLight 9223372036854775807 ws) (he : Env w) :
    Calls Tryd.prog 5 #[.string prev, .slice A ws.length cap] w fun e w' => e = .returned (.bool true) ∧ Below w.heap.size w w' := by
  unfold maxLen at hm
  have HE := Lib.hid he
  have CW := Lib.hid works_calls
  have C0 := Lib.hid (light_calls prev A cap ws w hl (by omega) hp hs)
  cases hf : lightB prev ws with
  | false =>
    rw [hf] at C0
    clear he hl hs hf
    generalize ws.length = n at *
    go_enter Tryd.func5, Tryd.ntmps5
    go_wp2_with fail
    refine C0.out.mono ?_
    rintro e w1 ⟨rfl, hb1⟩
    go_wp2_with fail
    refine (CW.out _ (HE.out.below hb1)).mono ?_
    rintro e w2 ⟨rfl, hb2⟩
    replace hb2 := qtrans hb1 hb2
    clear hb1
    go_wp2_with fail
    go_ret
    exact ⟨rfl, hb2⟩
  | true =>
    rw [hf] at C0
    obtain ⟨h1, h2, h3⟩ := lightB_yes hf
    have hwl : WLight 1048576 ws := fun c hc => by have := h1 c hc; omega
    have hlen : (keysD prev ws).length ≤ 64 := by rw [keysD_all]; exact addAll_len _
    exact only_go prev A ws.length cap ws (keysD prev ws) w HE (Lib.hid hl) (Lib.hid rfl) h2 _ (Lib.hid rfl) hlen (Lib.hid (keysD_nodup prev ws)) (Lib.hid (keysD_small prev ws)) (Lib.hid fun k h => keysD_parse h) C0
      (Lib.hid fun W h hW => keys_calls prev A cap ws W (by omega) h (by omega) hwl hW)

theorem historyOnly_lifted (os : Os) (started : os.Started) (H : Type) (enc : TypeId × Value → H) :
    ReturnsInHanded {} Tryd.checked os 5 .any (fun w args => (Rows.historyOnlySpec.pre enc Tryd.prog Tryd.f5 Rows.historyOnlyRow.domain false w args ∧ laidMetH Tryd.prog laidOf w) ∧ sizedMet enc Tryd.prog Tryd.f5 (OpenSpec.ofChange Rows.historyOnlySpec) false w args)
      (Rows.historyOnlySpec.post enc Tryd.prog Tryd.f5 false true false false) := by
  refine returns_shaped (C := Tryd.checked) (X := fun w _ => laidMetH Tryd.prog laidOf w) (fun _ _ _ hh h => h.of_heap hh) own started (by kernel_rfl) Tryd.func5
    (ChangeSpec.witness_shaped (enc := enc) (C := Tryd.checked) (os := os) (X := fun w _ => laidMetH Tryd.prog laidOf w) false (World.laidAll Tryd.prog os laidOf) #[.string ⟨#[]⟩, .slice none 0 0] 8 (World.laidAll_os _ _ _)
      (World.shaped_of_ZipB (by kernel_rfl) (by kernel_rfl)) (by kernel_rfl) (by kernel_rfl) (by kernel_rfl)
      (by rw [MakeChecks.laidMetH_plain _ _ _ laidOf_plain]; exact laidMet_laidAll _ (by kernel_rfl) (by kernel_rfl))) ?_
  intro W base args ds gs before hval0 hW hz hL hsh
  have hval : ∀ (j : Nat) t v, Tryd.f5.params[j]? = some t → args[j]? = some v → Value.okWide Tryd.prog W .any base t v := hval0
  have hW' := hW
  obtain ⟨p, q, hA0, hV, rfl, _, _⟩ := hW
  have hA : DataW.TrodAll enc Tryd.prog W 0 (fun _ => true) true Tryd.f5.params.toList args.toList ds p := hA0
  have hpar : Tryd.f5.params = #[9, 22] := by kernel_rfl
  rw [hpar] at hA hval
  obtain ⟨v0, v1, d0, d1, p0, p1, hargs, rfl, rfl, h0, h1⟩ := trodAll_two hA
  obtain rfl : args = #[v0, v1] := by first | exact hargs | (cases args; simp_all)
  obtain ⟨x0, rfl, rfl, rfl, w0⟩ := open_string Tryd.underlying9 (hval 0 9 v0 rfl rfl) h0
  obtain ⟨A1, cap1, ss1, rfl, hc1, hm1, hl1, hb1, he1⟩ := open_words Tryd.underlying22 Tryd.underlying35 (by kernel_rfl) rfl rfl (by kernel_rfl) (by kernel_rfl) Tryd.underlying9 Tryd.underlying9 (hval 1 22 v1 rfl rfl) h1
  refine (historyOnly_calls x0 A1 cap1 ss1 W (by simpa [maxLen] using w0) hl1 hc1 hm1 (fun s hs => (he1 s hs).2) (env_of hL hsh)).mono fun e W' ⟨he, hbl⟩ => ?_
  subst he
  exact ⟨_, rfl, law_post rfl rfl (by kernel_rfl) hW' rfl rfl rfl hbl⟩

theorem historyOnly_row : Rows.HistoryOnlySaid :=
  OpenClaim.holds_of_wide 5 Tryd.f5 rfl rfl rfl rfl rfl rfl rfl ⟨rfl, rfl, rfl, rfl, rfl⟩ rfl rfl rfl rfl rfl (by kernel_rfl) Tryd.func5 (by kernel_rfl)
    (of_decide_eq_true (by kernel_rfl)) (by unfold Func.isWrapper; first | (rw [if_pos (by decide +kernel)]; kernel_rfl) | (rw [if_neg (by decide +kernel)]; exact ⟨rfl, rfl⟩))
    (fun os started H enc _ => historyOnly_lifted os started H enc)
theorem historyOnly_holds : Rows.HistoryOnlyCardSaid :=
  Claim7.holds_tied_plain_at .later [] [.data, .pinned] true Rows.historyOnlyCard.stood.harness false historyOnly_row (fun _ h => by cases h) (by kernel_rfl) (fun _ h => by cases h) historyOnly_row_tie rfl ⟨rfl, rfl⟩ (by kernel_rfl) rfl
    (fun f fn hf hfn => by
      obtain rfl : f = 5 := Option.some.inj ((show Tryd.prog.funcNamed Rows.historyOnlyRow.func = some 5 by kernel_rfl).symm.trans hf) |>.symm
      obtain rfl : fn = Tryd.f5 := (Option.some.inj (Tryd.func5.symm.trans hfn)).symm
      exact ⟨by kernel_rfl, fun j t ht => by
        have hpar : Tryd.f5.params = #[9, 22] := by kernel_rfl
        rw [hpar] at ht
        have hm : t ∈ [9, 22] := by simpa using Array.mem_of_getElem? ht
        have hall : ([9, 22].all fun u => !Tryd.prog.wantsStandIn u) = true := by kernel_rfl
        exact (show Tryd.prog.wantsStandIn t = false by simpa using List.all_eq_true.1 hall t hm)⟩)
    (by kernel_rfl)
#print axioms historyOnly_holds
end Go.Proofs.YtleflnbcgkfojaaDoor
