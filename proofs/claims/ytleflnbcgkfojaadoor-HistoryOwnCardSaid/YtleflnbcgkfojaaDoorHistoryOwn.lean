/- Proved: henkanlaw31.HistoryOwn returns true for every string and every list of words: arguments stay as they are, and results are new memory. No condition of ours. -/
import Derived.Test.YtleflnbcgkfojaaDoorBulk
import Derived.Test.YtleflnbcgkfojaaDoorHist8
namespace Go.Proofs.YtleflnbcgkfojaaDoor
open Go.ChangeShapes Go.WideShapes Go.ChangeAt Go.RowKit Go.Lib Go.Shelf Hk
open Go.ChangeMaps (open_string shut_string)
set_option linter.unusedSimpArgs false
set_option linter.unusedVariables false
set_option maxRecDepth 100000

theorem Tryd.info35 : (Tryd.prog.info? 35).map (fun i => (i.zero, i.size, i.bytes)) = some (some (.agg #[.string ⟨#[]⟩, .string ⟨#[]⟩]), 2, 32) := by kernel_rfl
theorem wd_one (cs : List Wd) : ∀ u ∈ wdCells cs, u.oneCell' = true := by
  intro u hu
  obtain ⟨c, _, hc⟩ := List.mem_flatMap.1 hu
  simp at hc
  rcases hc with rfl | rfl <;> rfl
theorem str_one (l : List ByteArray) : ∀ u ∈ l.map Value.string, u.oneCell' = true := by
  intro u hu
  obtain ⟨c, _, rfl⟩ := List.mem_map.1 hu
  rfl
/-- A row of strings in which a loop has stored. -/
def StoreAt (w : World) (b0 base : Nat) (A : Option Addr) (n c : Nat) (i : Value) (wr : World) : Prop :=
  ∃ (k : Nat) (xs : List Value), k ≤ n ∧ i = .int .i64 (k : Int) ∧ wr.ownsRow base 9 1 (.slice A n c) n xs ∧ Below b0 w wr

set_option maxHeartbeats 8000000 in
theorem historyOwn_calls (prev : ByteArray) (A : Option Addr) (cap : Nat) (ws : List Wd) (w : World) (hp : prev.size ≤ 9223372036854775807) (hl : Lies w w.heap.size 2 A ws.length (wdCells ws)) (hc : ws.length ≤ cap) (hm : cap ≤ maxLen) (hs : WLight 9223372036854775807 ws) (he : Env w) :
    Calls Tryd.prog 7 #[.string prev, .slice A ws.length cap] w fun e w' => e = .returned (.bool true) ∧ Below w.heap.size w w' := by
  obtain ⟨i0, hi, hz0, hz1, hz2⟩ := info_parts Tryd.info9
  obtain ⟨j0, ji, jz0, jz1, jz2⟩ := info_parts Tryd.info35
  unfold maxLen at hm
  have HE := Lib.hid he
  have CW := Lib.hid works_calls
  have C0 := Lib.hid (light_calls prev A cap ws w hl (by omega) hp hs)
  cases hf : lightB prev ws with
  | false =>
    rw [hf] at C0
    clear he hl hs hf
    generalize ws.length = n at *
    go_enter Tryd.func7, Tryd.ntmps7
    go_wp2_with fail
    refine C0.out.mono ?_
    rintro e w1 ⟨rfl, hb1⟩
    go_wp2_with fail
    refine (CW.out _ (HE.out.below hb1)).mono ?_
    rintro e w2 ⟨rfl, hb2⟩
    replace hb2 := qtrans hb1 hb2
    clear hb1
    go_wp2_with fail
    go_ret
    exact ⟨rfl, hb2⟩
  | true =>
    rw [hf] at C0
    obtain ⟨h1, h2, h3⟩ := lightB_yes hf
    have hwl : WLight 1048576 ws := fun c hc => by have := h1 c hc; omega
    have C1 := Lib.hid fun W (h : Lies W W.heap.size 2 A ws.length (wdCells ws)) (hW : Env W) => keys_calls prev A cap ws W (by omega) h (by omega) hwl hW
    have CS := Lib.hid same_calls
    have HL := Lib.hid hl
    have hlen : (keysD prev ws).length ≤ 64 := by rw [keysD_all]; exact addAll_len _
    have hks : Hid (∀ k ∈ keysD prev ws, k.size ≤ 1048576) := keysD_small prev ws
    have CA := Lib.hid about_calls
    clear he hl hs hf h1 hwl
    obtain ⟨n, hnn⟩ : ∃ n, n = ws.length := ⟨_, rfl⟩
    have HN := Lib.hid hnn
    rw [← hnn] at HL C1 C0 hc h2 ⊢
    clear hnn
    obtain ⟨L, hL⟩ : ∃ L, keysD prev ws = L := ⟨_, rfl⟩
    rw [hL] at C1 hlen hks
    clear hL
    go_enter Tryd.func7, Tryd.ntmps7
    go_wp2_with fail
    refine C0.out.mono ?_
    rintro e w0 ⟨rfl, hb0⟩
    clear C0
    have bx0 : Below w0.heap.size w0 (w0.alloc (.cells #[] 35)) := (Below.refl _ _).alloc (Nat.le_refl _) _
    have ox0 : (w0.alloc (.cells #[] 35)).ownsRow w0.heap.size 35 2 (.slice (some ⟨w0.heap.size, 0, none⟩) 0 0) 0 [] := World.ownsRow_made w0 #[] 0 (Nat.le_refl _) (by unfold maxLen; omega) (by simp)
    have lx0 := (((HL.out.below hb0).up hb0.size).below bx0)
    go_wp2_with (at_builtin; refine wpList_append_lies _ rfl (.tmp 17) (.tmp 18) 22 rfl w0.heap.size 35 j0 (.agg #[.string ⟨#[]⟩, .string ⟨#[]⟩]) 2 32 Tryd.underlying22 ji jz0 jz1 jz2 rfl (by omega) _ 0 [] rfl ox0 w0.heap.size A n cap (wdCells ws) rfl lx0 (wd_one ws) ?l1 ?l2 ?l3 ?_)
    case l1 => unfold maxLen; omega
    case l2 => omega
    case l3 => simp
    intro vin w1 hoin hg1
    have hb1' : Below w0.heap.size w0 w1 := bx0.grown hg1 (by simp) fun k hk => (ox0.lt k hk).1
    have hb1 := qtrans hb0 hb1'
    obtain ⟨Ai, ci, rfl, _, _, HLI⟩ := own_lies hoin
    clear bx0 ox0 lx0 hg1 hoin
    go_wp2_with fail
    refine (C1.out _ ((HL.out.below hb1).up hb1.size) (HE.out.below hb1)).mono ?_
    rintro e w2 ⟨vl, rfl, hol, hb2⟩
    obtain ⟨Al, cl, rfl, _, _, hll⟩ := own_lies hol
    obtain ⟨nl, hnl⟩ : ∃ nl, nl = L.length := ⟨_, rfl⟩
    have HNL := Lib.hid hnl
    rw [← hnl] at hol hll hlen ⊢
    clear hnl
    have bx2 : Below w2.heap.size w2 (w2.alloc (.cells #[] 9)) := (Below.refl _ _).alloc (Nat.le_refl _) _
    have ox2 : (w2.alloc (.cells #[] 9)).ownsRow w2.heap.size 9 1 (.slice (some ⟨w2.heap.size, 0, none⟩) 0 0) 0 [] := World.ownsRow_made w2 #[] 0 (Nat.le_refl _) (by unfold maxLen; omega) (by simp)
    have lx2 := hll.below bx2
    go_wp2_with (at_builtin; refine wpList_append_lies _ rfl (.tmp 23) (.tmp 24) 26 rfl w2.heap.size 9 i0 (.string ⟨#[]⟩) 1 16 Tryd.underlying26 hi hz0 hz1 hz2 rfl (by omega) _ 0 [] rfl ox2 w2.heap.size Al nl cl (L.map Value.string) rfl lx2 (str_one L) ?k1 ?k2 ?k3 ?_)
    case k1 => unfold maxLen; omega
    case k2 => omega
    case k3 => simp
    intro vm w3 hom hg3
    have hb3' : Below w2.heap.size w2 w3 := bx2.grown hg3 (by simp) fun k hk => (ox2.lt k hk).1
    have hol3 := owns_below hol hb3'
    have hll3 := hll.below hb3'
    have hlt : ∀ k, (Value.slice Al nl cl).ownBlock = some k → k < w2.heap.size := fun k hk => (hol.lt k hk).2
    have hb13 : Below w1.heap.size w1 w3 := qtrans hb2 hb3'
    have hb3 : Below w.heap.size w w3 := qtrans (qtrans hb1 hb2) hb3'
    clear bx2 ox2 lx2 hg3 hol hll
    have C2 := Lib.hid (show Calls Tryd.prog 17 #[.slice Al nl cl, .string prev] w3 (StrsPost w3 (aboutD prev L)) by
      have := CA.out Al cl L prev w3 (by rw [← HNL.out]; exact hll3.up hb3'.size) (by rw [← HNL.out]; omega) hks.out (HE.out.below hb3)
      rw [← HNL.out] at this
      exact this)
    go_wp2_with fail
    refine C2.out.mono ?_
    rintro e w4 ⟨va, rfl, hoa, hb4⟩
    obtain ⟨Aa, ca, rfl, _, _⟩ := own_slice hoa
    obtain ⟨na, hna⟩ : ∃ na, na = (aboutD prev L).length := ⟨_, rfl⟩
    have hna2 : na ≤ nl := by rw [hna, HNL.out]; exact aboutD_len _ _
    rw [← hna] at hoa ⊢
    clear hna C2
    go_wp2_with fail
    go_loopw [31] (fun i wr => StoreAt w3 w3.heap.size w3.heap.size Aa na ca i wr) (fun i _ => na - (intOf i).toNat)
    case atStart => exact ⟨0, _, Nat.zero_le _, rfl, hoa, hb4⟩
    case round =>
      clear hoa hb4
      obtain ⟨k, xs, hk, rfl, hox, hbx⟩ := hrel
      by_cases hlt1 : k < na
      · obtain ⟨g, cp, hv, hge, _⟩ := hox.form (by omega)
        obtain ⟨rfl, rfl⟩ : Aa = some ⟨g, 0, none⟩ ∧ cp = ca := by injection hv with e1 e2 e3; exact ⟨e1, e3.symm⟩
        have hlx : k < xs.length := by rw [hox.1]; omega
        have cc : wr.cell? ⟨g, k, none⟩ = some xs[k] := by rw [hox.cellAt k (by omega)]; exact List.getElem?_eq_getElem hlx
        have ff := hox.frozenAt k
        have HO := Lib.hid (hox.stored k (.string ⟨#[120]⟩)).1
        have hbs := hbx.setCell (p := ⟨g, k, none⟩) hge (.string ⟨#[120]⟩)
        clear hv hox
        go_wp2_with fail
        go_roundw
        case rel => exact ⟨k + 1, _, by omega, by go_num, HO.out, hbs⟩
        case measure => simp [intOf]; omega
      · have k1' := (hll3.below (hbx.mono (hb3'.size)))
        have hom1 := owns_below hom hbx
        have hol1 := owns_below hol3 hbx
        obtain ⟨Am, cm, rfl, _, _, hlm⟩ := own_lies hom1
        have hb13r := qtrans hb13 hbx
        have hbr := qtrans hb3 hbx
        clear hox hbx
        go_wp2_with fail
        refine (CS.out _ _ _ _ _ L _ _ _ HNL.out.symm k1' hlm (by omega)).mono ?_
        rintro e w5 ⟨rfl, hb5⟩
        have hom5 := owns_below hom1 hb5
        have hol5 := owns_below hol1 hb5
        have hb15 := qtrans hb13r hb5
        have hb55 := qtrans hbr hb5
        clear hom1 hol1 hb13r hbr hb5 k1' hlm hol3 hll3
        go_wp2_with fail
        go_loopw [44] (fun i wr' => StoreAt w1 w1.heap.size w1.heap.size Al nl cl i wr' ∧ wr'.ownsRow w2.heap.size 9 1 (.slice Am nl cm) nl (L.map Value.string)) (fun i _ => nl - (intOf i).toNat)
        case atStart => exact ⟨⟨0, _, Nat.zero_le _, rfl, hol5, hb15⟩, hom5⟩
        case round =>
          clear hol5 hb15 hom5 hb55
          obtain ⟨⟨k2, xs2, hk2, rfl, hox2, hbx2⟩, homx⟩ := hrel
          obtain ⟨wo, rfl⟩ : ∃ wo : World, wo = wr := ⟨_, rfl⟩
          by_cases hlt2 : k2 < nl
          · obtain ⟨g, cp, hv, hge, _⟩ := hox2.form (by omega)
            obtain ⟨rfl, rfl⟩ : Al = some ⟨g, 0, none⟩ ∧ cp = cl := by injection hv with e1 e2 e3; exact ⟨e1, e3.symm⟩
            have hlx : k2 < xs2.length := by rw [hox2.1]; omega
            have cc : wo.cell? ⟨g, k2, none⟩ = some xs2[k2] := by rw [hox2.cellAt k2 (by omega)]; exact List.getElem?_eq_getElem hlx
            have ff := hox2.frozenAt k2
            have HO := Lib.hid (hox2.stored k2 (.string ⟨#[121]⟩)).1
            have HM := Lib.hid (homx.kept (hox2.stored k2 (.string ⟨#[121]⟩)).2 (.inr (fun e => by
              have h1 := (homx.lt _ e).1
              have h2 := hlt g rfl
              omega)))
            have hbs := hbx2.setCell (p := ⟨g, k2, none⟩) hge (.string ⟨#[121]⟩)
            clear hv hox2 homx hlt
            go_wp2_with fail
            go_roundw
            case rel => exact ⟨⟨k2 + 1, _, by omega, by go_num, HO.out, hbs⟩, HM.out⟩
            case measure => simp [intOf]; omega
          · have HLI2 := Lib.hid (HLI.below hbx2)
            have hbz := qtrans hb1 hbx2
            have HLW2 := Lib.hid (HL.out.below hbz)
            have hlm2 := (own_lies homx)
            obtain ⟨Am', cm', hve, _, _, hlm2⟩ := hlm2
            obtain ⟨rfl, rfl⟩ : Am' = Am ∧ cm' = cm := by injection hve with e1 e2 e3; exact ⟨e1.symm, e3.symm⟩
            have HLM := Lib.hid hlm2
            clear hox2 homx hlt hlm2 hve HLI hb13 hb3 hb2 hb3' hbx2
            go_wp2_with fail
            go_loopw [53] (fun i wz => ∃ k q : Nat, k ≤ n ∧ i = .int .i64 (k : Int) ∧ wz = wo.drewN q) (fun i _ => n - (intOf i).toNat)
            case atStart => exact ⟨0, 0, Nat.zero_le _, rfl, rfl⟩
            case round =>
              obtain ⟨k3, q, hk3, rfl, rfl⟩ := hrel
              by_cases hlt3 : k3 < n
              · obtain ⟨c, hcc⟩ : ∃ c, ws[k3]? = some c := ⟨_, List.getElem?_eq_getElem (by rw [← HN.out]; exact hlt3)⟩
                obtain ⟨q0, q1⟩ := wdCells_at ws k3 c hcc
                obtain ⟨b, off, rfl, _, c0, c1⟩ := HLI2.out.at2 hlt3 q0 q1
                obtain ⟨b', off', rfl, _, d0, d1⟩ := HLW2.out.at2 hlt3 q0 q1
                obtain ⟨r, s⟩ := c
                simp only at c0 c1 d0 d1
                have s0 : (r.toList == r.toList) = true := by simp
                have s1 : (s.toList == s.toList) = true := by simp
                clear q0 q1 hcc
                go_wp2_with fail
                go_quiet (fail)
                go_wp2_with fail
                go_roundw
                case rel => exact ⟨k3 + 1, _, by omega, by go_num, rfl⟩
                case measure => simp [intOf]; omega
              · have hbq : Below wo.heap.size wo (wo.drewN q) := below_drewN q
                have hbzq := qtrans hbz hbq
                have hlm3 := HLM.out.below hbq
                go_wp2_with fail
                refine (C1.out _ ((HL.out.below hbzq).up hbzq.size) (HE.out.below hbzq)).mono ?_
                rintro e w8 ⟨v8, rfl, ho8, hb8⟩
                obtain ⟨A8, c8, rfl, _, _, hl8⟩ := own_lies ho8
                have hlm4 := hlm3.below hb8
                have hb88 := qtrans hbzq hb8
                rw [← HNL.out] at hl8 ⊢
                clear ho8 hb8 hlm3 hbzq hbq
                go_wp2_with fail
                refine (CS.out _ _ _ _ _ L _ _ _ HNL.out.symm hl8 hlm4 (by omega)).mono ?_
                rintro e w9 ⟨rfl, hb9⟩
                have hb99 := qtrans hb88 hb9
                clear hl8 hlm4 hb9 hb88
                go_wp2_with fail
                refine (CW.out _ (HE.out.below hb99)).mono ?_
                rintro e w10 ⟨rfl, hb10⟩
                have hb1010 := qtrans hb99 hb10
                go_wp2_with fail
                go_ret
                exact ⟨rfl, hb1010⟩

theorem historyOwn_lifted (os : Os) (started : os.Started) (H : Type) (enc : TypeId × Value → H) :
    ReturnsInHanded {} Tryd.checked os 7 .any (fun w args => (Rows.historyOwnSpec.pre enc Tryd.prog Tryd.f7 Rows.historyOwnRow.domain false w args ∧ laidMetH Tryd.prog laidOf w) ∧ sizedMet enc Tryd.prog Tryd.f7 (OpenSpec.ofChange Rows.historyOwnSpec) false w args)
      (Rows.historyOwnSpec.post enc Tryd.prog Tryd.f7 false true false false) := by
  refine returns_shaped (C := Tryd.checked) (X := fun w _ => laidMetH Tryd.prog laidOf w) (fun _ _ _ hh h => h.of_heap hh) own started (by kernel_rfl) Tryd.func7
    (ChangeSpec.witness_shaped (enc := enc) (C := Tryd.checked) (os := os) (X := fun w _ => laidMetH Tryd.prog laidOf w) false (World.laidAll Tryd.prog os laidOf) #[.string ⟨#[]⟩, .slice none 0 0] 8 (World.laidAll_os _ _ _)
      (World.shaped_of_ZipB (by kernel_rfl) (by kernel_rfl)) (by kernel_rfl) (by kernel_rfl) (by kernel_rfl)
      (by rw [MakeChecks.laidMetH_plain _ _ _ laidOf_plain]; exact laidMet_laidAll _ (by kernel_rfl) (by kernel_rfl))) ?_
  intro W base args ds gs before hval0 hW hz hL hsh
  have hval : ∀ (j : Nat) t v, Tryd.f7.params[j]? = some t → args[j]? = some v → Value.okWide Tryd.prog W .any base t v := hval0
  have hW' := hW
  obtain ⟨p, q, hA0, hV, rfl, _, _⟩ := hW
  have hA : DataW.TrodAll enc Tryd.prog W 0 (fun _ => true) true Tryd.f7.params.toList args.toList ds p := hA0
  have hpar : Tryd.f7.params = #[9, 22] := by kernel_rfl
  rw [hpar] at hA hval
  obtain ⟨v0, v1, d0, d1, p0, p1, hargs, rfl, rfl, h0, h1⟩ := trodAll_two hA
  obtain rfl : args = #[v0, v1] := by first | exact hargs | (cases args; simp_all)
  obtain ⟨x0, rfl, rfl, rfl, w0⟩ := open_string Tryd.underlying9 (hval 0 9 v0 rfl rfl) h0
  obtain ⟨A1, cap1, ss1, rfl, hc1, hm1, hl1, hb1, he1⟩ := open_words Tryd.underlying22 Tryd.underlying35 (by kernel_rfl) rfl rfl (by kernel_rfl) (by kernel_rfl) Tryd.underlying9 Tryd.underlying9 (hval 1 22 v1 rfl rfl) h1
  refine (historyOwn_calls x0 A1 cap1 ss1 W (by simpa [maxLen] using w0) hl1 hc1 hm1 (fun s hs => (he1 s hs).2) (env_of hL hsh)).mono fun e W' ⟨he, hbl⟩ => ?_
  subst he
  exact ⟨_, rfl, law_post rfl rfl (by kernel_rfl) hW' rfl rfl rfl hbl⟩

theorem historyOwn_row : Rows.HistoryOwnSaid :=
  OpenClaim.holds_of_wide 7 Tryd.f7 rfl rfl rfl rfl rfl rfl rfl ⟨rfl, rfl, rfl, rfl, rfl⟩ rfl rfl rfl rfl rfl (by kernel_rfl) Tryd.func7 (by kernel_rfl)
    (of_decide_eq_true (by kernel_rfl)) (by unfold Func.isWrapper; first | (rw [if_pos (by decide +kernel)]; kernel_rfl) | (rw [if_neg (by decide +kernel)]; exact ⟨rfl, rfl⟩))
    (fun os started H enc _ => historyOwn_lifted os started H enc)
theorem historyOwn_holds : Rows.HistoryOwnCardSaid :=
  Claim7.holds_tied_plain_at .later [] [.data, .pinned] true Rows.historyOwnCard.stood.harness false historyOwn_row (fun _ h => by cases h) (by kernel_rfl) (fun _ h => by cases h) historyOwn_row_tie rfl ⟨rfl, rfl⟩ (by kernel_rfl) rfl
    (fun f fn hf hfn => by
      obtain rfl : f = 7 := Option.some.inj ((show Tryd.prog.funcNamed Rows.historyOwnRow.func = some 7 by kernel_rfl).symm.trans hf) |>.symm
      obtain rfl : fn = Tryd.f7 := (Option.some.inj (Tryd.func7.symm.trans hfn)).symm
      exact ⟨by kernel_rfl, fun j t ht => by
        have hpar : Tryd.f7.params = #[9, 22] := by kernel_rfl
        rw [hpar] at ht
        have hm : t ∈ [9, 22] := by simpa using Array.mem_of_getElem? ht
        have hall : ([9, 22].all fun u => !Tryd.prog.wantsStandIn u) = true := by kernel_rfl
        exact (show Tryd.prog.wantsStandIn t = false by simpa using List.all_eq_true.1 hall t hm)⟩)
    (by kernel_rfl)
#print axioms historyOwn_holds
end Go.Proofs.YtleflnbcgkfojaaDoor
