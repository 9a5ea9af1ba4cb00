/- Proved: henkanlaw15.PosKnown returns true: the examples and the limits. It has no arguments; no condition of ours. -/
import Derived.Test.YtoihfmjnonanjaaDoorBulkU
import Derived.Test.YtoihfmjnonanjaaDoorPosR
import Derived.Test.YtoihfmjnonanjaaDoorPosBI
namespace Go.Proofs.YtoihfmjnonanjaaDoor
open Go.ChangeShapes Go.WideShapes Go.ChangeAt Go.RowKit Go.Lib Go.Shelf Hk
open Go.ChangeMaps (open_string shut_string)
set_option linter.unusedSimpArgs false
set_option linter.unusedVariables false
set_option maxRecDepth 100000

theorem kn_parse : parseD (knS 63) = (knL 63, 0, 0) := by
  rw [← kn_print]
  exact parseL_printL _ kn_ok
theorem kn_printB : printB (knL 63) = knS 63 := by
  unfold printB
  rw [if_pos kn_ok, kn_print]
/-- Bytes that were written in place. -/
theorem u8_lit (W : World) (bs : List UInt8) (cs : Array Value) (n : Nat) (hn : n = bs.length) (h0 : 0 < n) (hcs : (byteCells bs).toArray = cs) : Lies (W.alloc (.cells cs 5)) (W.alloc (.cells cs 5)).heap.size 1 (some ⟨W.heap.size, 0, none⟩) n (byteCells bs) := by
  subst hn hcs
  exact Lies.of_addr (by simp [byteCells]) (by omega) (by simp) (cells_new W (byteCells bs) _)
set_option maxHeartbeats 8000000 in
theorem posKnown_calls (w : World) (he : Env w) : Calls Tryd.prog 3 #[] w fun e w' => e = .returned (.bool true) ∧ Below w.heap.size w w' := by
  obtain ⟨i0, hi, hy0, hy1, hy2⟩ := info_parts Tryd.info33
  obtain ⟨i1, ki, ky0, ky1, ky2⟩ := info_parts Tryd.info5
  have HE := Lib.hid he
  have CW := Lib.hid works_calls
  have W1 := Lib.hid (wrong_calls _ _ _ w (by decide) he kn_w1)
  have W2 := Lib.hid fun (W : World) (h : Env W) => wrong_calls _ _ _ W (by decide) h kn_w2
  have W3 := Lib.hid fun (W : World) (h : Env W) => wrong_calls _ _ _ W (by decide) h kn_w3
  have W4 := Lib.hid fun (W : World) (h : Env W) => wrong_calls _ _ _ W (by decide) h kn_w4
  have W5 := Lib.hid fun (W : World) (h : Env W) => wrong_calls _ _ _ W (by decide) h kn_w5
  have W6 := Lib.hid fun (W : World) (h : Env W) => wrong_calls _ _ _ W (by decide) h kn_w6
  have W7 := Lib.hid fun (W : World) (h : Env W) => wrong_calls _ _ _ W (by decide) h kn_w7
  have W8 := Lib.hid fun (W : World) (h : Env W) => wrong_calls _ _ _ W (by decide) h kn_w8
  have W9 := Lib.hid fun (W : World) (h : Env W) => wrong_calls _ _ _ W (by decide) h kn_w9
  clear he
  go_enter Tryd.func3, Tryd.ntmps3
  go_wp2_with fail
  refine W1.out.mono ?_
  rintro e w1 ⟨rfl, hb1⟩
  clear W1
  go_wp2_with fail
  refine (W2.out _ (HE.out.below hb1)).mono ?_
  rintro e w2 ⟨rfl, hb2⟩
  replace hb2 := qtrans hb1 hb2
  clear hb1 W2
  go_wp2_with fail
  refine (W3.out _ (HE.out.below hb2)).mono ?_
  rintro e w3 ⟨rfl, hb3⟩
  replace hb3 := qtrans hb2 hb3
  clear hb2 W3
  go_wp2_with fail
  refine (W4.out _ (HE.out.below hb3)).mono ?_
  rintro e w4 ⟨rfl, hb4⟩
  replace hb4 := qtrans hb3 hb4
  clear hb3 W4
  go_wp2_with fail
  refine (W5.out _ (HE.out.below hb4)).mono ?_
  rintro e w5 ⟨rfl, hb5⟩
  replace hb5 := qtrans hb4 hb5
  clear hb4 W5
  go_wp2_with fail
  refine (W6.out _ (HE.out.below hb5)).mono ?_
  rintro e w6 ⟨rfl, hb6⟩
  replace hb6 := qtrans hb5 hb6
  clear hb5 W6
  go_wp2_with fail
  refine (W7.out _ (HE.out.below hb6)).mono ?_
  rintro e w7 ⟨rfl, hb7⟩
  replace hb7 := qtrans hb6 hb7
  clear hb6 W7
  go_wp2_with fail
  refine (W8.out _ (HE.out.below hb7)).mono ?_
  rintro e w8 ⟨rfl, hb8⟩
  replace hb8 := qtrans hb7 hb8
  clear hb7 W8
  go_wp2_with fail
  refine (W9.out _ (HE.out.below hb8)).mono ?_
  rintro e w9 ⟨rfl, hb9⟩
  replace hb9 := qtrans hb8 hb9
  clear hb8 W9
  go_wp2_with fail
  go_loopw [1, 2] (fun s i wr => ∃ k S, k ≤ 63 ∧ s = .string S ∧ Hid (S = knS k) ∧ S.size ≤ 705 ∧ i = .int .i64 ((k + 1 : Nat) : Int) ∧ wr = w9) (fun _ i _ => 64 - (intOf i).toNat)
  case atStart => exact ⟨0, _, by omega, rfl, rfl, by decide, rfl, rfl⟩
  case round =>
    obtain ⟨k, S, hk, rfl, HS, hSs, rfl, rfl⟩ := hrel
    by_cases hlt : k < 63
    · obtain ⟨i, hi⟩ : ∃ i, i = k + 1 := ⟨_, rfl⟩
      have hi2 : i < 64 := by omega
      rw [← hi]
      obtain ⟨q, hq⟩ : ∃ q, q = i / 10 := ⟨_, rfl⟩
      obtain ⟨r, hr⟩ : ∃ r, r = i % 10 := ⟨_, rfl⟩
      have hqi : (i : Int) / 10 = (q : Int) := by omega
      have hri : (i : Int) % 10 = (r : Int) := by omega
      have hq10 : q < 10 := by omega
      have hr10 : r < 10 := by omega
      have HI := Lib.hid hi
      have HQ := Lib.hid hq
      have HR := Lib.hid hr
      obtain ⟨v1, hv1⟩ : ∃ v1 : Nat, v1 = 48 + q := ⟨_, rfl⟩
      obtain ⟨v2, hv2⟩ : ∃ v2 : Nat, v2 = 48 + r := ⟨_, rfl⟩
      have hs1 : (48 : Int) + (q : Int) = (v1 : Int) := by omega
      have hs2 : (48 : Int) + (r : Int) = (v2 : Int) := by omega
      have hb1 : v1 ≤ 57 := by omega
      have hb2 : v2 ≤ 57 := by omega
      have HV1 := Lib.hid hv1
      have HV2 := Lib.hid hv2
      obtain ⟨x1, hx1⟩ : ∃ x1 : ByteArray, x1 = digB q := ⟨_, rfl⟩
      obtain ⟨x2, hx2⟩ : ∃ x2 : ByteArray, x2 = digB r := ⟨_, rfl⟩
      have hz1 : x1.size = 1 := by rw [hx1]; rfl
      have hz2 : x2.size = 1 := by rw [hx2]; rfl
      have HX1 := Lib.hid hx1
      have HX2 := Lib.hid hx2
      have HQ10 := Lib.hid hq10
      have HR10 := Lib.hid hr10
      clear hi hq hr hv1 hv2 hx1 hx2 hq10 hr10
      iterate 46 (first | rw [show Utf8.encode (v1 : Int) = x1 by rw [HX1.out, HV1.out]; exact dig_enc q HQ10.out] | go_step)
      iterate 30 (first | rw [show Utf8.encode (v2 : Int) = x2 by rw [HX2.out, HV2.out]; exact dig_enc r HR10.out] | go_step)
      have HS2 : Hid (S ++ ⟨#[112]⟩ ++ x1 ++ x2 ++ ⟨#[9, 112, 114, 101, 102, 105, 120, 10]⟩ = knS (k + 1)) := by
        show _ = _
        rw [HS.out, HX1.out, HX2.out, HQ.out, HR.out, HI.out]
        rfl
      go_wp2_with fail
      go_roundw
      case rel => exact ⟨k + 1, _, by omega, rfl, HS2, by rw [HS2.out, knS_size]; omega, by rw [HI.out]; go_num, by first | trivial | rfl⟩
      case measure => simp [intOf]; omega
    · obtain rfl : k = 63 := by omega
      obtain ⟨L, hL⟩ : ∃ L, L = knL 63 := ⟨_, rfl⟩
      have hlen : L.length = 64 := by rw [hL]; exact kn_len
      have hp : parseD S = (L, 0, 0) := by rw [HS.out, hL]; exact kn_parse
      have hx : parseD (S ++ ⟨#[120, 9, 99, 111, 110, 116, 101, 110, 116]⟩) = ([], 65, 2) := by rw [HS.out]; exact kn_x
      have hy : parseD (S ++ ⟨#[112, 48, 49, 9, 99, 111, 110, 116, 101, 110, 116]⟩) = ([], 65, 4) := by rw [HS.out]; exact kn_p01
      have z1 : (⟨#[120, 9, 99, 111, 110, 116, 101, 110, 116]⟩ : ByteArray).size = 9 := rfl
      have z2 : (⟨#[112, 48, 49, 9, 99, 111, 110, 116, 101, 110, 116]⟩ : ByteArray).size = 11 := rfl
      have hpr : printB L = S := by rw [hL, kn_printB, HS.out]
      have hck : checkI L = 0 := by rw [hL]; exact checkI_yes kn_ok
      have hck2 : checkI (L ++ [(⟨#[120]⟩, 0)]) = 5 := by rw [hL]; exact checkI_no kn_more
      have hlen2 : (L ++ [((⟨#[120]⟩ : ByteArray), (0 : Int))]).length = 65 := by rw [List.length_append, hlen]; rfl
      have CP := Lib.hid fun (W : World) (h : Env W) => parse_calls S W (by omega) h
      have CX := Lib.hid fun (W : World) (h : Env W) => wrong_calls _ 65 2 W (by rw [ByteArray.size_append, z1]; omega) h hx
      have CY := Lib.hid fun (W : World) (h : Env W) => wrong_calls _ 65 4 W (by rw [ByteArray.size_append, z2]; omega) h hy
      have CR := Lib.hid fun A c (W : World) (h : Lies W W.heap.size 2 A L.length (pcells L)) (he : Env W) => print_calls A c L W h (by rw [hlen]; decide) he
      have CE := Lib.hid fun (W : World) => encode_calls (some ⟨W.heap.size, 0, none⟩) 2 knE (W.alloc (.cells #[.string ⟨#[66, 79, 83]⟩, .int .i64 0, .string ⟨#[103, 97]⟩, .int .i64 1] 33)) (pos_lit W knE _ 2 rfl (by omega) rfl) (by decide)
      have CD := Lib.hid fun (W : World) => decode_calls (some ⟨W.heap.size, 0, none⟩) 6 6 [1, 3, 66, 79, 83, 1] (W.alloc (.cells #[.int .u8 1, .int .u8 3, .int .u8 66, .int .u8 79, .int .u8 83, .int .u8 1] 5)) (u8_lit W [1, 3, 66, 79, 83, 1] _ 6 rfl (by omega) rfl) rfl (by omega) (by decide)
      have CD2 := Lib.hid fun A c (W : World) (h : Lies W W.heap.size 1 A 11 (byteCells [2, 3, 66, 79, 83, 0, 2, 103, 97, 1, 0])) (h1 : 11 ≤ c) (h2 : c ≤ maxLen) => decode_calls A 11 c [2, 3, 66, 79, 83, 0, 2, 103, 97, 1, 0] W h rfl h1 h2
      have CK := Lib.hid fun A c (W : World) (h : Lies W W.heap.size 2 A (L ++ [((⟨#[120]⟩ : ByteArray), (0 : Int))]).length (pcells (L ++ [(⟨#[120]⟩, 0)]))) => check_calls A c (L ++ [(⟨#[120]⟩, 0)]) W h (by rw [hlen2]; decide)
      have CN := Lib.hid fun (W : World) => check_calls none 0 [] W Lies.empty (by decide)
      unfold ParsePost at CP
      unfold EncPost at CE
      unfold DecPost at CD CD2
      rw [hp] at CP
      simp only at CP
      rw [hlen] at CP CR
      rw [hpr, hck] at CR
      rw [hlen2, hck2] at CK
      rw [encB_ok knE_ok, knE_enc, checkI_yes knE_ok] at CE
      rw [decE_none kn_dec1, decR_none kn_dec1] at CD
      rw [decE_none kn_dec2, decR_none kn_dec2] at CD2
      rw [show checkI [] = 5 from checkI_no (by decide +kernel)] at CN
      clear hL hlen hp hx hy hpr hck hck2 hlen2 hlt hk
      have z3 : (S.size : Int) ≤ 705 := by omega
      go_wp2_with fail
      refine (CP.out _ (HE.out.below hb9)).mono ?_
      rintro e w10 ⟨v10, rfl, ho10, hb10⟩
      obtain ⟨gL, c, rfl, _, hgL⟩ := ho10.form (by omega)
      have KL := Lib.hid (Lies.of_own ho10)
      have HO := Lib.hid (ho10.mono hb9.size)
      have HGL := Lib.hid hgL
      replace hb10 := qtrans hb9 hb10
      clear hb9 ho10 hgL CP
      go_wp2_with fail
      refine (CX.out _ (HE.out.below hb10)).mono ?_
      rintro e w11 ⟨rfl, hb11⟩
      replace KL := Lib.hid ((KL.out.below hb11).up hb11.size)
      replace HO := Lib.hid (owns_below HO.out hb11)
      replace HGL := Lib.hid (Nat.lt_of_lt_of_le HGL.out hb11.size)
      replace hb11 := qtrans hb10 hb11
      clear hb10 CX
      go_wp2_with fail
      refine (CY.out _ (HE.out.below hb11)).mono ?_
      rintro e w12 ⟨rfl, hb12⟩
      replace KL := Lib.hid ((KL.out.below hb12).up hb12.size)
      replace HO := Lib.hid (owns_below HO.out hb12)
      replace HGL := Lib.hid (Nat.lt_of_lt_of_le HGL.out hb12.size)
      replace hb12 := qtrans hb11 hb12
      clear hb11 CY
      go_wp2_with fail
      refine (CR.out _ _ _ KL.out (HE.out.below hb12)).mono ?_
      rintro e w13 ⟨rfl, hb13⟩
      replace HO := Lib.hid (owns_below HO.out hb13)
      replace HGL := Lib.hid (Nat.lt_of_lt_of_le HGL.out hb13.size)
      replace hb13 := qtrans hb12 hb13
      clear hb12 KL CR
      go_wp2_with fail
      refine (CE.out _).mono ?_
      rintro e w14 ⟨v14, rfl, ho14, hb14⟩
      replace HO := Lib.hid (owns_below (HO.out.alloc _) hb14)
      simp only [List.length_cons, List.length_nil, Nat.zero_add, Nat.reduceAdd] at ho14
      obtain ⟨gb, cb, rfl, hgb, _⟩ := ho14.form (by omega)
      have HNE : Hid (gL ≠ gb) := by
        have h1 := HGL.out
        simp only [World.size_alloc] at hgb
        show _ ≠ _
        omega
      replace hb14 := qtrans (hb13.alloc hb13.size _) hb14
      have HB := Lib.hid (ho14.mono (base' := w.heap.size) (Nat.le_trans hb13.size (by simp)))
      clear hb13 ho14 hgb CE HGL
      go_wp2_with fail
      refine (CD.out _).mono ?_
      rintro e w15 ⟨v15, rfl, ho15, hb15⟩
      obtain ⟨A15, c15, rfl, _, _⟩ := own_slice ho15
      simp only [List.length_nil]
      replace HO := Lib.hid (owns_below (HO.out.alloc _) hb15)
      replace HB := Lib.hid (owns_below (HB.out.alloc _) hb15)
      replace hb15 := qtrans (hb14.alloc hb14.size _) hb15
      clear hb14 ho15 CD
      go_wp2_with (at_builtin; refine wpList_append_keep _ rfl _ _ 29 rfl w.heap.size 5 i1 (.int .u8 0) 1 1 Tryd.underlying29 ki ky0 ky1 ky2 rfl (by decide) gb 10 cb _ rfl (HB.out.alloc _) ⟨w15.heap.size, 0, none⟩ 1 1 [.int .u8 0] rfl rfl (cells_new w15 [.int .u8 0] 5) ?l1 ?l2 ?l3 ?l4 ?_)
      case l1 => intro u hu; simp at hu; subst hu; rfl
      case l2 => decide
      case l3 => decide
      case l4 => have := hb15.size; simp; omega
      intro v16 w16 ho16 hob16 hg16
      have hb16 : Below w.heap.size w w16 := below_append hb15 _ HB.out hg16
      replace HO := Lib.hid ((HO.out.alloc (.cells #[.int .u8 0] 5)).kept hg16 (.inr (fun h => HNE.out (by simpa [Value.ownBlock] using h))))
      obtain ⟨A16, c16, rfl, hc16, hm16, k16⟩ := own_lies ho16
      rw [show byteCells [2, 3, 66, 79, 83, 0, 2, 103, 97, 1] ++ [Value.int IntKind.u8 0] = byteCells [2, 3, 66, 79, 83, 0, 2, 103, 97, 1, 0] from rfl] at k16
      have K16 := Lib.hid k16
      have Q16 := Lib.hid (And.intro hc16 hm16)
      replace HB := Lib.hid hob16
      clear hb15 hg16 hob16 ho16 k16 hc16 hm16 HNE
      go_wp2_with fail
      refine (CD2.out _ _ _ K16.out Q16.out.1 Q16.out.2).mono ?_
      rintro e w17 ⟨v17, rfl, ho17, hb17⟩
      obtain ⟨A17, c17, rfl, _, _⟩ := own_slice ho17
      simp only [List.length_nil]
      replace HO := Lib.hid (owns_below HO.out hb17)
      replace HB := Lib.hid (owns_below HB.out hb17)
      replace hb17 := qtrans hb16 hb17
      clear hb16 ho17 K16 Q16 CD2
      have hcv : (convert 29 9 (.slice (some ⟨gb, 0, none⟩) 10 cb)).run Tryd.prog w17 = .ok (.string ⟨#[2, 3, 66, 79, 83, 0, 2, 103, 97, 1]⟩) w17 := conv_lies (Lies.of_own HB.out) rfl
      have s0 : (S.toList == S.toList) = true := by simp
      have s1 : ((⟨#[2, 3, 66, 79, 83, 0, 2, 103, 97, 1]⟩ : ByteArray).toList == (⟨#[2, 3, 66, 79, 83, 0, 2, 103, 97, 1]⟩ : ByteArray).toList) = true := by simp
      clear HB
      go_wp2_with (at_builtin; refine wpList_append_liesG _ rfl (.tmp 145) (.tmp 147) 24 rfl w.heap.size 33 i0 (.agg #[.string ⟨#[]⟩, .int .i64 0]) 2 24 Tryd.underlying24 hi hy0 hy1 hy2 rfl (by omega) _ 64 _ rfl (HO.out.alloc _) _ (some ⟨w17.heap.size, 0, none⟩) 1 1 _ rfl (pos_lit w17 [(⟨#[120]⟩, 0)] _ 1 rfl (by omega) rfl) ?l1 ?l2 ?l3 ?l4 ?_)
      case l1 => intro u hu; simp [pcells] at hu; rcases hu with rfl | rfl <;> rfl
      case l2 => decide
      case l3 => decide
      case l4 => have := hb17.size; simp; omega
      intro v18 w18 ho18 hg18
      have hb18 : Below w.heap.size w w18 := below_append hb17 _ HO.out hg18
      obtain ⟨A18, c18, rfl, _, _, k18⟩ := own_lies ho18
      rw [show pcells L ++ pcells [((⟨#[120]⟩ : ByteArray), (0 : Int))] = pcells (L ++ [(⟨#[120]⟩, 0)]) by simp [pcells]] at k18
      have K18 := Lib.hid k18
      clear hb17 hg18 ho18 k18 HO hcv
      go_wp2_with fail
      refine (CK.out _ _ _ K18.out).mono ?_
      rintro e w19 ⟨rfl, hb19⟩
      replace hb19 := qtrans hb18 hb19
      clear hb18 K18 CK
      go_wp2_with fail
      refine (CN.out _).mono ?_
      rintro e w20 ⟨rfl, hb20⟩
      replace hb20 := qtrans hb19 hb20
      clear hb19 CN
      go_wp2_with fail
      refine (CW.out _ (HE.out.below hb20)).mono ?_
      rintro e w21 ⟨rfl, hb21⟩
      replace hb21 := qtrans hb20 hb21
      clear hb20
      go_wp2_with fail
      go_ret
      exact ⟨rfl, hb21⟩

theorem posKnown_lifted (os : Os) (started : os.Started) (H : Type) (enc : TypeId × Value → H) :
    ReturnsInHanded {} Tryd.checked os 3 .any (fun w args => (Rows.posKnownSpec.pre enc Tryd.prog Tryd.f3 Rows.posKnownRow.domain false w args ∧ laidMetH Tryd.prog laidOf w) ∧ sizedMet enc Tryd.prog Tryd.f3 (OpenSpec.ofChange Rows.posKnownSpec) false w args)
      (Rows.posKnownSpec.post enc Tryd.prog Tryd.f3 false true false false) := by
  refine returns_shaped (C := Tryd.checked) (X := fun w _ => laidMetH Tryd.prog laidOf w) (fun _ _ _ hh h => h.of_heap hh) own started (by kernel_rfl) Tryd.func3
    (ChangeSpec.witness_shaped (enc := enc) (C := Tryd.checked) (os := os) (X := fun w _ => laidMetH Tryd.prog laidOf w) false (World.laidAll Tryd.prog os laidOf) #[] 8 (World.laidAll_os _ _ _)
      (World.shaped_of_ZipB (by kernel_rfl) (by kernel_rfl)) (by kernel_rfl) (by kernel_rfl) (by kernel_rfl)
      (by rw [MakeChecks.laidMetH_plain _ _ _ laidOf_plain]; exact laidMet_laidAll _ (by kernel_rfl) (by kernel_rfl))) ?_
  intro W base args ds gs before hval0 hW hz hL hsh
  have hval : ∀ (j : Nat) t v, Tryd.f3.params[j]? = some t → args[j]? = some v → Value.okWide Tryd.prog W .any base t v := hval0
  have hW' := hW
  obtain ⟨p, q, hA0, hV, rfl, _, _⟩ := hW
  have hA : DataW.TrodAll enc Tryd.prog W 0 (fun _ => true) true Tryd.f3.params.toList args.toList ds p := hA0
  have hpar : Tryd.f3.params = #[] := by kernel_rfl
  rw [hpar] at hA hval
  obtain ⟨hargs, rfl, rfl⟩ := trodAll_none hA
  obtain rfl : args = #[] := by cases args; simp_all

  refine (posKnown_calls  W  (env_of hL hsh)).mono fun e W' ⟨he, hbl⟩ => ?_
  subst he
  exact ⟨_, rfl, law_post rfl rfl (by kernel_rfl) hW' rfl rfl rfl hbl⟩

theorem posKnown_row : Rows.PosKnownSaid :=
  OpenClaim.holds_of_wide 3 Tryd.f3 rfl rfl rfl rfl rfl rfl rfl ⟨rfl, rfl, rfl, rfl, rfl⟩ rfl rfl rfl rfl rfl (by kernel_rfl) Tryd.func3 (by kernel_rfl)
    (of_decide_eq_true (by kernel_rfl)) (by unfold Func.isWrapper; first | (rw [if_pos (by decide +kernel)]; kernel_rfl) | (rw [if_neg (by decide +kernel)]; exact ⟨rfl, rfl⟩))
    (fun os started H enc _ => posKnown_lifted os started H enc)
theorem posKnown_holds : Rows.PosKnownCardSaid :=
  Claim7.holds_tied_plain_at .later [] [.data, .widerDeep, .pinned] true Rows.posKnownCard.stood.harness true posKnown_row (fun _ h => by cases h) (by kernel_rfl) (fun _ h => by cases h) posKnown_row_tie rfl ⟨rfl, rfl⟩ (by kernel_rfl) rfl
    (fun f fn hf hfn => by
      obtain rfl : f = 3 := Option.some.inj ((show Tryd.prog.funcNamed Rows.posKnownRow.func = some 3 by kernel_rfl).symm.trans hf) |>.symm
      obtain rfl : fn = Tryd.f3 := (Option.some.inj (Tryd.func3.symm.trans hfn)).symm
      exact ⟨by kernel_rfl, fun j t ht => by
        have hpar : Tryd.f3.params = #[] := by kernel_rfl
        rw [hpar] at ht
        simp at ht⟩)
    (by kernel_rfl)
#print axioms posKnown_holds
end Go.Proofs.YtoihfmjnonanjaaDoor
