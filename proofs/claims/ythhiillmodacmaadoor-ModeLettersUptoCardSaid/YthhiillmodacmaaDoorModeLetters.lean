/- Proved: henkanlaw07.ModeLetters returns true for all bytes, under the second form's own bound on sizes: full-width letters of keys, made narrow, are the keys; so are those that Char writes, one by one. -/
import Derived.Test.YthhiillmodacmaaDoorFrameM
import Derived.Test.YthhiillmodacmaaDoorMode5
namespace Go.Proofs.YthhiillmodacmaaDoor
open Go.ChangeShapes Go.WideShapes Go.ChangeAt Go.RowKit Go.Lib Go.Shelf Hk
open Go.ChangeMaps (open_string shut_string)
set_option linter.unusedSimpArgs false
set_option linter.unusedVariables false
set_option maxRecDepth 100000

/-- The loop over the keys. -/
def LetAt (w : World) (l : List Nat) (ks ws i : Value) (wr : World) : Prop :=
  ∃ k : Nat, k ≤ l.length ∧ i = .int .i64 (k : Int) ∧ ks = .string (keyS (l.take k)) ∧ ws = .string (widS (l.take k)) ∧ Below w.heap.size w wr
set_option maxHeartbeats 4000000 in
theorem modeLetters_calls (A : Option Addr) (cap : Nat) (l : List Nat) (w : World) (hl : Lies w w.heap.size 1 A l.length (u8s l)) (hc : l.length ≤ cap) (hm : cap ≤ maxLen) (hn : l.length ≤ 1048576) (hb : ∀ c ∈ l, c < 256) (he : EnvM w) :
    Calls Tryd.prog 9 #[.slice A l.length cap] w fun e w' => e = .returned (.bool true) ∧ Below w.heap.size w w' := by
  have HE := Lib.hid he
  have CW := Lib.hid works_calls
  have HL := Lib.hid hl
  have HB := Lib.hid hb
  have hkz := keyS_size l
  have hwz := widS_size l
  have C9 := Lib.hid fun W (hW : EnvM W) => form_calls 9 ⟨#[]⟩ (keyS l) W (by decide) (by omega) hW.1
  rw [show formS 9 ⟨#[]⟩ (keyS l) = wideS (keyS l) from rfl, wide_keyS, show formB 9 = true from rfl] at C9
  have C10 := Lib.hid fun W (hW : EnvM W) => form10_calls (widS l) W (by omega) hW.1
  rw [narrow_keyS] at C10
  have HCV := Lib.hid fun (W : World) (d : Nat) (hd : d < 128) => (show (convert 22 9 (.slice (some ⟨W.heap.size, 0, none⟩) 1 1)).run Tryd.prog (W.alloc (.cells #[.int .u8 (d : Int)] 5)) = .ok (.string (chS d)) (W.alloc (.cells #[.int .u8 (d : Int)] 5)) by
    have hcv := conv_own (own_whole (w := W) (base := W.heap.size) (e := 5) (size := 1) (n := 1) (byteCells [d.toUInt8]) (Nat.le_refl _) (by unfold maxLen; omega) rfl)
    rw [← byte_val (by omega), show bstr [d.toUInt8] = chS d by unfold chS; rw [enc_one d hd]] at hcv
    exact hcv)
  obtain ⟨n, hnl⟩ : ∃ n, n = l.length := ⟨_, rfl⟩
  have HN := Lib.hid hnl
  rw [← hnl] at HL hn ⊢
  clear he hl hb hnl hkz hwz hc hm
  go_enter Tryd.func9, Tryd.ntmps9
  go_wp2_with fail
  go_loopw [3, 4, 17] (fun ks ws i wr => LetAt w l ks ws i wr) (fun _ _ i _ => n - (intOf i).toNat)
  case atStart => exact ⟨0, Nat.zero_le _, rfl, rfl, rfl, Below.refl _ _⟩
  case round =>
    obtain ⟨k, hk, rfl, rfl, rfl, hbw⟩ := hrel
    rw [← HN.out] at hk
    by_cases hlt : k < n
    · obtain ⟨c, hcc⟩ : ∃ c, l[k]? = some c := ⟨_, List.getElem?_eq_getElem (by rw [← HN.out]; exact hlt)⟩
      have HLr := Lib.hid (HL.out.below hbw)
      obtain ⟨b, off, rfl, hab, c0⟩ := HLr.out.at1 hlt (u := .int .u8 (c : Int)) (by simp [u8s, List.getElem?_map, hcc])
      have hc256 : c < 256 := HB.out c (List.mem_of_getElem? hcc)
      have HSK := Lib.hid (keyS_snoc l k c hcc)
      have HSW := Lib.hid (widS_snoc l k c hcc)
      have hks : (keyS (l.take k)).size ≤ 1048576 := by rw [keyS_size, List.length_take]; omega
      have hws : (widS (l.take k)).size ≤ 4194304 := by
        have := widS_size (l.take k)
        rw [List.length_take] at this; omega
      obtain ⟨q, hq⟩ : ∃ q, q = c % 95 := ⟨_, rfl⟩
      have hqi : (c : Int) % 95 = (q : Int) := by omega
      have hq95 : q < 95 := by omega
      obtain ⟨d, hd⟩ : ∃ d, d = ltC c := ⟨_, rfl⟩
      have hsum : (32 : Int) + (q : Int) = (d : Int) := by rw [hd]; unfold ltC; omega
      have hd126 : d ≤ 126 := by rw [hd]; exact (ltC_le c).2
      have hd32 : 32 ≤ d := by rw [hd]; exact (ltC_le c).1
      have hno := narrow_one c
      rw [← hd] at HSK HSW hno
      have h5 := charS_five (c := d) (by omega)
      have h4 := charS_four (c := d) (by omega)
      have CA := Lib.hid fun W (hW : EnvM W) => char_calls 5 d W (by omega) hW.1
      have CB := Lib.hid fun W (hW : EnvM W) => char_calls 4 d W (by omega) hW.1
      rw [h5.1, h5.2] at CA
      rw [h4.1, h4.2] at CB
      have hyz := wide_size (chS d)
      have hxz := chS_size d
      have CN := Lib.hid fun W (hW : EnvM W) => narrow_calls (wideS (chS d)) W (by omega) hW.1
      rw [hno] at CN
      have hcv1 := HCV.out wr d (by omega)
      have HCV2 := Lib.hid fun (W : World) => HCV.out W d (by omega)
      have hb0 : Below w.heap.size w (wr.alloc (.cells #[.int .u8 (d : Int)] 5)) := hbw.alloc hbw.size _
      clear hno h5 h4 hcc hq hd
      obtain ⟨wo, rfl⟩ : ∃ wo : World, wo = wr := ⟨_, rfl⟩
      generalize wideS (chS d) = y at *
      generalize chS d = x at *
      have q1 : (x.toList == x.toList) = true := by simp
      have q2 : (x.toList != x.toList) = false := by simp
      have HK : Hid (keyS (l.take k) ++ x = keyS (l.take (k + 1))) := HSK.out.symm
      have HW2 : Hid (widS (l.take k) ++ y = widS (l.take (k + 1))) := HSW.out.symm
      clear HSK HSW
      generalize keyS (l.take k) = K at *
      generalize widS (l.take k) = Wd at *
      go_wp2_with fail
      refine (CA.out _ (HE.out.below hb0)).mono ?_
      rintro e w1 ⟨rfl, hb1⟩
      replace hb1 := qtrans hb0 hb1
      clear hcv1 hb0 hbw c0
      go_wp2_with fail
      refine (CB.out _ (HE.out.below hb1)).mono ?_
      rintro e w2 ⟨rfl, hb2⟩
      replace hb2 := qtrans hb1 hb2
      have hcv2 := HCV2.out w2
      have hb3 : Below w.heap.size w (w2.alloc (.cells #[.int .u8 (d : Int)] 5)) := hb2.alloc hb2.size _
      clear hb1 hb2
      go_wp2_with fail
      refine (CN.out _ (HE.out.below hb3)).mono ?_
      rintro e w4 ⟨rfl, hb4⟩
      replace hb4 := qtrans hb3 hb4
      clear hcv2 hb3
      go_wp2_with fail
      go_roundw
      case rel => exact ⟨k + 1, by rw [← HN.out]; omega, by go_num, by rw [HK.out], by rw [HW2.out], hb4⟩
      case measure => simp [intOf]; omega
    · have hk' : l.take k = l := List.take_of_length_le (by rw [← HN.out]; omega)
      rw [hk']
      have q1 : ((keyS l).toList == (keyS l).toList) = true := by simp
      have q2 : ((widS l).toList == (widS l).toList) = true := by simp
      clear hk'
      generalize keyS l = K at *
      generalize widS l = Wd at *
      go_wp2_with fail
      refine (C9.out _ (HE.out.below hbw)).mono ?_
      rintro e w1 ⟨rfl, hb1⟩
      replace hb1 := qtrans hbw hb1
      clear hbw
      go_wp2_with fail
      refine (C10.out _ (HE.out.below hb1)).mono ?_
      rintro e w2 ⟨rfl, hb2⟩
      replace hb2 := qtrans hb1 hb2
      clear hb1
      go_wp2_with fail
      refine (CW.out _ (HE.out.below hb2)).mono ?_
      rintro e w3 ⟨rfl, hb3⟩
      replace hb3 := qtrans hb2 hb3
      go_wp2_with fail
      go_ret
      exact ⟨rfl, hb3⟩

theorem modeLetters_lifted (os : Os) (started : os.Started) (H : Type) (enc : TypeId × Value → H) (F : Stop.Interp) :
    ReturnsInHanded {} Tryd.checked os 9 .any ((Rows.OpenSpec.upto Rows.modeLettersSpec).preRow enc Tryd.prog Tryd.f9 Rows.modeLettersUptoRow.domain false Rows.modeLettersUptoRow.laid) (((Rows.OpenSpec.upto Rows.modeLettersSpec).at F).post enc Tryd.prog Tryd.f9 false true false false) := by
  have hx : ∃ ps, DataW.whole enc Tryd.prog ((World.laidAll Tryd.prog os laidOf).forCall (fun _ _ => 0) ⟨#[], #[.slice none 0 0], []⟩).memory Tryd.f9.params.toList Rows.modeLettersSpec.vars false #[.slice none 0 0].toList 8 = some ([.nil], [], ps) := ⟨[], by kernel_rfl⟩
  obtain ⟨ps, hx⟩ := hx
  refine returnsInHanded_of_row (C := Tryd.checked) (s := Rows.OpenSpec.upto Rows.modeLettersSpec) own started (by kernel_rfl) Tryd.func9
    (witness_row_shaped (enc := enc) (C := Tryd.checked) (os := os) false (World.laidAll Tryd.prog os laidOf) #[.slice none 0 0] (World.laidAll_os _ _ _)
      (World.shaped_of_ZipB (by kernel_rfl) (by kernel_rfl)) (by kernel_rfl)
      (OpenSpec.preRow_of_cond 8 hx (by kernel_rfl) (fun k hk => by cases hk; kernel_rfl) (by kernel_rfl)
        (show laidMetH Tryd.prog laidOf _ by rw [MakeChecks.laidMetH_plain _ _ _ laidOf_plain]; exact laidMet_laidAll _ (by kernel_rfl) (by kernel_rfl)))) ?_
  intro W base args ds gs before hval0 hW _ hcond hz hL hsh _
  have hval : ∀ (j : Nat) t v, Tryd.f9.params[j]? = some t → args[j]? = some v → Value.okWide Tryd.prog W .any base t v := hval0
  have hW' := hW
  obtain ⟨p, q, hA0, hV, rfl, _, _⟩ := hW
  obtain ⟨rfl, rfl⟩ := trodVars_none hV
  have hA : DataW.TrodAll enc Tryd.prog W 0 (fun _ => true) true Tryd.f9.params.toList args.toList ds p := hA0
  have hpar : Tryd.f9.params = #[22] := by kernel_rfl
  rw [hpar] at hA hval
  obtain ⟨v0, d0, hargs, rfl, h0⟩ := trodAll_one hA
  obtain rfl : args = #[v0] := by first | exact hargs | (cases args; simp_all)
  have hbulk := bulk_bound (hcond _ rfl)
  have K0 : Rows.uptoBulk d0 ≤ 1048576 := Nat.le_trans (bulk_part (by simp)) hbulk
  obtain ⟨A0, cap0, ss0, rfl, hc0, hm0, hl0, hb0, he0⟩ := open_u8s Tryd.underlying22 Tryd.underlying5 (by kernel_rfl) (hval 0 22 v0 rfl rfl) h0
  refine (modeLetters_calls A0 cap0 ss0 W hl0 hc0 hm0 (Nat.le_trans hb0 K0) he0 (envM_of hL hsh)).mono fun e W' ⟨he, hbl⟩ => ?_
  subst he
  exact ⟨_, rfl, law_post (s := Rows.modeLettersSpec) rfl rfl (by kernel_rfl) hW' rfl rfl rfl hbl⟩

theorem modeLetters_row : Rows.ModeLettersUptoSaid :=
  OpenClaim.holds_of_cond 9 Tryd.f9 rfl rfl rfl rfl rfl rfl rfl ⟨rfl, rfl, rfl, rfl, rfl⟩ rfl rfl rfl rfl rfl (by kernel_rfl) Tryd.func9 (by kernel_rfl)
    (of_decide_eq_true (by kernel_rfl)) (by unfold Func.isWrapper; first | (rw [if_pos (by decide +kernel)]; kernel_rfl) | (rw [if_neg (by decide +kernel)]; exact ⟨rfl, rfl⟩))
    (fun os started H enc _ F => by rw [OpenClaim.pre_eq_preRow]; exact modeLetters_lifted os started H enc F)
theorem modeLetters_holds : Rows.ModeLettersUptoCardSaid :=
  Claim7.holds_tied_plain_at .later [] [.data, .data, .pinned] true Rows.modeLettersUptoCard.stood.harness false modeLetters_row (fun _ h => by cases h) (by kernel_rfl) (fun _ h => by cases h) modeLettersUpto_row_tie rfl ⟨rfl, rfl⟩ (by kernel_rfl) rfl
    (fun f fn hf hfn => by
      obtain rfl : f = 9 := Option.some.inj ((show Tryd.prog.funcNamed Rows.modeLettersUptoRow.func = some 9 by kernel_rfl).symm.trans hf) |>.symm
      obtain rfl : fn = Tryd.f9 := (Option.some.inj (Tryd.func9.symm.trans hfn)).symm
      exact ⟨by kernel_rfl, fun j t ht => by
        have hpar : Tryd.f9.params = #[22] := by kernel_rfl
        rw [hpar] at ht
        have hm : t ∈ [22] := by simpa using Array.mem_of_getElem? ht
        have hall : ([22].all fun u => !Tryd.prog.wantsStandIn u) = true := by kernel_rfl
        exact (show Tryd.prog.wantsStandIn t = false by simpa using List.all_eq_true.1 hall t hm)⟩)
    (by kernel_rfl)
#print axioms modeLetters_holds
end Go.Proofs.YthhiillmodacmaaDoor
