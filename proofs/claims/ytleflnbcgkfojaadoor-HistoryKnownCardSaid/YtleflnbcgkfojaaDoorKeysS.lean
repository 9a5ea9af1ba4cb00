/- What henkanref30.Parse, Begins and Under compute. -/
import Derived.Test.YtleflnbcgkfojaaDoorKeysQ
namespace Go.Proofs.YtleflnbcgkfojaaDoor
open Go.RowKit Go.Lib Go.Shelf Hk
set_option linter.unusedSimpArgs false
set_option linter.unusedVariables false
set_option maxRecDepth 100000

/-- No key's first string ends before place k. -/
def NotBefore (l : List UInt8) (k : Nat) : Prop := ∀ kind a b, kparse l = some (kind, a, b) → k ≤ 1 + a.length

theorem kparse_shape {l : List UInt8} {kind : Int} {a b : List UInt8} (h : kparse l = some (kind, a, b)) : l = (48 + kind).toNat.toUInt8 :: (a ++ 0 :: b) ∧ (kind = 1 ∨ kind = 2) := by
  obtain ⟨h1, _, _, _, h2⟩ := kmk_some ((kparse_iff l kind a b).1 h)
  exact ⟨h2, h1⟩
theorem notBefore_end {l : List UInt8} {k : Nat} (h : NotBefore l k) (hk : l.length ≤ k) : kparse l = none := by
  cases hp : kparse l with
  | none => rfl
  | some x =>
    obtain ⟨kind, a, b⟩ := x
    have h1 := h kind a b hp
    have h2 := congrArg List.length (kparse_shape hp).1
    simp at h2
    omega
theorem notBefore_nz {l : List UInt8} {k : Nat} (h : NotBefore l k) {c : UInt8} (hc : l[k]? = some c) (hz : c ≠ 0) : NotBefore l (k + 1) := by
  intro kind a b hp
  have h1 := h kind a b hp
  by_cases e : k = 1 + a.length
  · exfalso
    rw [(kparse_shape hp).1, e, Nat.add_comm, List.getElem?_cons_succ] at hc
    simp at hc
    exact hz hc.symm
  · omega
theorem split_at {l : List UInt8} {k : Nat} {c : UInt8} {r : List UInt8} (hl : l = c :: r) (h1 : 1 ≤ k) (hk : l[k]? = some 0) : l = c :: ((l.take k).drop 1 ++ 0 :: l.drop (k + 1)) := by
  obtain ⟨n, rfl⟩ : ∃ n, k = n + 1 := ⟨k - 1, by omega⟩
  subst hl
  simp only [List.take_succ_cons, List.drop_succ_cons, List.drop_zero, List.getElem?_cons_succ] at *
  congr 1
  have hlt := (List.getElem?_eq_some_iff.1 hk).1
  have hge := (List.getElem?_eq_some_iff.1 hk).2
  rw [← hge, ← List.drop_eq_getElem_cons hlt, List.take_append_drop]
theorem notBefore_no {l : List UInt8} {k : Nat} (h : NotBefore l k) {c : UInt8} {r : List UInt8} (hl : l = c :: r) (hn : kmk ((c.toNat : Int) - 48) ((l.take k).drop 1) (l.drop (k + 1)) = none) : NotBefore l (k + 1) := by
  intro kind a b hp
  have h1 := h kind a b hp
  by_cases e : k = 1 + a.length
  · exfalso
    obtain ⟨h2, h3⟩ := kparse_shape hp
    have hm := (kparse_iff l kind a b).1 hp
    have hc : c = (48 + kind).toNat.toUInt8 := by rw [hl] at h2; exact (List.cons.inj h2).1
    have ea : (l.take k).drop 1 = a := by rw [h2, e, Nat.add_comm 1]; simp
    have eb : l.drop (k + 1) = b := by rw [h2, e, Nat.add_comm 1]; simp [List.drop_append]
    rw [ea, eb, hc, byte_kind kind h3, hm] at hn
    cases hn
  · omega
theorem found_at {l : List UInt8} {k : Nat} {c : UInt8} {r m : List UInt8} (hl : l = c :: r) (h1 : 1 ≤ k) (hk : l[k]? = some 0) (hm : kmk ((c.toNat : Int) - 48) ((l.take k).drop 1) (l.drop (k + 1)) = some m) :
    m = l ∧ kparse l = some ((c.toNat : Int) - 48, (l.take k).drop 1, l.drop (k + 1)) := by
  obtain ⟨h2, _, _, _, h3⟩ := kmk_some hm
  have e : m = l := by rw [h3, kind_byte c h2, ← split_at hl h1 hk]
  exact ⟨e, (kparse_iff _ _ _ _).2 (by rw [hm, e])⟩

theorem extract_list (s : ByteArray) (i j : Nat) : (s.extract i j).data.toList = (s.data.toList.take j).drop i := by
  rw [Lib.extract_data, List.drop_take]

theorem below_draws {w wr w1 : World} {q : Nat} (h : Below w.heap.size w wr) (k : Below (wr.drewN q).heap.size (wr.drewN q) w1) : Below w.heap.size w w1 := qtrans (qtrans h (below_drewN q)) k

set_option maxHeartbeats 2000000 in
theorem refParse_calls (s : ByteArray) (w : World) (hs : s.size ≤ 35184372088830) : Calls Tryd.prog 31 #[.string s] w (ParsePost s w) := by
  go_enter Tryd.func31, Tryd.ntmps31
  go_wp2
  go_loopw [6] (fun i wr => ∃ k : Nat, (1 ≤ k ∧ k ≤ s.size + 1) ∧ i = .int .i64 k ∧ NotBefore s.data.toList k ∧ Below w.heap.size w wr) (fun i _ => s.size + 1 - (intOf i).toNat)
  case atStart => exact ⟨1, by omega, rfl, fun _ _ _ _ => by omega, Below.refl _ _⟩
  case round =>
    obtain ⟨k, ⟨hk1, hk2⟩, rfl, hnb, hbw⟩ := hrel
    by_cases hlt : k < s.size
    · obtain ⟨c, r, hl⟩ : ∃ c r, s.data.toList = c :: r := by
        cases hl : s.data.toList with
        | nil =>
          exfalso
          have h2 : s.size = s.data.toList.length := by simp
          rw [hl] at h2
          have h3 : s.size = 0 := h2
          omega
        | cons c r => exact ⟨c, r, rfl⟩
      have HL := Lib.hid hl
      clear hl
      have hpos : 0 < s.size := by omega
      have hc : s[0].toNat = c.toNat := by
        rw [← get_of_lt s 0 hpos]
        have := get_list s 0 hpos
        rw [HL.out] at this
        rw [← Option.some.inj this]
      obtain ⟨n, hn⟩ : ∃ n : Nat, c.toNat = n := ⟨_, rfl⟩
      have h256 : n < 256 := by rw [← hn]; exact UInt8.toNat_lt _
      obtain ⟨b, hb⟩ : ∃ b : Nat, (s.get! k).toNat = b := ⟨_, rfl⟩
      have hsk : s[k].toNat = b := by rw [← hb, get_of_lt s k hlt]
      have HB := Lib.hid hb
      have HN := Lib.hid hn
      rw [hn] at hc
      clear hb hn
      have hk0 : (0 : Int) < k := by omega
      have q1 : IntKind.i64.wrap ((k : Int) + 1) = (k : Int) + 1 := IntWalk.i64_in _ (by omega)
      have q2 : (0 : Int) ≤ (k : Int) + 1 := by omega
      have q3 : ((k : Int) + 1).toNat = k + 1 := by omega
      have q4 : IntKind.i64.wrap (n : Int) = (n : Int) := IntWalk.i64_in _ (by omega)
      have q5 : IntKind.i64.wrap ((n : Int) - 48) = (n : Int) - 48 := IntWalk.i64_in _ (by omega)
      have hgk := get_list s k hlt
      have HG := Lib.hid hgk
      clear hgk
      by_cases hb0 : b = 0
      · have hz1 : ((b : Int) == 0) = true := by simp [hb0]
        have hz2 : ((b : Int) != 0) = false := by simp [hb0]
        have HZ : Hid (s.data.toList[k]? = some 0) := by
          show _ = _
          rw [HG.out]
          congr 1
          exact UInt8.toNat_inj.1 (HB.out.trans hb0)
        clear hb0
        obtain ⟨A, hA⟩ : ∃ A, s.extract 1 k = A := ⟨_, rfl⟩
        obtain ⟨B, hB⟩ : ∃ B, s.extract (k + 1) s.size = B := ⟨_, rfl⟩
        have eA : A.data.toList = (s.data.toList.take k).drop 1 := by rw [← hA, extract_list]
        have eB : B.data.toList = s.data.toList.drop (k + 1) := by rw [← hB, Lib.extract_to_end]
        have sA : A.size ≤ s.size := by
          have h2 : A.size = A.data.toList.length := by simp
          have h3 : s.size = s.data.toList.length := by simp
          rw [h2, eA, h3]; simp only [List.length_drop, List.length_take]; omega
        have sB : B.size ≤ s.size := by
          have h2 : B.size = B.data.toList.length := by simp
          have h3 : s.size = s.data.toList.length := by simp
          rw [h2, eB, h3]; simp only [List.length_drop]; omega
        have CM := Lib.hid fun W => refMake_calls ((n : Int) - 48) A B W (by omega) (by omega)
        cases hm : kmk ((n : Int) - 48) A.data.toList B.data.toList with
        | none =>
          have HX : Hid (NotBefore s.data.toList (k + 1)) := notBefore_no hnb HL.out (by rw [HN.out, ← eA, ← eB]; exact hm)
          have HM := Lib.hid hm
          clear hm eA eB sA sB
          go_wp2_with fail
          go_quiet (fail)
          clear q1 q2 q3 q4 q5
          go_wp2_with fail
          refine (CM.out _).mono ?_
          rintro e w1 ⟨he1, hb1⟩
          rw [HM.out] at he1
          subst he1
          have hb2 := below_draws hbw hb1
          clear hb1 hbw
          go_wp2_with fail
          go_roundw
          case rel => exact ⟨k + 1, by omega, by go_num, HX.out, hb2⟩
          case measure => simp [intOf]; omega
        | some m =>
          have hf := found_at HL.out hk1 HZ.out (by rw [HN.out, ← eA, ← eB]; exact hm)
          have HF : Hid (kparse s.data.toList = some ((n : Int) - 48, A.data.toList, B.data.toList)) := by
            show _ = _
            rw [hf.2, HN.out, ← eA, ← eB]
          have hms : keyStr (some m) = s := by rw [hf.1]; simp [keyStr]
          have HM := Lib.hid hm
          have HS := Lib.hid hms
          clear hm eA eB sA sB hf hms
          go_wp2_with fail
          go_quiet (fail)
          clear q1 q2 q3 q4 q5
          go_wp2_with fail
          refine (CM.out _).mono ?_
          rintro e w1 ⟨he1, hb1⟩
          rw [HM.out, HS.out] at he1
          subst he1
          have hb2 := below_draws hbw hb1
          clear hb1 hbw
          go_wp2_with fail
          try simp only [Exit.inBlock, Exit.then]
          refine bodyPost_ret (results_tmp4 rfl _ _ _) rfl ?_
          exact parse_ret HF.out rfl hb2
      · have hz1 : ((b : Int) == 0) = false := by simp [hb0]
        have hz2 : ((b : Int) != 0) = true := by simp [hb0]
        have HX : Hid (NotBefore s.data.toList (k + 1)) := notBefore_nz hnb HG.out (fun e => hb0 (by rw [← HB.out, e]; rfl))
        go_wp2_with fail
        go_quiet (fail)
        clear q1 q2 q3 q4 q5
        go_wp2_with fail
        go_roundw
        case rel => exact ⟨k + 1, by omega, by go_num, HX.out, hbw.trans (below_drewN _)⟩
        case measure => simp [intOf]; omega
    · have h3 : s.size = s.data.toList.length := by simp
      have HX : Hid (kparse s.data.toList = none) := notBefore_end hnb (by omega)
      clear h3
      go_wp2_with fail
      try simp only [Exit.inBlock, Exit.then]
      refine bodyPost_ret (results_tmp4 rfl _ _ _) rfl ?_
      exact parse_ret HX.out rfl hbw
end Go.Proofs.YtleflnbcgkfojaaDoor
