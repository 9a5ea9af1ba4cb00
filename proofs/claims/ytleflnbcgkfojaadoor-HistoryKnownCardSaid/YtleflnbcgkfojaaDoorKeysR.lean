/- What keys.Parse computes. -/
import Derived.Test.YtleflnbcgkfojaaDoorKeysM
namespace Go.Proofs.YtleflnbcgkfojaaDoor
open Go.RowKit Go.Lib Go.Shelf Hk
set_option linter.unusedSimpArgs false
set_option linter.unusedVariables false
set_option maxRecDepth 100000

theorem results_tmp4 {fn : Func} {t u v x : Tmp} (h : fn.results = #[.tmp t, .tmp u, .tmp v, .tmp x]) (tmps : Array Value) (P : Program) (w : World) :
    (results fn tmps).run P w = .ok (.tuple #[tmps.getD t undef, tmps.getD u undef, tmps.getD v undef, tmps.getD x undef]) w := by
  simp [results, h]

/-- What a Parse returns. -/
def parseVal (o : Option (Int × List UInt8 × List UInt8)) : Value :=
  match o with
  | none => .tuple #[.int .i64 0, .string ⟨#[]⟩, .string ⟨#[]⟩, .bool false]
  | some (k, a, b) => .tuple #[.int .i64 k, .string ⟨a.toArray⟩, .string ⟨b.toArray⟩, .bool true]
def ParsePost (s : ByteArray) (w : World) (e : Ending) (w' : World) : Prop := e = .returned (parseVal (kparse s.data.toList)) ∧ Below w.heap.size w w'

theorem parse_ret {s : ByteArray} {w w' : World} {o : Option (Int × List UInt8 × List UInt8)} {v : Value} (h : kparse s.data.toList = o) (hv : v = parseVal o) (hb : Below w.heap.size w w') : ParsePost s w (.returned v) w' := by
  unfold ParsePost
  rw [h, hv]
  exact ⟨rfl, hb⟩

theorem cutAB_len (l : List UInt8) : (cutA l).length ≤ l.length ∧ (cutB l).length ≤ l.length := by
  rcases index_zero l with ⟨_, h2, h3, _⟩ | ⟨n, _, h2, h3, _⟩
  · rw [h2, h3]; simp
  · rw [h2, h3]; simp; omega
theorem below_drewN {w : World} {B : Nat} (q : Nat) : Below B w (w.drewN q) := by
  induction q with
  | zero => exact Below.refl _ _
  | succ q ih => exact ih.drew

theorem cut_calls (s t : ByteArray) (r : List UInt8) (hr : t.data.toList = r) (w : World) (hs : t.size < 4294967281) (he : Env w) :
    Calls Tryd.prog 32 #[.string t, .string ⟨#[0]⟩] w fun e w' => (∃ x, e = .returned (.tuple #[.string ⟨(cutA r).toArray⟩, .string ⟨(cutB r).toArray⟩, .bool x])) ∧ Below w.heap.size w w' := by
  obtain ⟨m, hm⟩ := he.2
  refine (Tryd.strings_Cut t ⟨#[0]⟩ m w hs hm).mono ?_
  rintro e w' ⟨rfl, hw⟩
  have h0 : (⟨#[0]⟩ : ByteArray).data.toList = [0] := rfl
  rw [hr, h0, (cut_zero r).1, (cut_zero r).2]
  refine ⟨⟨_, rfl⟩, ?_⟩
  first
    | (obtain ⟨q, rfl⟩ := hw; exact below_drewN q)
    | (obtain rfl := hw; exact Below.refl _ _)

set_option maxHeartbeats 1000000 in
theorem parse_calls (s : ByteArray) (w : World) (hs : s.size < 4294967281) (he : Env w) : Calls Tryd.prog 19 #[.string s] w (ParsePost s w) := by
  have HE := Lib.hid he
  clear he
  cases hl : s.data.toList with
  | nil =>
    have HN : Hid (kparse s.data.toList = none) := by show _ = _; rw [hl]; rfl
    have h0 : s.toList = [] := by rw [ByteArray.toList_eq]; exact hl
    have h1 : s.toList.isEmpty = true := by rw [h0]; rfl
    clear hl
    go_enter Tryd.func19, Tryd.ntmps19
    go_wp2_with fail
    try simp only [Exit.inBlock, Exit.then]
    refine bodyPost_ret (results_tmp4 rfl _ _ _) rfl ?_
    exact parse_ret HN.out rfl (Below.refl _ _)
  | cons c r =>
    have h0 : ¬ s.toList = [] := by rw [ByteArray.toList_eq, hl]; simp
    have h1 : s.toList.isEmpty = false := by rw [ByteArray.toList_eq, hl]; rfl
    have hsz : s.size = r.length + 1 := by
      have : s.size = s.data.toList.length := by simp
      rw [this, hl]; rfl
    have hpos : 0 < s.size := by omega
    have hc : s[0].toNat = c.toNat := by
      rw [← get_of_lt s 0 hpos]
      have : s.get! 0 = s.data[0]! := rfl
      rw [this]
      have h2 : s.data = (c :: r).toArray := by rw [← hl]
      rw [h2]; rfl
    have hr : (s.extract 1 s.size).data.toList = r := by rw [Lib.extract_to_end, hl]; rfl
    have hrs : (s.extract 1 s.size).size = r.length := by rw [show (s.extract 1 s.size).size = (s.extract 1 s.size).data.toList.length by simp, hr]
    have hab := cutAB_len r
    have cC := fun W (hW : Env W) => cut_calls s (s.extract 1 s.size) r hr W (by omega) hW
    have CC := Lib.hid cC
    obtain ⟨A, hA⟩ : ∃ A : ByteArray, A = ⟨(cutA r).toArray⟩ := ⟨_, rfl⟩
    obtain ⟨B, hB⟩ : ∃ B : ByteArray, B = ⟨(cutB r).toArray⟩ := ⟨_, rfl⟩
    have hAl : A.data.toList = cutA r := by rw [hA]
    have hBl : B.data.toList = cutB r := by rw [hB]
    have hAs : A.size ≤ r.length := by rw [show A.size = A.data.toList.length by simp, hAl]; exact hab.1
    have hBs : B.size ≤ r.length := by rw [show B.size = B.data.toList.length by simp, hBl]; exact hab.2
    have hc256 : c.toNat < 256 := UInt8.toNat_lt _
    have cM := fun W (hW : Env W) => make_calls ((c.toNat : Int) - 48) A B W (by omega) (by omega) hW
    rw [← hA, ← hB] at CC
    have CM := Lib.hid cM
    have HP : Hid (kparse s.data.toList = if (kmk ((c.toNat : Int) - 48) A.data.toList B.data.toList).isSome = true then some ((c.toNat : Int) - 48, A.data.toList, B.data.toList) else none) := by
      show _ = _
      rw [hl, hAl, hBl]; rfl
    clear cC cM hA hB hAl hBl hab hr hrs hl hsz hAs hBs
    generalize hcn : c.toNat = n at *
    clear hcn
    cases hm : kmk ((n : Int) - 48) A.data.toList B.data.toList with
    | none =>
      have HM := Lib.hid hm
      clear hm
      go_enter Tryd.func19, Tryd.ntmps19
      go_wp2_with fail
      refine (CC.out _ HE.out).mono ?_
      rintro e w1 ⟨⟨x, rfl⟩, hb1⟩
      go_wp2_with fail
      refine (CM.out _ (HE.out.below hb1)).mono ?_
      rintro e w2 ⟨he2, hb2⟩
      rw [HM.out] at he2
      subst he2
      go_wp2_with fail
      try simp only [Exit.inBlock, Exit.then]
      refine bodyPost_ret (results_tmp4 rfl _ _ _) rfl ?_
      exact parse_ret (o := none) (by rw [HP.out, HM.out]; rfl) rfl (qtrans hb1 hb2)
    | some k =>
      have HM := Lib.hid hm
      clear hm
      go_enter Tryd.func19, Tryd.ntmps19
      go_wp2_with fail
      refine (CC.out _ HE.out).mono ?_
      rintro e w1 ⟨⟨x, rfl⟩, hb1⟩
      go_wp2_with fail
      refine (CM.out _ (HE.out.below hb1)).mono ?_
      rintro e w2 ⟨he2, hb2⟩
      rw [HM.out] at he2
      subst he2
      go_wp2_with fail
      try simp only [Exit.inBlock, Exit.then]
      refine bodyPost_ret (results_tmp4 rfl _ _ _) rfl ?_
      exact parse_ret (o := some ((n : Int) - 48, A.data.toList, B.data.toList)) (by rw [HP.out, HM.out]; rfl) rfl (qtrans hb1 hb2)

theorem ParsePost_none {s : ByteArray} {w : World} (h : kparse s.data.toList = none) : ParsePost s w = fun e w' => e = .returned (.tuple #[.int .i64 0, .string ⟨#[]⟩, .string ⟨#[]⟩, .bool false]) ∧ Below w.heap.size w w' := by
  funext e w'
  unfold ParsePost
  rw [h]
  rfl
theorem ParsePost_some {s : ByteArray} {w : World} {k : Int} {a b : List UInt8} (h : kparse s.data.toList = some (k, a, b)) : ParsePost s w = fun e w' => e = .returned (.tuple #[.int .i64 k, .string ⟨a.toArray⟩, .string ⟨b.toArray⟩, .bool true]) ∧ Below w.heap.size w w' := by
  funext e w'
  unfold ParsePost
  rw [h]
  rfl

end Go.Proofs.YtleflnbcgkfojaaDoor
