/- What keys.Make and henkanref30.Make compute. -/
import Derived.Test.YtleflnbcgkfojaaDoorKeysW
namespace Go.Proofs.YtleflnbcgkfojaaDoor
open Go.RowKit Go.Lib Go.Shelf Hk
set_option linter.unusedSimpArgs false
set_option linter.unusedVariables false
set_option maxRecDepth 100000

theorem kmk_kind (k : Int) (a b : List UInt8) (h : k ≠ 1 ∧ k ≠ 2) : kmk k a b = none := by
  unfold kmk
  rw [if_neg (fun hh => by have := hh.1; omega)]
theorem kmk_a (k : Int) (a b : List UInt8) (h : kpart a = false) : kmk k a b = none := by
  unfold kmk
  rw [if_neg (fun hh => by rw [h] at hh; simp at hh)]
theorem kmk_b (k : Int) (a b : List UInt8) (h : kpart b = false) : kmk k a b = none := by
  unfold kmk
  rw [if_neg (fun hh => by rw [h] at hh; simp at hh)]
theorem kmk_long (k : Int) (a b : List UInt8) (h : 398 < a.length + b.length) : kmk k a b = none := by
  unfold kmk
  rw [if_neg (fun hh => by have := hh.2.2.2; omega)]
theorem kmk_yes (k : Int) (a b : List UInt8) (hk : k = 1 ∨ k = 2) (ha : kpart a = true) (hb : kpart b = true) (h : a.length + b.length ≤ 398) : kmk k a b = some ((48 + k).toNat.toUInt8 :: (a ++ 0 :: b)) := by
  unfold kmk
  rw [if_pos ⟨hk, ha, hb, h⟩]

/-- The string of a key, or the empty one. -/
def keyStr (o : Option (List UInt8)) : ByteArray := ⟨(o.getD []).toArray⟩

def MakePost (k : Int) (a b : ByteArray) (w : World) (e : Ending) (w' : World) : Prop :=
  e = .returned (.tuple #[.string (keyStr (kmk k a.data.toList b.data.toList)), .bool (kmk k a.data.toList b.data.toList).isSome]) ∧ Below w.heap.size w w'

theorem make_no {k : Int} {a b : ByteArray} {w w' : World} (h : kmk k a.data.toList b.data.toList = none) (hb : Below w.heap.size w w') : MakePost k a b w (.returned (.tuple #[.string ⟨#[]⟩, .bool false])) w' := by
  unfold MakePost
  rw [h]
  exact ⟨rfl, hb⟩

theorem make_yes {k : Int} {a b c : ByteArray} {w w' : World} {l : List UInt8} (h : kmk k a.data.toList b.data.toList = some l) (hc : c.data.toList = l) (hb : Below w.heap.size w w') : MakePost k a b w (.returned (.tuple #[.string c, .bool true])) w' := by
  unfold MakePost
  rw [h]
  refine ⟨?_, hb⟩
  have : c = keyStr (some l) := by
    subst hc
    simp [keyStr]
  rw [← this]
  rfl

set_option maxHeartbeats 1000000 in
theorem make_calls (k : Int) (a b : ByteArray) (w : World) (ha : a.size ≤ 4611686018427387903) (hb : b.size ≤ 4611686018427387903) (he : Env w) :
    Calls Tryd.prog 28 #[.int .i64 k, .string a, .string b] w (MakePost k a b w) := by
  have HE := Lib.hid he
  clear he
  by_cases hk : k = 1 ∨ k = 2
  · cases hpa : kpart a.data.toList with
    | false =>
      have HN := Lib.hid (kmk_a k _ b.data.toList hpa)
      have cA := isPart_calls a w (by omega) HE.out
      rw [hpa] at cA
      have CA := Lib.hid cA
      clear cA hpa
      rcases hk with rfl | rfl
      all_goals
        go_enter Tryd.func28, Tryd.ntmps28
        go_wp2_with fail
        refine CA.out.mono ?_
        rintro e w1 ⟨rfl, hb1⟩
        go_wp2_with fail
        go_ret2
        exact make_no HN.out hb1
    | true =>
      have cA := isPart_calls a w (by omega) HE.out
      rw [hpa] at cA
      have CA := Lib.hid cA
      clear cA
      cases hpb : kpart b.data.toList with
      | false =>
        have HN := Lib.hid (kmk_b k a.data.toList _ hpb)
        have cB := fun W (hW : Env W) => isPart_calls b W (by omega) hW
        simp only [hpb] at cB
        have CB := Lib.hid cB
        clear cB hpa hpb
        rcases hk with rfl | rfl
        all_goals
          go_enter Tryd.func28, Tryd.ntmps28
          go_wp2_with fail
          refine CA.out.mono ?_
          rintro e w1 ⟨rfl, hb1⟩
          go_wp2_with fail
          refine (CB.out _ (HE.out.below hb1)).mono ?_
          rintro e w2 ⟨rfl, hb2⟩
          go_wp2_with fail
          go_ret2
          exact make_no HN.out (qtrans hb1 hb2)
      | true =>
        have cB := fun W (hW : Env W) => isPart_calls b W (by omega) hW
        simp only [hpb] at cB
        have CB := Lib.hid cB
        clear cB
        by_cases hlen : 398 < a.data.toList.length + b.data.toList.length
        · have HN := Lib.hid (kmk_long k _ _ hlen)
          have hlen2 : 398 < a.size + b.size := by simpa using hlen
          have hlen3 : 398 < (a.size : Int) + (b.size : Int) := by omega
          clear hpa hpb hlen
          rcases hk with rfl | rfl
          all_goals
            go_enter Tryd.func28, Tryd.ntmps28
            go_wp2_with fail
            refine CA.out.mono ?_
            rintro e w1 ⟨rfl, hb1⟩
            go_wp2_with fail
            refine (CB.out _ (HE.out.below hb1)).mono ?_
            rintro e w2 ⟨rfl, hb2⟩
            go_wp2_with fail
            go_ret2
            exact make_no HN.out (qtrans hb1 hb2)
        · have HY := Lib.hid (kmk_yes k _ _ hk hpa hpb (by omega))
          have hlen2 : ¬ 398 < a.size + b.size := by simpa using hlen
          have hlen3 : ¬ 398 < (a.size : Int) + (b.size : Int) := by omega
          clear hpa hpb hlen
          have e49 : Utf8.encode 49 = ⟨#[49]⟩ := by decide +kernel
          have e50 : Utf8.encode 50 = ⟨#[50]⟩ := by decide +kernel
          have z1 : ∀ c : UInt8, (⟨#[c]⟩ : ByteArray).size = 1 := fun _ => rfl
          rcases hk with rfl | rfl
          all_goals
            go_enter Tryd.func28, Tryd.ntmps28
            go_wp2_with fail
            refine CA.out.mono ?_
            rintro e w1 ⟨rfl, hb1⟩
            go_wp2_with fail
            refine (CB.out _ (HE.out.below hb1)).mono ?_
            rintro e w2 ⟨rfl, hb2⟩
            go_wp2_with fail
            go_ret2
            exact make_yes HY.out (by simp [Go.Joins.data_append]) (qtrans hb1 hb2)
  · have HN := Lib.hid (kmk_kind k a.data.toList b.data.toList (by omega))
    have h1 : (k == 1) = false := by simp; omega
    have h2 : (k == 2) = false := by simp; omega
    have h3 : (k != 1) = true := by simp; omega
    have h4 : (k != 2) = true := by simp; omega
    clear hk
    go_enter Tryd.func28, Tryd.ntmps28
    go_wp2_with fail
    go_ret2
    exact make_no HN.out (Below.refl _ _)

theorem MakePost_some {k : Int} {a b : ByteArray} {l : List UInt8} {w : World} (h : kmk k a.data.toList b.data.toList = some l) : MakePost k a b w = fun e w' => e = .returned (.tuple #[.string ⟨l.toArray⟩, .bool true]) ∧ Below w.heap.size w w' := by
  funext e w'
  unfold MakePost
  rw [h]
  rfl
theorem MakePost_none {k : Int} {a b : ByteArray} {w : World} (h : kmk k a.data.toList b.data.toList = none) : MakePost k a b w = fun e w' => e = .returned (.tuple #[.string ⟨#[]⟩, .bool false]) ∧ Below w.heap.size w w' := by
  funext e w'
  unfold MakePost
  rw [h]
  rfl
end Go.Proofs.YtleflnbcgkfojaaDoor
