/- What keys.Valid and keys.Under compute. -/
import Derived.Test.YtbdiimldociobaaDoorKeysR
namespace Go.Proofs.YtbdiimldociobaaDoor
open Go.RowKit Go.Lib Go.Shelf Hk
set_option linter.unusedSimpArgs false
set_option linter.unusedVariables false
set_option maxRecDepth 100000

set_option maxHeartbeats 400000 in
theorem valid_calls (s : ByteArray) (w : World) (hs : s.size < 4294967281) (he : Env w) : Calls Tryd.prog 16 #[.string s] w fun e w' => e = .returned (.bool (kparse s.data.toList).isSome) ∧ Below w.heap.size w w' := by
  have CP := Lib.hid (parse_calls s w hs he)
  clear he
  cases hp : kparse s.data.toList with
  | none =>
    rw [ParsePost_none hp] at CP
    clear hp
    go_enter Tryd.func16, Tryd.ntmps16
    go_wp2_with fail
    refine CP.out.mono ?_
    rintro e w1 ⟨rfl, hb1⟩
    go_wp2_with fail
    go_ret
    exact ⟨rfl, hb1⟩
  | some x =>
    obtain ⟨k, a, b⟩ := x
    rw [ParsePost_some hp] at CP
    clear hp
    go_enter Tryd.func16, Tryd.ntmps16
    go_wp2_with fail
    refine CP.out.mono ?_
    rintro e w1 ⟨rfl, hb1⟩
    go_wp2_with fail
    go_ret
    exact ⟨rfl, hb1⟩

/-- keys.Under, plainly. -/
def kunder (l q : List UInt8) : Bool := match kparse l with
  | none => false
  | some (k, a, _) => (k == 1) && Lib.hasPrefix a q

set_option maxHeartbeats 1000000 in
theorem under_calls (s q : ByteArray) (w : World) (hs : s.size < 4294967281) (he : Env w) : Calls Tryd.prog 17 #[.string s, .string q] w fun e w' => e = .returned (.bool (kunder s.data.toList q.data.toList)) ∧ Below w.heap.size w w' := by
  have CP := Lib.hid (parse_calls s w hs he)
  clear he
  cases hp : kparse s.data.toList with
  | none =>
    have HU : Hid (kunder s.data.toList q.data.toList = false) := by show _ = _; unfold kunder; rw [hp]
    rw [ParsePost_none hp] at CP
    clear hp
    go_enter Tryd.func17, Tryd.ntmps17
    go_wp2_with fail
    refine CP.out.mono ?_
    rintro e w1 ⟨rfl, hb1⟩
    go_wp2_with fail
    go_ret
    exact ⟨by rw [HU.out]; rfl, hb1⟩
  | some x =>
    obtain ⟨k, a, b⟩ := x
    have HU : Hid (kunder s.data.toList q.data.toList = ((k == 1) && Lib.hasPrefix a q.data.toList)) := by show _ = _; unfold kunder; rw [hp]
    rw [ParsePost_some hp] at CP
    have CH := Lib.hid fun W => Tryd.strings_HasPrefix ⟨a.toArray⟩ q W
    clear hp
    by_cases hk : k = 1
    · subst hk
      go_enter Tryd.func17, Tryd.ntmps17
      go_wp2_with fail
      refine CP.out.mono ?_
      rintro e w1 ⟨rfl, hb1⟩
      go_wp2_with fail
      refine (CH.out _).mono ?_
      rintro e w2 ⟨rfl, rfl⟩
      go_wp2_with fail
      go_ret
      exact ⟨by rw [HU.out]; rfl, hb1⟩
    · have h1 : (k == 1) = false := by simpa using hk
      rw [h1] at HU
      go_enter Tryd.func17, Tryd.ntmps17
      go_wp2_with fail
      refine CP.out.mono ?_
      rintro e w1 ⟨rfl, hb1⟩
      go_wp2_with fail
      go_ret
      exact ⟨by rw [HU.out]; rfl, hb1⟩
end Go.Proofs.YtbdiimldociobaaDoor
