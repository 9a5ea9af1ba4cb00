/- What henkanlaw30.KeysBetween computes. -/
import Derived.Test.YtbdiimldociobaaDoorKeysBetA
namespace Go.Proofs.YtbdiimldociobaaDoor
open Go.RowKit Go.Lib Go.Shelf Hk
set_option linter.unusedSimpArgs false
set_option linter.unusedVariables false
set_option maxRecDepth 100000

def MakeAny (w : World) (e : Ending) (w' : World) : Prop := ∃ (S : ByteArray) (x : Bool), S.size ≤ 400 ∧ e = .returned (.tuple #[.string S, .bool x]) ∧ Below w.heap.size w w'
theorem make_any (k : Int) (a b : ByteArray) (w : World) (ha : a.size ≤ 4611686018427387903) (hb : b.size ≤ 4611686018427387903) (he : Env w) : Calls Tryd.prog 11 #[.int .i64 k, .string a, .string b] w (MakeAny w) := by
  refine (make_calls k a b w ha hb he).mono ?_
  rintro e w' ⟨rfl, hb⟩
  refine ⟨_, _, ?_, rfl, hb⟩
  cases h : kmk k a.data.toList b.data.toList with
  | none => decide
  | some l =>
    obtain ⟨_, _, _, hl, rfl⟩ := kmk_some h
    show (List.toArray _).size ≤ 400
    rw [List.size_toArray]
    simp only [Option.getD_some, List.length_cons, List.length_append]
    omega

def Str3 (w : World) (g : Nat) (A B C : ByteArray) : Prop :=
  w.cell? ⟨g, 0, none⟩ = some (.string A) ∧ w.cell? ⟨g, 1, none⟩ = some (.string B) ∧ w.cell? ⟨g, 2, none⟩ = some (.string C)
def Free3 (w : World) (g : Nat) : Prop := w.frozen? ⟨g, 0, none⟩ = false ∧ w.frozen? ⟨g, 1, none⟩ = false ∧ w.frozen? ⟨g, 2, none⟩ = false

def BetAt (w : World) (A B C D : ByteArray) (i : Value) (wr : World) : Prop :=
  ∃ (n : Nat) (S0 S1 S2 : ByteArray), n ≤ 3 ∧ i = .int .i64 (n : Int) ∧ Below w.heap.size w wr ∧ w.heap.size + 2 < wr.heap.size ∧
    (wr.cell? ⟨w.heap.size, 0, none⟩ = some (.string A) ∧ wr.cell? ⟨w.heap.size, 1, none⟩ = some (.string B) ∧ wr.cell? ⟨w.heap.size, 2, none⟩ = some (.string C) ∧ wr.cell? ⟨w.heap.size, 3, none⟩ = some (.string D)) ∧
    Str3 wr (w.heap.size + 1) A B C ∧ Str3 wr (w.heap.size + 1 + 1) S0 S1 S2 ∧ Free3 wr (w.heap.size + 1 + 1) ∧ (S0.size ≤ 400 ∧ S1.size ≤ 400 ∧ S2.size ≤ 400)

theorem bet_next {w wr w1 : World} {A B C D S : ByteArray} (n : Nat) (hn : n < 3) (h : BetAt w A B C D (.int .i64 (n : Int)) wr) (hb1 : Below wr.drew.heap.size wr.drew w1) (hSs : S.size ≤ 400) :
    BetAt w A B C D (.int .i64 ((n : Int) + 1)) (w1.setCell ⟨w.heap.size + 1 + 1, n, none⟩ (.string S)) := by
  obtain ⟨n', S0, S1, S2, hn3, e, hbw, hsz, ⟨k0, k1, k2, k3⟩, ⟨l0, l1, l2⟩, ⟨m0, m1, m2⟩, ⟨f0, f1, f2⟩, hS0, hS1, hS2⟩ := h
  obtain rfl : n' = n := by
    have := (Value.int.inj e).2
    omega
  have hbs : Below w.heap.size w (w1.setCell ⟨w.heap.size + 1 + 1, n', none⟩ (.string S)) := (qtrans hbw.drew hb1).setCell (by show w.heap.size ≤ w.heap.size + 1 + 1; omega) _
  have hz1 : w.heap.size + 2 < (w1.setCell ⟨w.heap.size + 1 + 1, n', none⟩ (.string S)).heap.size := by
    have := hb1.size
    have h2 : (w1.setCell ⟨w.heap.size + 1 + 1, n', none⟩ (.string S)).heap.size = w1.heap.size := by simp [World.setCell]
    have h3 : wr.drew.heap.size = wr.heap.size := rfl
    omega
  have oth : ∀ (b o : Nat) (v : Value), (b ≠ w.heap.size + 1 + 1 ∨ o ≠ n') → wr.cell? ⟨b, o, none⟩ = some v → (w1.setCell ⟨w.heap.size + 1 + 1, n', none⟩ (.string S)).cell? ⟨b, o, none⟩ = some v := by
    intro b o v hne hv
    have hne2 : (⟨w.heap.size + 1 + 1, n', none⟩ : Addr) ≠ ⟨b, o, none⟩ := by
      intro e2
      simp only [Addr.mk.injEq, and_true] at e2
      omega
    rw [World.cell?_setCell_other _ _ _ _ hne2]
    exact cell_later (w := wr.drew) hb1 hv
  have fr : ∀ o, wr.frozen? ⟨w.heap.size + 1 + 1, o, none⟩ = false → (w1.setCell ⟨w.heap.size + 1 + 1, n', none⟩ (.string S)).frozen? ⟨w.heap.size + 1 + 1, o, none⟩ = false := by
    intro o ho
    rw [World.frozen?_setCell]
    exact (hb1.frozen (p := ⟨w.heap.size + 1 + 1, o, none⟩) (by show _ < wr.heap.size; omega)).trans ho
  have same : ∀ v, wr.cell? ⟨w.heap.size + 1 + 1, n', none⟩ = some v → (w1.setCell ⟨w.heap.size + 1 + 1, n', none⟩ (.string S)).cell? ⟨w.heap.size + 1 + 1, n', none⟩ = some (.string S) :=
    fun v hv => World.cell?_setCell_same _ _ _ (cell_later (w := wr.drew) hb1 hv)
  have box : (w1.setCell ⟨w.heap.size + 1 + 1, n', none⟩ (.string S)).cell? ⟨w.heap.size, 0, none⟩ = some (.string A) ∧ (w1.setCell ⟨w.heap.size + 1 + 1, n', none⟩ (.string S)).cell? ⟨w.heap.size, 1, none⟩ = some (.string B) ∧ (w1.setCell ⟨w.heap.size + 1 + 1, n', none⟩ (.string S)).cell? ⟨w.heap.size, 2, none⟩ = some (.string C) ∧ (w1.setCell ⟨w.heap.size + 1 + 1, n', none⟩ (.string S)).cell? ⟨w.heap.size, 3, none⟩ = some (.string D) :=
    ⟨oth _ _ _ (.inl (by omega)) k0, oth _ _ _ (.inl (by omega)) k1, oth _ _ _ (.inl (by omega)) k2, oth _ _ _ (.inl (by omega)) k3⟩
  have lst : Str3 (w1.setCell ⟨w.heap.size + 1 + 1, n', none⟩ (.string S)) (w.heap.size + 1) A B C := ⟨oth _ _ _ (.inl (by omega)) l0, oth _ _ _ (.inl (by omega)) l1, oth _ _ _ (.inl (by omega)) l2⟩
  have hcase : n' = 0 ∨ n' = 1 ∨ n' = 2 := by omega
  rcases hcase with rfl | rfl | rfl
  · exact ⟨1, S, S1, S2, by omega, rfl, hbs, hz1, box, lst, ⟨same _ m0, oth _ _ _ (.inr (by omega)) m1, oth _ _ _ (.inr (by omega)) m2⟩, ⟨fr _ f0, fr _ f1, fr _ f2⟩, hSs, hS1, hS2⟩
  · exact ⟨2, S0, S, S2, by omega, rfl, hbs, hz1, box, lst, ⟨oth _ _ _ (.inr (by omega)) m0, same _ m1, oth _ _ _ (.inr (by omega)) m2⟩, ⟨fr _ f0, fr _ f1, fr _ f2⟩, hS0, hSs, hS2⟩
  · exact ⟨3, S0, S1, S, by omega, rfl, hbs, hz1, box, lst, ⟨oth _ _ _ (.inr (by omega)) m0, oth _ _ _ (.inr (by omega)) m1, same _ m2⟩, ⟨fr _ f0, fr _ f1, fr _ f2⟩, hS0, hS1, hSs⟩

set_option maxHeartbeats 8000000 in
theorem keysBetween_calls (A B C D : ByteArray) (w : World) (hA : A.size ≤ 140737488351232) (hB : B.size ≤ 140737488351232) (hC : C.size ≤ 140737488351232) (hD : D.size ≤ 140737488351232) (he : Env w) :
    Calls Tryd.prog 8 #[.agg #[.string A, .string B, .string C, .string D]] w fun e w' => e = .returned (.bool true) ∧ Below w.heap.size w w' := by
  have HE := Lib.hid he
  clear he
  go_enter Tryd.func8, Tryd.ntmps8
  go_wp2_with fail
  go_loopw [5] (fun i wr => BetAt w A B C D i wr) (fun i _ => 3 - (intOf i).toNat)
  case atStart =>
    refine ⟨0, ⟨#[]⟩, ⟨#[]⟩, ⟨#[]⟩, by omega, rfl, (((Below.refl _ _).alloc (Nat.le_refl _) _).alloc (by simp) _).alloc (by simp; omega) _, by simp, ⟨?_, ?_, ?_, ?_⟩, ⟨?_, ?_, ?_⟩, ⟨?_, ?_, ?_⟩, ⟨?_, ?_, ?_⟩, by decide⟩
    all_goals first | go_simp | simp
  case round =>
    obtain ⟨n, S0, S1, S2, hn3, rfl, hbw, hsz, ⟨k0, k1, k2, k3⟩, ⟨l0, l1, l2⟩, ⟨m0, m1, m2⟩, ⟨f0, f1, f2⟩, hS⟩ := hrel
    have hn : n = 0 ∨ n = 1 ∨ n = 2 ∨ n = 3 := by omega
    have HR0 : Hid (BetAt w A B C D (.int .i64 (n : Int)) wr) := ⟨n, S0, S1, S2, hn3, rfl, hbw, hsz, ⟨k0, k1, k2, k3⟩, ⟨l0, l1, l2⟩, ⟨m0, m1, m2⟩, ⟨f0, f1, f2⟩, hS⟩
    rcases hn with rfl | rfl | rfl | rfl
    · have C1 := Lib.hid fun W (hW : Env W) => make_any 1 A B W (by omega) (by omega) hW
      have HR := Lib.hid fun (w1 : World) (S : ByteArray) => @bet_next w wr w1 A B C D S 0 (by omega) HR0.out
      go_wp2_with fail
      go_region_with (go_at_call 11; refine (C1.out _ (HE.out.below (by exact hbw.drew))).mono ?_; rintro e w1 ⟨S, x, hSs, rfl, hb1⟩; have m' := cell_later (w := wr.drew) hb1 m0; have f' : w1.frozen? ⟨w.heap.size + 1 + 1, 0, none⟩ = false := (hb1.frozen (p := ⟨w.heap.size + 1 + 1, 0, none⟩) (by show _ < wr.heap.size; omega)).trans f0; have l' := cell_later (w := wr.drew) hb1 l0; have l'' := cell_later (w := wr.drew) hb1 l1)
      all_goals
        go_wp2_with fail
        go_roundw
        case rel => exact HR.out _ _ hb1 hSs
        case measure => simp [intOf]
    · have C1 := Lib.hid fun W (hW : Env W) => make_any 1 B C W (by omega) (by omega) hW
      have HR := Lib.hid fun (w1 : World) (S : ByteArray) => @bet_next w wr w1 A B C D S 1 (by omega) HR0.out
      go_wp2_with fail
      go_region_with (go_at_call 11; refine (C1.out _ (HE.out.below (by exact hbw.drew))).mono ?_; rintro e w1 ⟨S, x, hSs, rfl, hb1⟩; have m' := cell_later (w := wr.drew) hb1 m1; have f' : w1.frozen? ⟨w.heap.size + 1 + 1, 1, none⟩ = false := (hb1.frozen (p := ⟨w.heap.size + 1 + 1, 1, none⟩) (by show _ < wr.heap.size; omega)).trans f1; have l' := cell_later (w := wr.drew) hb1 l1; have l'' := cell_later (w := wr.drew) hb1 l2)
      all_goals
        go_wp2_with fail
        go_roundw
        case rel => exact HR.out _ _ hb1 hSs
        case measure => simp [intOf]
    · have C1 := Lib.hid fun W (hW : Env W) => make_any 1 C A W (by omega) (by omega) hW
      have HR := Lib.hid fun (w1 : World) (S : ByteArray) => @bet_next w wr w1 A B C D S 2 (by omega) HR0.out
      go_wp2_with fail
      go_region_with (go_at_call 11; refine (C1.out _ (HE.out.below (by exact hbw.drew))).mono ?_; rintro e w1 ⟨S, x, hSs, rfl, hb1⟩; have m' := cell_later (w := wr.drew) hb1 m2; have f' : w1.frozen? ⟨w.heap.size + 1 + 1, 2, none⟩ = false := (hb1.frozen (p := ⟨w.heap.size + 1 + 1, 2, none⟩) (by show _ < wr.heap.size; omega)).trans f2; have l' := cell_later (w := wr.drew) hb1 l2; have l'' := cell_later (w := wr.drew) hb1 l0)
      all_goals
        go_wp2_with fail
        go_roundw
        case rel => exact HR.out _ _ hb1 hSs
        case measure => simp [intOf]
    · have CB := Lib.hid between_calls
      obtain ⟨s0, s1, s2⟩ := hS
      clear hn3 hsz f0 f1 f2 HR0
      go_wp2_with fail
      refine (CB.out A B C D _ (by omega) (by omega) (by omega) (by omega) (HE.out.below hbw)).mono ?_
      rintro e w1 ⟨rfl, hq1⟩
      have k31 := cell_later hq1 k3
      have m01 := cell_later hq1 m0
      have m11 := cell_later hq1 m1
      have m21 := cell_later hq1 m2
      have hbw1 := qtrans hbw hq1
      clear hq1 hbw k3 m0 m1 m2 k0 k1 k2 l0 l1 l2
      go_wp2_with fail
      refine (CB.out S0 S1 S2 D _ (by omega) (by omega) (by omega) (by omega) (HE.out.below hbw1)).mono ?_
      rintro e w2 ⟨rfl, hq2⟩
      have k32 := cell_later hq2 k31
      have m02 := cell_later hq2 m01
      have m12 := cell_later hq2 m11
      have m22 := cell_later hq2 m21
      have hbw2 := qtrans hbw1 hq2
      clear hq2 hbw1 k31 m01 m11 m21
      go_wp2_with fail
      refine (CB.out S2 S1 S0 D _ (by omega) (by omega) (by omega) (by omega) (HE.out.below hbw2)).mono ?_
      rintro e w3 ⟨rfl, hq3⟩
      have k33 := cell_later hq3 k32
      have m03 := cell_later hq3 m02
      have m13 := cell_later hq3 m12
      have m23 := cell_later hq3 m22
      have hbw3 := qtrans hbw2 hq3
      clear hq3 hbw2 k32 m02 m12 m22
      go_wp2_with fail
      refine (CB.out S1 S0 S2 D _ (by omega) (by omega) (by omega) (by omega) (HE.out.below hbw3)).mono ?_
      rintro e w4 ⟨rfl, hq4⟩
      have hbw4 := qtrans hbw3 hq4
      go_wp2_with fail
      go_ret
      exact ⟨rfl, hbw4⟩
end Go.Proofs.YtbdiimldociobaaDoor
