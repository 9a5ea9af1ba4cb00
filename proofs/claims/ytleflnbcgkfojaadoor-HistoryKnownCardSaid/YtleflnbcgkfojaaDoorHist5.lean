/- What henkanlaw31.works computes. -/
import Derived.Test.YtleflnbcgkfojaaDoorHist4
import Derived.Deep.RegionHeld3
namespace Go.Proofs.YtleflnbcgkfojaaDoor
open Go.RowKit Go.Lib Go.Shelf Hk Go.Maps
set_option linter.unusedSimpArgs false
set_option linter.unusedVariables false
set_option maxRecDepth 100000

def kyou : ByteArray := ⟨#[227, 129, 141, 227, 130, 135, 227, 129, 134]⟩
def konnichi : ByteArray := ⟨#[228, 187, 138, 230, 151, 165]⟩
def ha : ByteArray := ⟨#[227, 129, 175]⟩
def watashi : ByteArray := ⟨#[231, 167, 129]⟩
def todayL : List Wd := [(kyou, konnichi), (ha, ha)]
def k1 : ByteArray := keyStr (kmk 1 kyou.data.toList konnichi.data.toList)
def k2 : ByteArray := keyStr (kmk 2 watashi.data.toList konnichi.data.toList)
def k3 : ByteArray := keyStr (kmk 1 ha.data.toList ha.data.toList)
def k4 : ByteArray := keyStr (kmk 2 konnichi.data.toList ha.data.toList)
def fourL : List ByteArray := [k1, k2, k3, k4]
theorem today_keys : keysD watashi todayL = fourL := by decide +kernel
theorem today_about : aboutD konnichi fourL = [k1, k2, k4] := by decide +kernel
theorem four_small : ∀ k ∈ fourL, k.size ≤ 1000 := by decide +kernel

def todayBox : Obj := .cells #[.string kyou, .string konnichi, .string ha, .string ha] 35

theorem today_calls (w : World) : Calls Tryd.prog 24 #[] w fun e w' => e = .returned (.slice (some ⟨w.heap.size, 0, none⟩) 2 2) ∧ w.alloc todayBox = w' := by
  go_enter Tryd.func24, Tryd.ntmps24
  go_wp2_with fail
  go_ret
  exact ⟨rfl, rfl⟩
theorem today_lies (w : World) : Lies (w.alloc todayBox) (w.heap.size + 1) 2 (some ⟨w.heap.size, 0, none⟩) 2 (wdCells todayL) :=
  Lies.of_addr rfl (by omega) (by show w.heap.size < _; omega) (cells_new w (wdCells todayL) _)
theorem today_light : WLight 1048576 todayL := by
  intro c hc
  simp only [todayL, List.mem_cons, List.not_mem_nil, or_false] at hc
  rcases hc with rfl | rfl <;> exact ⟨by decide, by decide⟩

/-- A list of strings came back, in new memory. -/
def NewStrs (w : World) (n : Nat) (l : List ByteArray) (e : Ending) (w' : World) : Prop := ∃ A c, e = .returned (.slice A n c) ∧ Lies w' w'.heap.size 1 A n (l.map Value.string) ∧ Below w.heap.size w w'
theorem StrsPost.new {w : World} {l : List ByteArray} {e : Ending} {w' : World} (h : StrsPost w l e w') : NewStrs w l.length l e w' := by
  obtain ⟨v, rfl, ho, hb⟩ := h
  obtain ⟨A, c, rfl, _, _, hl⟩ := own_lies ho
  exact ⟨A, c, rfl, hl, hb⟩

set_option maxHeartbeats 400000 in
theorem four_calls (w : World) (he : Env w) : Calls Tryd.prog 26 #[] w (NewStrs w 4 fourL) := by
  have HE := Lib.hid he
  have C1 := Lib.hid fun W (hW : Env W) => (key_calls 1 kyou konnichi W (by decide) (by decide) hW : Calls _ _ _ W fun e w' => e = .returned (.string k1) ∧ Below W.heap.size W w')
  have C2 := Lib.hid fun W (hW : Env W) => (key_calls 2 watashi konnichi W (by decide) (by decide) hW : Calls _ _ _ W fun e w' => e = .returned (.string k2) ∧ Below W.heap.size W w')
  have C3 := Lib.hid fun W (hW : Env W) => (key_calls 1 ha ha W (by decide) (by decide) hW : Calls _ _ _ W fun e w' => e = .returned (.string k3) ∧ Below W.heap.size W w')
  have C4 := Lib.hid fun W (hW : Env W) => (key_calls 2 konnichi ha W (by decide) (by decide) hW : Calls _ _ _ W fun e w' => e = .returned (.string k4) ∧ Below W.heap.size W w')
  clear he
  go_enter Tryd.func26, Tryd.ntmps26
  go_wp2_with fail
  refine (C1.out _ HE.out).mono ?_
  rintro e w1 ⟨rfl, hb1⟩
  go_wp2_with fail
  refine (C2.out _ (HE.out.below hb1)).mono ?_
  rintro e w2 ⟨rfl, hb2⟩
  replace hb2 := qtrans hb1 hb2
  go_wp2_with fail
  refine (C3.out _ (HE.out.below hb2)).mono ?_
  rintro e w3 ⟨rfl, hb3⟩
  replace hb3 := qtrans hb2 hb3
  go_wp2_with fail
  refine (C4.out _ (HE.out.below hb3)).mono ?_
  rintro e w4 ⟨rfl, hb4⟩
  replace hb4 := qtrans hb3 hb4
  go_wp2_with fail
  go_ret
  exact ⟨_, _, rfl, Lies.of_addr rfl (by omega) (by simp) (cells_new w4 (fourL.map Value.string) _), hb4.alloc hb4.size _⟩

def threeL : List ByteArray := [k1, k2, k4]
abbrev threeBox : Obj := .cells #[.string k1, .string k2, .string k4] 9
theorem three_lies (w : World) : Lies (w.alloc threeBox) (w.alloc threeBox).heap.size 1 (some ⟨w.heap.size, 0, none⟩) 3 (threeL.map Value.string) :=
  Lies.of_addr rfl (by omega) (by simp) (cells_new w (threeL.map Value.string) _)
theorem same_a (w : World) (A : Option Addr) (c : Nat) (hl : Lies w w.heap.size 1 A 3 (threeL.map Value.string)) :
    Calls Tryd.prog 13 #[.slice A 3 c, .slice (some ⟨w.heap.size, 0, none⟩) 3 3] (w.alloc threeBox) fun e w' => e = .returned (.bool true) ∧ Below (w.alloc threeBox).heap.size (w.alloc threeBox) w' :=
  same_calls A _ 3 c 3 threeL _ _ _ rfl (hl.alloc (Nat.le_refl _) _) (three_lies w) (by decide)
theorem same_b (w w1 : World) (A : Option Addr) (c : Nat) (hb : Below (w.alloc threeBox).heap.size (w.alloc threeBox) w1) (hl : Lies w1 w1.heap.size 1 A 3 (threeL.map Value.string)) :
    Calls Tryd.prog 13 #[.slice A 3 c, .slice (some ⟨w.heap.size, 0, none⟩) 3 3] w1 fun e w' => e = .returned (.bool true) ∧ Below w1.heap.size w1 w' :=
  same_calls A _ 3 c 3 threeL _ _ _ rfl hl ((three_lies w).below hb) (by decide)

set_option maxHeartbeats 4000000 in
theorem works_calls (w : World) (he : Env w) : Calls Tryd.prog 12 #[] w fun e w' => e = .returned (.bool true) ∧ Below w.heap.size w w' := by
  have HE := Lib.hid he
  have CT := Lib.hid today_calls
  have hbx : Below w.heap.size w (w.alloc todayBox) := (Below.refl _ _).alloc (Nat.le_refl _) _
  have hC : Calls Tryd.prog 14 #[.string watashi, .slice (some ⟨w.heap.size, 0, none⟩) 2 2] (w.alloc todayBox) (NewStrs (w.alloc todayBox) 4 fourL) := by
    have := keys_calls watashi (some ⟨w.heap.size, 0, none⟩) 2 todayL (w.alloc todayBox) (by decide) ((today_lies w).up (by simp)) (by decide) today_light (he.below hbx)
    rw [today_keys] at this
    exact this.mono fun _ _ h => h.new
  have CK := Lib.hid hC
  have CF := Lib.hid four_calls
  have CS := Lib.hid same_calls
  have CSa := Lib.hid same_a
  have CSb := Lib.hid same_b
  clear he hC
  go_enter Tryd.func12, Tryd.ntmps12
  go_wp2_with fail
  refine (CT.out _).mono ?_
  rintro e w1 ⟨rfl, rfl⟩
  go_wp2_with fail
  refine CK.out.mono ?_
  rintro e w1 ⟨A1, c1, rfl, hl1, hb1⟩
  replace hb1 := qtrans hbx hb1
  obtain ⟨b, off, rfl, hb, hcell⟩ := hl1.cells (by decide)
  have x0 : w1.cell? ⟨b, off, none⟩ = some (.string k1) := hcell 0 _ rfl
  have x1 : w1.cell? ⟨b, off + 1, none⟩ = some (.string k2) := hcell 1 _ rfl
  have x3 : w1.cell? ⟨b, off + 3, none⟩ = some (.string k4) := hcell 3 _ rfl
  have HL1 : Hid (Lies w1 w1.heap.size 1 (some ⟨b, off, none⟩) 4 (fourL.map Value.string)) := hl1
  have HK := Lib.hid fun (W : World) (hW : Below w1.heap.size w1 W) => (show W.cell? ⟨b, off, none⟩ = some (.string k1) ∧ W.cell? ⟨b, off + 1, none⟩ = some (.string k2) ∧ W.cell? ⟨b, off + 3, none⟩ = some (.string k4) from ⟨cell_later hW x0, cell_later hW x1, cell_later hW x3⟩)
  have CA := Lib.hid fun W (hW : Below w1.heap.size w1 W) => Calls.mono (R' := NewStrs W 3 threeL) (by
    have := about_calls (some ⟨b, off, none⟩) c1 fourL konnichi W ((HL1.out.below hW).up hW.size) (by decide) (fun k hk => Nat.le_trans (four_small k hk) (by decide)) (HE.out.below (qtrans hb1 hW))
    rw [today_about] at this
    exact (show Calls Tryd.prog 17 #[.slice (some ⟨b, off, none⟩) 4 c1, .string konnichi] W _ from this)) (fun _ _ h => StrsPost.new h)
  clear hl1 hcell hbx CK CT
  have p1 : Below w1.heap.size w1 w1.drew := (Below.refl _ _).drew
  have tok : True := trivial
  go_wp2_with fail
  go_region_held3 (fun W => W.cell? ⟨b, off, none⟩ = some (.string k1) ∧ W.cell? ⟨b, off + 1, none⟩ = some (.string k2) ∧ W.cell? ⟨b, off + 3, none⟩ = some (.string k4))
    (first | exact ⟨x0, x1, x3⟩ | exact HK.out _ p8 | exact HK.out _ p9 | exact HK.out _ p10 | exact HK.out _ (p9.alloc p9.size _) | exact HK.out _ (p10.alloc p10.size _) | exact HK.out _ p11)
    (first
      | (go_at_call 26; refine (CF.out _ (HE.out.below (by exact hb1.drew))).mono ?_; rintro e w8 ⟨A8, c8, rfl, hl8, hb8⟩; have p8 := qtrans p1 hb8; clear hb8)
      | (go_at_call 17; refine (CA.out _ (by first | exact p9 | exact p9.alloc p9.size _)).mono ?_; rintro e w10 ⟨A10, c10, rfl, hl10, hb10⟩; have p10 : Below w1.heap.size w1 w10 := (by first | exact qtrans p9 hb10 | exact qtrans (p9.alloc p9.size _) hb10))
      | (go_at_call 13; with_reducible refine (CSa.out _ _ _ hl10).mono ?_; rintro e w11 ⟨rfl, hb11⟩; have p11 : Below w1.heap.size w1 w11 := qtrans (p10.alloc p10.size _) hb11)
      | (go_at_call 13; with_reducible refine (CSb.out _ _ _ _ hb10 hl10).mono ?_; rintro e w11 ⟨rfl, hb11⟩; have p11 : Below w1.heap.size w1 w11 := qtrans p10 hb11)
      | (go_at_call 13; have _t := tok; refine (CS.out _ A8 4 c1 c8 fourL _ _ _ rfl (HL1.out.below p8) hl8 (by decide)).mono ?_; rintro e w9 ⟨rfl, hb9⟩; have p9 := qtrans p8 hb9; clear hb9 tok))
  all_goals
    go_wp2_with fail
    go_ret
    exact ⟨rfl, qtrans hb1 p11⟩
end Go.Proofs.YtleflnbcgkfojaaDoor
