/- What henkanlaw02.works and simple compute. -/
import Derived.Test.YtllfgonmkgookaaDoorKanaU
import Derived.Test.YtllfgonmkgookaaDoorKanaH
import Derived.Test.YtllfgonmkgookaaDoorKanaR
import Derived.Test.YtllfgonmkgookaaDoorKana2
namespace Go.Proofs.YtllfgonmkgookaaDoor
open Go.RowKit Go.Lib Go.Shelf Hk
set_option linter.unusedSimpArgs false
set_option linter.unusedVariables false
set_option maxRecDepth 100000

theorem lit_half : halfS ⟨#[227, 129, 140, 227, 129, 163, 227, 129, 147, 227, 129, 134]⟩ = ⟨#[239, 189, 182, 239, 190, 158, 239, 189, 175, 239, 189, 186, 239, 189, 179]⟩ := by decide +kernel
theorem lit_full : fullS ⟨#[239, 189, 182, 239, 190, 158, 239, 189, 175, 239, 189, 186, 239, 189, 179]⟩ = ⟨#[227, 130, 172, 227, 131, 131, 227, 130, 179, 227, 130, 166]⟩ := by decide +kernel
theorem lit_hira : hiraS ⟨#[227, 130, 171, 227, 130, 191, 227, 131, 180, 227, 131, 188, 65]⟩ = ⟨#[227, 129, 139, 227, 129, 159, 227, 130, 148, 227, 131, 188, 65]⟩ := by decide +kernel
theorem lit_read : readingD (⟨#[227, 129, 141, 227, 130, 135, 227, 131, 188]⟩ : ByteArray).data.toList = true := by decide +kernel
theorem lit_read2 : readingD (⟨#[227, 130, 173]⟩ : ByteArray).data.toList = false := by decide +kernel
set_option maxHeartbeats 1000000 in
theorem works_calls (w : World) (he : Env w) : Calls Tryd.prog 14 #[] w fun e w' => e = .returned (.bool true) ∧ Below w.heap.size w w' := by
  have HE := Lib.hid he
  have C1 := Lib.hid fun W (hW : Env W) => half_calls ⟨#[227, 129, 140, 227, 129, 163, 227, 129, 147, 227, 129, 134]⟩ W (by decide) hW
  rw [lit_half] at C1
  have C2 := Lib.hid fun W (hW : Env W) => full_calls ⟨#[239, 189, 182, 239, 190, 158, 239, 189, 175, 239, 189, 186, 239, 189, 179]⟩ W (by decide) hW
  rw [lit_full] at C2
  have C3 := Lib.hid fun W (hW : Env W) => hira_calls ⟨#[227, 130, 171, 227, 130, 191, 227, 131, 180, 227, 131, 188, 65]⟩ W (by decide) hW
  rw [lit_hira] at C3
  have C4 := Lib.hid fun W (hW : Env W) => reading_calls ⟨#[227, 129, 141, 227, 130, 135, 227, 131, 188]⟩ W (by decide) hW
  rw [lit_read] at C4
  have C5 := Lib.hid fun W (hW : Env W) => reading_calls ⟨#[227, 130, 173]⟩ W (by decide) hW
  rw [lit_read2] at C5
  have C6 := Lib.hid fun W => class_calls 12540 W
  rw [show classD 12540 = 2 by decide] at C6
  clear he
  go_enter Tryd.func14, Tryd.ntmps14
  go_wp2_with fail
  refine (C1.out _ HE.out).mono ?_
  rintro e w1 ⟨rfl, hb1⟩
  go_wp2_with fail
  refine (C2.out _ (HE.out.below hb1)).mono ?_
  rintro e w2 ⟨rfl, hb2⟩
  replace hb2 := qtrans hb1 hb2
  go_wp2_with fail
  refine (C3.out _ (HE.out.below hb2)).mono ?_
  rintro e w3 ⟨rfl, hb3⟩
  replace hb3 := qtrans hb2 hb3
  go_wp2_with fail
  refine (C4.out _ (HE.out.below hb3)).mono ?_
  rintro e w4 ⟨rfl, hb4⟩
  replace hb4 := qtrans hb3 hb4
  go_wp2_with fail
  refine (C5.out _ (HE.out.below hb4)).mono ?_
  rintro e w5 ⟨rfl, hb5⟩
  replace hb5 := qtrans hb4 hb5
  go_wp2_with fail
  refine (C6.out _).mono ?_
  rintro e w6 ⟨rfl, rfl⟩
  go_wp2_with fail
  go_ret
  exact ⟨rfl, hb5⟩
end Go.Proofs.YtllfgonmkgookaaDoor
