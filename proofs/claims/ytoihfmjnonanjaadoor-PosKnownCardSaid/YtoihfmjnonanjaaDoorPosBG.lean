/- The plain law of the examples and the limits: the long text, what Parse and Check answer. -/
import Derived.Test.YtoihfmjnonanjaaDoorPosT
namespace Go.Proofs.YtoihfmjnonanjaaDoor.Hk
open Go Go.Lib
set_option linter.unusedSimpArgs false
set_option linter.unusedVariables false
set_option maxRecDepth 100000

/-- A digit. -/
def digB (d : Nat) : ByteArray := ⟨#[(48 + d).toUInt8]⟩
/-- What PosKnown has written ahead of line n + 1. -/
def knS : Nat → ByteArray
  | 0 => ⟨#[66, 79, 83, 9, 99, 111, 110, 116, 101, 110, 116, 10]⟩
  | n + 1 => knS n ++ ⟨#[112]⟩ ++ digB ((n + 1) / 10) ++ digB ((n + 1) % 10) ++ ⟨#[9, 112, 114, 101, 102, 105, 120, 10]⟩
/-- The list that it stands for. -/
def knL : Nat → List P2
  | 0 => [(bosB, 0)]
  | n + 1 => knL n ++ [((⟨#[112]⟩ : ByteArray) ++ digB ((n + 1) / 10) ++ digB ((n + 1) % 10), 2)]
theorem knS_size : ∀ n, (knS n).size = 12 + 11 * n
  | 0 => rfl
  | n + 1 => by
    have ih := knS_size n
    rw [knS]
    simp only [ByteArray.size_append, ih]
    rw [show (digB ((n + 1) / 10)).size = 1 from rfl, show (digB ((n + 1) % 10)).size = 1 from rfl, show (⟨#[112]⟩ : ByteArray).size = 1 from rfl, show (⟨#[9, 112, 114, 101, 102, 105, 120, 10]⟩ : ByteArray).size = 8 from rfl]
    omega
theorem kn_ok : okB (knL 63) = true := by decide +kernel
theorem kn_list : printL (knL 63) = (knS 63).data.toList := by decide +kernel
theorem kn_print : (⟨(printL (knL 63)).toArray⟩ : ByteArray) = knS 63 := by rw [kn_list]
theorem kn_len : (knL 63).length = 64 := by decide +kernel
theorem kn_x : parseD (knS 63 ++ ⟨#[120, 9, 99, 111, 110, 116, 101, 110, 116]⟩) = ([], 65, 2) := by decide +kernel
theorem kn_p01 : parseD (knS 63 ++ ⟨#[112, 48, 49, 9, 99, 111, 110, 116, 101, 110, 116]⟩) = ([], 65, 4) := by decide +kernel
theorem kn_more : okB (knL 63 ++ [(⟨#[120]⟩, 0)]) = false := by decide +kernel
def knE : List P2 := [(bosB, 0), (⟨#[103, 97]⟩, 1)]
theorem knE_ok : okB knE = true := by decide +kernel
theorem knE_enc : encL knE = [2, 3, 66, 79, 83, 0, 2, 103, 97, 1] := by decide +kernel
theorem kn_dec1 : decL [1, 3, 66, 79, 83, 1] = none := by decide +kernel
theorem kn_dec2 : decL [2, 3, 66, 79, 83, 0, 2, 103, 97, 1, 0] = none := by decide +kernel
theorem kn_w1 : parseD ⟨#[]⟩ = ([], 0, 5) := by decide +kernel
theorem kn_w2 : parseD ⟨#[10, 35, 10]⟩ = ([], 0, 5) := by decide +kernel
theorem kn_w3 : parseD ⟨#[110, 111, 117, 110, 9, 99, 111, 110, 116, 101, 110, 116, 10]⟩ = ([], 1, 5) := by decide +kernel
theorem kn_w4 : parseD ⟨#[66, 79, 83, 9, 102, 117, 110, 99, 116, 105, 111, 110, 10]⟩ = ([], 1, 5) := by decide +kernel
theorem kn_w5 : parseD ⟨#[66, 79, 83, 9, 99, 111, 110, 116, 101, 110, 116, 10, 120, 9, 118, 101, 114, 98, 10]⟩ = ([], 2, 5) := by decide +kernel
theorem kn_w6 : parseD ⟨#[66, 79, 83, 9, 99, 111, 110, 116, 101, 110, 116, 10, 32, 120, 9, 99, 111, 110, 116, 101, 110, 116]⟩ = ([], 2, 5) := by decide +kernel
theorem kn_w7 : parseD ⟨#[66, 79, 83, 9, 99, 111, 110, 116, 101, 110, 116, 10, 97, 9, 112, 114, 101, 102, 105, 120, 10, 97, 9, 99, 111, 110, 116, 101, 110, 116, 10]⟩ = ([], 3, 4) := by decide +kernel
theorem kn_w8 : parseD ⟨#[66, 79, 83, 9, 99, 111, 110, 116, 101, 110, 116, 10, 49, 50, 51, 52, 53, 54, 55, 56, 57, 48, 49, 50, 51, 52, 53, 54, 55, 9, 99, 111, 110, 116, 101, 110, 116]⟩ = ([], 2, 5) := by decide +kernel
theorem kn_w9 : parseD ⟨#[66, 79, 83, 9, 99, 111, 110, 116, 101, 110, 116, 9, 10]⟩ = ([], 1, 5) := by decide +kernel
end Go.Proofs.YtoihfmjnonanjaaDoor.Hk
