import Derived.Test.YtbjmfhlkmklmmaaKTab
import Derived.Test.YtbjmfhlkmklmmaaKTabC
import Derived.Test.YtbjmfhlkmklmmaaKTabD
/-  How many plates come back: the table. -/
namespace Go.Proofs.Ytbjmfhlkmklmmaa
open Go.RowKit
set_option maxRecDepth 100000
theorem four {w : Nat} (h1 : 1 ≤ w) (h2 : w ≤ 4) : w = 1 ∨ w = 2 ∨ w = 3 ∨ w = 4 := by omega
def cntN : Nat → Nat → Int
  | 1, 1 => 4
  | 1, 2 => 15
  | 1, 3 => 56
  | 1, 4 => 209
  | 2, 1 => 15
  | 2, 2 => 192
  | 2, 3 => 2415
  | 2, 4 => 30305
  | 3, 1 => 56
  | 3, 2 => 2415
  | 3, 3 => 100352
  | 3, 4 => 4140081
  | 4, 1 => 209
  | 4, 2 => 30305
  | 4, 3 => 4140081
  | 4, 4 => 557568000
  | _, _ => 0
theorem cntP_11 : cntP 1 1 = 4 := by decide +kernel
theorem cntP_12 : cntP 1 2 = 15 := by decide +kernel
theorem cntP_13 : cntP 1 3 = 56 := by decide +kernel
theorem cntP_14 : cntP 1 4 = 209 := by decide +kernel
theorem cntP_21 : cntP 2 1 = 15 := by decide +kernel
theorem cntP_22 : cntP 2 2 = 192 := by decide +kernel
theorem cntP_23 : cntP 2 3 = 2415 := by decide +kernel
theorem cntP_31 : cntP 3 1 = 56 := by decide +kernel
theorem cntP_32 : cntP 3 2 = 2415 := by decide +kernel
theorem cntP_41 : cntP 4 1 = 209 := by decide +kernel
theorem cnt_table (w h : Nat) (h1 : 1 ≤ w) (h2 : w ≤ 4) (h3 : 1 ≤ h) (h4 : h ≤ 4) : cntR w h = some (cntP w h) := by
  rcases four h1 h2 with rfl | rfl | rfl | rfl <;> rcases four h3 h4 with rfl | rfl | rfl | rfl
  · exact cnt_11
  · exact cnt_12
  · exact cnt_13
  · exact cnt_14
  · exact cnt_21
  · exact cnt_22
  · exact cnt_23
  · exact cnt_24
  · exact cnt_31
  · exact cnt_32
  · exact cnt_33
  · exact cnt_34
  · exact cnt_41
  · exact cnt_42
  · exact cnt_43
  · exact cnt_44
theorem cntP_val (w h : Nat) (h1 : 1 ≤ w) (h2 : w ≤ 4) (h3 : 1 ≤ h) (h4 : h ≤ 4) : cntP w h = cntN w h := by
  rcases four h1 h2 with rfl | rfl | rfl | rfl <;> rcases four h3 h4 with rfl | rfl | rfl | rfl
  · exact cntP_11
  · exact cntP_12
  · exact cntP_13
  · exact cntP_14
  · exact cntP_21
  · exact cntP_22
  · exact cntP_23
  · exact cntP_24
  · exact cntP_31
  · exact cntP_32
  · exact cntP_33
  · exact cntP_34
  · exact cntP_41
  · exact cntP_42
  · exact cntP_43
  · exact cntP_44
end Go.Proofs.Ytbjmfhlkmklmmaa
