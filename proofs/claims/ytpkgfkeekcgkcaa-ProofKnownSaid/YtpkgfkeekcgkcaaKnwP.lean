import Derived.Test.YtpkgfkeekcgkcaaWkP
import Derived.Test.YtpkgfkeekcgkcaaLwA
/-  The examples of the chapter. -/
namespace Go.Proofs.Ytpkgfkeekcgkcaa
open Go.RowKit
open Lcs (few len CP)
theorem kn_few : fewE [112, 108, 97, 116, 101] [112, 108, 97, 116, 101] = 0 ∧ txtsE [112, 108, 97, 116, 101] [112, 108, 97, 116, 101] = 0 ∧ fewE [] [97, 98] = 2 ∧ txtsE [] [97, 98] = 0 := by rw [fewE, fewE, few_C, few_C]; decide +kernel
theorem kn_read : readL [97, 116, 108, 97, 115] [0] xB = [65, 116, 108, 97, 115] ∧ readN [97, 116, 108, 97, 115] [0] xB = 2 ∧ marksE [97, 116, 108, 97, 115] [0] xB = 0 ∧ readL [115] [0] xD = [110] ∧ readN [115] [0] xD = 2 ∧ marksE [115] [0] xD = 0 := by decide +kernel
theorem kn_clash : clashV [97, 116, 108, 97, 115] [4] xA [0] xB = 0 ∧ clashE [97, 116, 108, 97, 115] [4] xA [0] xB = 5 := by decide +kernel
theorem kn_cc : ccN [101, 110, 103, 114, 97, 118, 101] [103, 114, 97, 118, 101, 110] [(0, 4), (1, 5)] = 2 ∧ ccE [101, 110, 103, 114, 97, 118, 101] [103, 114, 97, 118, 101, 110] [(0, 4), (1, 5)] = 0 ∧ ccN [101, 110, 103, 114, 97, 118, 101] [103, 114, 97, 118, 101, 110] [(0, 0)] = 0 ∧ ccE [101, 110, 103, 114, 97, 118, 101] [103, 114, 97, 118, 101, 110] [(0, 0)] = 15 := by decide +kernel
theorem kn_lb : lbN [101, 110, 103, 114, 97, 118, 101] [103, 114, 97, 118, 101, 110] [1, 2, 1, 2, 3, 4] = 0 ∧ lbE [101, 110, 103, 114, 97, 118, 101] [103, 114, 97, 118, 101, 110] [1, 2, 1, 2, 3, 4] = 6 := by decide +kernel
theorem kn_uns : unsH 8 9 9 1 2 = 0 ∧ unsE 8 9 9 1 2 = 2 := by
  have h := uns_arg (one := 8) (two := 9) (both := 9) (num := 1) (den := 2) (by unfold argU; omega)
  exact ⟨h.2, h.1⟩
set_option maxRecDepth 100000 in
set_option maxHeartbeats 8000000 in
theorem ProofKnown_calls (W : World) : Calls Try.prog 16 #[] W (Gives (.bool true) W) := by
  go_enter Try.func16, Try.ntmps16
  have S : Ins W [] := Ins.nil _
  go_wp2_with fail
  obtain ⟨L1, hb⟩ : ∃ b, b = W.heap.size := ⟨_, rfl⟩
  replace S : Ins (W.alloc (.cells #[.int .i64 4] 3)) [(.slice (some ⟨L1, 0, none⟩) 1 1, [4])] := (S.later (Later.new _ _)).cons (Ints.lit _ [4] 3 hb rfl rfl (by decide))
  obtain ⟨Y2, hZ⟩ : ∃ Z : Later W, Z.w = W.alloc (.cells #[.int .i64 4] 3) := ⟨Later.new _ _, rfl⟩
  rw [← hZ] at S ⊢
  clear hZ
  rw [← hb]
  clear hb
  refine (Marks_calls [97, 116, 108, 97, 115] 5 [110, 116] _ [4] (by decide) _ (S.at (v := .slice (some ⟨L1, 0, none⟩) 1 1) (xs := [4]) (by simp))).mono ?_
  rintro e w' ⟨sv, av, y, rfl, rfl, hI, hT⟩
  rw [show marksA ([97, 116, 108, 97, 115] : List UInt8).length 5 [110, 116] = xA by decide +kernel] at hT
  have hma : Mks y.w sv av [4] xA := ⟨hI, hT.strs (by decide)⟩
  clear hI hT
  obtain ⟨sxa, nsa, csa, rfl⟩ : ∃ a n c, sv = Value.slice a n c := by obtain ⟨a, c, e⟩ := hma.s.form; exact ⟨a, _, c, e⟩
  obtain ⟨aaa, naa, caa, rfl⟩ : ∃ a n c, av = Value.slice a n c := by obtain ⟨a, c, e⟩ := hma.a.form; exact ⟨a, _, c, e⟩
  replace S := S.later y
  obtain ⟨Y3, hZ⟩ : ∃ Z : Later W, Z.w = y.w := ⟨Y2.step (y), rfl⟩
  rw [← hZ] at S hma ⊢
  clear hZ
  clear y
  go_wp2_with fail
  obtain ⟨L4, hb⟩ : ∃ b, b = Y3.w.heap.size := ⟨_, rfl⟩
  replace S : Ins (Y3.w.alloc (.cells #[.int .i64 0] 3)) [(.slice (some ⟨L4, 0, none⟩) 1 1, [0]), (.slice (some ⟨L1, 0, none⟩) 1 1, [4])] := (S.later (Later.new _ _)).cons (Ints.lit _ [0] 3 hb rfl rfl (by decide))
  replace hma := hma.later (Later.new _ (.cells #[.int .i64 0] 3))
  rw [Later.new_w] at hma
  obtain ⟨Y5, hZ⟩ : ∃ Z : Later W, Z.w = Y3.w.alloc (.cells #[.int .i64 0] 3) := ⟨Y3.step (Later.new _ _), rfl⟩
  rw [← hZ] at S hma ⊢
  clear hZ
  rw [← hb]
  clear hb
  refine (Marks_calls [97, 116, 108, 97, 115] 0 [65] _ [0] (by decide) _ (S.at (v := .slice (some ⟨L4, 0, none⟩) 1 1) (xs := [0]) (by simp))).mono ?_
  rintro e w' ⟨sv, av, y, rfl, rfl, hI, hT⟩
  rw [show marksA ([97, 116, 108, 97, 115] : List UInt8).length 0 [65] = xB by decide +kernel] at hT
  have hmb : Mks y.w sv av [0] xB := ⟨hI, hT.strs (by decide)⟩
  clear hI hT
  obtain ⟨sxb, nsb, csb, rfl⟩ : ∃ a n c, sv = Value.slice a n c := by obtain ⟨a, c, e⟩ := hmb.s.form; exact ⟨a, _, c, e⟩
  obtain ⟨aab, nab, cab, rfl⟩ : ∃ a n c, av = Value.slice a n c := by obtain ⟨a, c, e⟩ := hmb.a.form; exact ⟨a, _, c, e⟩
  replace hma := hma.later y
  replace S := S.later y
  obtain ⟨Y6, hZ⟩ : ∃ Z : Later W, Z.w = y.w := ⟨Y5.step (y), rfl⟩
  rw [← hZ] at S hma hmb ⊢
  clear hZ
  clear y
  go_wp2_with fail
  obtain ⟨B7, hb⟩ : ∃ b, b = Y6.w.heap.size := ⟨_, rfl⟩
  have l7 : Lin (Y6.w.alloc (.cells #[.slice sxa nsa csa, .slice aaa naa caa] 25)) B7 25 [.slice sxa nsa csa, .slice aaa naa caa] := by rw [hb]; exact Lin.new _ _ [.slice sxa nsa csa, .slice aaa naa caa]
  replace S := S.later (Later.new _ (.cells #[.slice sxa nsa csa, .slice aaa naa caa] 25))
  rw [Later.new_w] at S
  replace hma := hma.later (Later.new _ (.cells #[.slice sxa nsa csa, .slice aaa naa caa] 25))
  rw [Later.new_w] at hma
  replace hmb := hmb.later (Later.new _ (.cells #[.slice sxa nsa csa, .slice aaa naa caa] 25))
  rw [Later.new_w] at hmb
  have hsz : (Y6.w.alloc (.cells #[.slice sxa nsa csa, .slice aaa naa caa] 25)).heap.size = B7 + 1 := by rw [hb]; simp
  obtain ⟨Y8, hZ⟩ : ∃ Z : Later W, Z.w = Y6.w.alloc (.cells #[.slice sxa nsa csa, .slice aaa naa caa] 25) := ⟨Y6.step (Later.new _ _), rfl⟩
  rw [← hZ] at S hsz hma hmb l7 ⊢
  clear hZ
  rw [← hb]
  clear hb
  rw [← hsz]
  clear hsz
  obtain ⟨B9, hb⟩ : ∃ b, b = Y8.w.heap.size := ⟨_, rfl⟩
  have l9 : Lin (Y8.w.alloc (.cells #[.slice sxb nsb csb, .slice aab nab cab] 25)) B9 25 [.slice sxb nsb csb, .slice aab nab cab] := by rw [hb]; exact Lin.new _ _ [.slice sxb nsb csb, .slice aab nab cab]
  replace S := S.later (Later.new _ (.cells #[.slice sxb nsb csb, .slice aab nab cab] 25))
  rw [Later.new_w] at S
  replace hma := hma.later (Later.new _ (.cells #[.slice sxb nsb csb, .slice aab nab cab] 25))
  rw [Later.new_w] at hma
  replace hmb := hmb.later (Later.new _ (.cells #[.slice sxb nsb csb, .slice aab nab cab] 25))
  rw [Later.new_w] at hmb
  replace l7 := l7.later (Later.new _ (.cells #[.slice sxb nsb csb, .slice aab nab cab] 25))
  rw [Later.new_w] at l7
  have hsz : (Y8.w.alloc (.cells #[.slice sxb nsb csb, .slice aab nab cab] 25)).heap.size = B9 + 1 := by rw [hb]; simp
  obtain ⟨Y10, hZ⟩ : ∃ Z : Later W, Z.w = Y8.w.alloc (.cells #[.slice sxb nsb csb, .slice aab nab cab] 25) := ⟨Y8.step (Later.new _ _), rfl⟩
  rw [← hZ] at S hsz hma hmb l7 l9 ⊢
  clear hZ
  rw [← hb]
  clear hb
  skip
  clear hsz
  refine (Read_calls [97, 116, 108, 97, 115] _ _ [0] xB _ hmb).mono ?_
  rintro e w' ⟨rfl, y, rfl⟩
  rw [kn_read.1, kn_read.2.1, kn_read.2.2.1]
  replace hma := hma.later y
  replace hmb := hmb.later y
  replace l7 := l7.later y
  replace l9 := l9.later y
  replace S := S.later y
  obtain ⟨Y11, hZ⟩ : ∃ Z : Later W, Z.w = y.w := ⟨Y10.step (y), rfl⟩
  rw [← hZ] at S hma hmb l7 l9 ⊢
  clear hZ
  clear y
  go_wp2_with fail
  obtain ⟨L12, hb⟩ : ∃ b, b = Y11.w.heap.size := ⟨_, rfl⟩
  replace S : Ins (Y11.w.alloc (.cells #[.int .i64 0] 3)) [(.slice (some ⟨L12, 0, none⟩) 1 1, [0]), (.slice (some ⟨L4, 0, none⟩) 1 1, [0]), (.slice (some ⟨L1, 0, none⟩) 1 1, [4])] := (S.later (Later.new _ _)).cons (Ints.lit _ [0] 3 hb rfl rfl (by decide))
  replace hma := hma.later (Later.new _ (.cells #[.int .i64 0] 3))
  rw [Later.new_w] at hma
  replace hmb := hmb.later (Later.new _ (.cells #[.int .i64 0] 3))
  rw [Later.new_w] at hmb
  replace l7 := l7.later (Later.new _ (.cells #[.int .i64 0] 3))
  rw [Later.new_w] at l7
  replace l9 := l9.later (Later.new _ (.cells #[.int .i64 0] 3))
  rw [Later.new_w] at l9
  obtain ⟨Y13, hZ⟩ : ∃ Z : Later W, Z.w = Y11.w.alloc (.cells #[.int .i64 0] 3) := ⟨Y11.step (Later.new _ _), rfl⟩
  rw [← hZ] at S hma hmb l7 l9 ⊢
  clear hZ
  rw [← hb]
  clear hb
  refine (Marks_calls [115] 0 [110] _ [0] (by decide) _ (S.at (v := .slice (some ⟨L12, 0, none⟩) 1 1) (xs := [0]) (by simp))).mono ?_
  rintro e w' ⟨sv, av, y, rfl, rfl, hI, hT⟩
  rw [show marksA ([115] : List UInt8).length 0 [110] = xD by decide +kernel] at hT
  have hmd : Mks y.w sv av [0] xD := ⟨hI, hT.strs (by decide)⟩
  clear hI hT
  obtain ⟨sxd, nsd, csd, rfl⟩ : ∃ a n c, sv = Value.slice a n c := by obtain ⟨a, c, e⟩ := hmd.s.form; exact ⟨a, _, c, e⟩
  obtain ⟨aad, nad, cad, rfl⟩ : ∃ a n c, av = Value.slice a n c := by obtain ⟨a, c, e⟩ := hmd.a.form; exact ⟨a, _, c, e⟩
  replace hma := hma.later y
  replace hmb := hmb.later y
  replace l7 := l7.later y
  replace l9 := l9.later y
  replace S := S.later y
  obtain ⟨Y14, hZ⟩ : ∃ Z : Later W, Z.w = y.w := ⟨Y13.step (y), rfl⟩
  rw [← hZ] at S hma hmb l7 l9 hmd ⊢
  clear hZ
  clear y
  go_wp2_with fail
  refine (Read_calls [115] _ _ [0] xD _ hmd).mono ?_
  rintro e w' ⟨rfl, y, rfl⟩
  rw [kn_read.2.2.2.1, kn_read.2.2.2.2.1, kn_read.2.2.2.2.2]
  replace hma := hma.later y
  replace hmb := hmb.later y
  replace l7 := l7.later y
  replace l9 := l9.later y
  replace hmd := hmd.later y
  replace S := S.later y
  obtain ⟨Y15, hZ⟩ : ∃ Z : Later W, Z.w = y.w := ⟨Y14.step (y), rfl⟩
  rw [← hZ] at S hma hmb l7 l9 hmd ⊢
  clear hZ
  clear y
  have q0_0 := l7.cell (k := 0) rfl
  have q0_1 := l7.cell (k := 1) rfl
  have q0_l := l7.lt
  have q1_0 := l9.cell (k := 0) rfl
  have q1_1 := l9.cell (k := 1) rfl
  have q1_l := l9.lt
  go_wp2_with fail
  clear q0_0 q0_1 q0_l
  clear q1_0 q1_1 q1_l
  refine (Clash_calls [97, 116, 108, 97, 115] _ _ [4] xA _ _ [0] xB _ hma hmb).mono ?_
  rintro e w' ⟨rfl, y, rfl⟩
  rw [kn_clash.1, kn_clash.2]
  replace hma := hma.later y
  replace hmb := hmb.later y
  replace l7 := l7.later y
  replace l9 := l9.later y
  replace hmd := hmd.later y
  replace S := S.later y
  obtain ⟨Y16, hZ⟩ : ∃ Z : Later W, Z.w = y.w := ⟨Y15.step (y), rfl⟩
  rw [← hZ] at S hma hmb l7 l9 hmd ⊢
  clear hZ
  clear y
  go_wp2_with fail
  refine (Fewest_calls [112, 108, 97, 116, 101] [112, 108, 97, 116, 101] _).mono ?_
  rintro e w' ⟨rfl, y, rfl⟩
  rw [kn_few.1, kn_few.2.1]
  replace hma := hma.later y
  replace hmb := hmb.later y
  replace l7 := l7.later y
  replace l9 := l9.later y
  replace hmd := hmd.later y
  replace S := S.later y
  obtain ⟨Y17, hZ⟩ : ∃ Z : Later W, Z.w = y.w := ⟨Y16.step (y), rfl⟩
  rw [← hZ] at S hma hmb l7 l9 hmd ⊢
  clear hZ
  clear y
  go_wp2_with fail
  refine (Fewest_calls [] [97, 98] _).mono ?_
  rintro e w' ⟨rfl, y, rfl⟩
  rw [kn_few.2.2.1, kn_few.2.2.2]
  replace hma := hma.later y
  replace hmb := hmb.later y
  replace l7 := l7.later y
  replace l9 := l9.later y
  replace hmd := hmd.later y
  replace S := S.later y
  obtain ⟨Y18, hZ⟩ : ∃ Z : Later W, Z.w = y.w := ⟨Y17.step (y), rfl⟩
  rw [← hZ] at S hma hmb l7 l9 hmd ⊢
  clear hZ
  clear y
  go_wp2_with fail
  have hq := (PrsM.lit Y18.w (lo := Y18.w.heap.size) [(0, 4), (1, 5)] (arr := #[.int .i64 0, .int .i64 4, .int .i64 1, .int .i64 5]) (n := 2) rfl (Nat.le_refl _) rfl rfl (by decide)).prs (by decide)
  replace S := S.later (Later.new _ (.cells #[.int .i64 0, .int .i64 4, .int .i64 1, .int .i64 5] 78))
  rw [Later.new_w] at S
  replace hma := hma.later (Later.new _ (.cells #[.int .i64 0, .int .i64 4, .int .i64 1, .int .i64 5] 78))
  rw [Later.new_w] at hma
  replace hmb := hmb.later (Later.new _ (.cells #[.int .i64 0, .int .i64 4, .int .i64 1, .int .i64 5] 78))
  rw [Later.new_w] at hmb
  replace l7 := l7.later (Later.new _ (.cells #[.int .i64 0, .int .i64 4, .int .i64 1, .int .i64 5] 78))
  rw [Later.new_w] at l7
  replace l9 := l9.later (Later.new _ (.cells #[.int .i64 0, .int .i64 4, .int .i64 1, .int .i64 5] 78))
  rw [Later.new_w] at l9
  replace hmd := hmd.later (Later.new _ (.cells #[.int .i64 0, .int .i64 4, .int .i64 1, .int .i64 5] 78))
  rw [Later.new_w] at hmd
  obtain ⟨Y19, hZ⟩ : ∃ Z : Later W, Z.w = Y18.w.alloc (.cells #[.int .i64 0, .int .i64 4, .int .i64 1, .int .i64 5] 78) := ⟨Y18.step (Later.new _ _), rfl⟩
  rw [← hZ] at S hma hmb l7 l9 hmd hq ⊢
  clear hZ
  obtain ⟨LB, hb⟩ : ∃ b, b = Y18.w.heap.size := ⟨_, rfl⟩
  rw [← hb] at hq ⊢
  clear hb
  refine (CheckCommon_calls [101, 110, 103, 114, 97, 118, 101] [103, 114, 97, 118, 101, 110] _ [(0, 4), (1, 5)] _ (by exact hq)).mono ?_
  rintro e w' ⟨rfl, y, rfl⟩
  rw [kn_cc.1, kn_cc.2.1]
  replace hma := hma.later y
  replace hmb := hmb.later y
  replace l7 := l7.later y
  replace l9 := l9.later y
  replace hmd := hmd.later y
  replace S := S.later y
  obtain ⟨Y20, hZ⟩ : ∃ Z : Later W, Z.w = y.w := ⟨Y19.step (y), rfl⟩
  rw [← hZ] at S hma hmb l7 l9 hmd ⊢
  clear hZ
  clear y
  clear hq
  go_wp2_with fail
  have hq := (PrsM.lit Y20.w (lo := Y20.w.heap.size) [(0, 0)] (arr := #[.int .i64 0, .int .i64 0]) (n := 1) rfl (Nat.le_refl _) rfl rfl (by decide)).prs (by decide)
  replace S := S.later (Later.new _ (.cells #[.int .i64 0, .int .i64 0] 78))
  rw [Later.new_w] at S
  replace hma := hma.later (Later.new _ (.cells #[.int .i64 0, .int .i64 0] 78))
  rw [Later.new_w] at hma
  replace hmb := hmb.later (Later.new _ (.cells #[.int .i64 0, .int .i64 0] 78))
  rw [Later.new_w] at hmb
  replace l7 := l7.later (Later.new _ (.cells #[.int .i64 0, .int .i64 0] 78))
  rw [Later.new_w] at l7
  replace l9 := l9.later (Later.new _ (.cells #[.int .i64 0, .int .i64 0] 78))
  rw [Later.new_w] at l9
  replace hmd := hmd.later (Later.new _ (.cells #[.int .i64 0, .int .i64 0] 78))
  rw [Later.new_w] at hmd
  obtain ⟨Y21, hZ⟩ : ∃ Z : Later W, Z.w = Y20.w.alloc (.cells #[.int .i64 0, .int .i64 0] 78) := ⟨Y20.step (Later.new _ _), rfl⟩
  rw [← hZ] at S hma hmb l7 l9 hmd hq ⊢
  clear hZ
  obtain ⟨LB, hb⟩ : ∃ b, b = Y20.w.heap.size := ⟨_, rfl⟩
  rw [← hb] at hq ⊢
  clear hb
  refine (CheckCommon_calls [101, 110, 103, 114, 97, 118, 101] [103, 114, 97, 118, 101, 110] _ [(0, 0)] _ (by exact hq)).mono ?_
  rintro e w' ⟨rfl, y, rfl⟩
  rw [kn_cc.2.2.1, kn_cc.2.2.2]
  replace hma := hma.later y
  replace hmb := hmb.later y
  replace l7 := l7.later y
  replace l9 := l9.later y
  replace hmd := hmd.later y
  replace S := S.later y
  obtain ⟨Y22, hZ⟩ : ∃ Z : Later W, Z.w = y.w := ⟨Y21.step (y), rfl⟩
  rw [← hZ] at S hma hmb l7 l9 hmd ⊢
  clear hZ
  clear y
  clear hq
  go_wp2_with fail
  obtain ⟨L23, hb⟩ : ∃ b, b = Y22.w.heap.size := ⟨_, rfl⟩
  replace S : Ins (Y22.w.alloc (.cells #[.int .i64 1, .int .i64 2, .int .i64 1, .int .i64 2, .int .i64 3, .int .i64 4] 3)) [(.slice (some ⟨L23, 0, none⟩) 6 6, [1, 2, 1, 2, 3, 4]), (.slice (some ⟨L12, 0, none⟩) 1 1, [0]), (.slice (some ⟨L4, 0, none⟩) 1 1, [0]), (.slice (some ⟨L1, 0, none⟩) 1 1, [4])] := (S.later (Later.new _ _)).cons (Ints.lit _ [1, 2, 1, 2, 3, 4] 3 hb rfl rfl (by decide))
  replace hma := hma.later (Later.new _ (.cells #[.int .i64 1, .int .i64 2, .int .i64 1, .int .i64 2, .int .i64 3, .int .i64 4] 3))
  rw [Later.new_w] at hma
  replace hmb := hmb.later (Later.new _ (.cells #[.int .i64 1, .int .i64 2, .int .i64 1, .int .i64 2, .int .i64 3, .int .i64 4] 3))
  rw [Later.new_w] at hmb
  replace l7 := l7.later (Later.new _ (.cells #[.int .i64 1, .int .i64 2, .int .i64 1, .int .i64 2, .int .i64 3, .int .i64 4] 3))
  rw [Later.new_w] at l7
  replace l9 := l9.later (Later.new _ (.cells #[.int .i64 1, .int .i64 2, .int .i64 1, .int .i64 2, .int .i64 3, .int .i64 4] 3))
  rw [Later.new_w] at l9
  replace hmd := hmd.later (Later.new _ (.cells #[.int .i64 1, .int .i64 2, .int .i64 1, .int .i64 2, .int .i64 3, .int .i64 4] 3))
  rw [Later.new_w] at hmd
  obtain ⟨Y24, hZ⟩ : ∃ Z : Later W, Z.w = Y22.w.alloc (.cells #[.int .i64 1, .int .i64 2, .int .i64 1, .int .i64 2, .int .i64 3, .int .i64 4] 3) := ⟨Y22.step (Later.new _ _), rfl⟩
  rw [← hZ] at S hma hmb l7 l9 hmd ⊢
  clear hZ
  rw [← hb]
  clear hb
  refine (of_calls _ _ _ _ rfl _).mono ?_
  rintro e w' ⟨rfl, hw⟩
  rw [hw]
  clear hw w'
  go_wp2_with fail
  refine (CheckLabels_calls [101, 110, 103, 114, 97, 118, 101] [103, 114, 97, 118, 101, 110] _ [1, 2, 1, 2, 3, 4] _ (S.at (v := .slice (some ⟨L23, 0, none⟩) 6 6) (xs := [1, 2, 1, 2, 3, 4]) (by simp))).mono ?_
  rintro e w' ⟨rfl, y, rfl⟩
  rw [kn_lb.1, kn_lb.2]
  replace hma := hma.later y
  replace hmb := hmb.later y
  replace l7 := l7.later y
  replace l9 := l9.later y
  replace hmd := hmd.later y
  replace S := S.later y
  obtain ⟨Y25, hZ⟩ : ∃ Z : Later W, Z.w = y.w := ⟨Y24.step (y), rfl⟩
  rw [← hZ] at S hma hmb l7 l9 hmd ⊢
  clear hZ
  clear y
  go_wp2_with fail
  refine (Unseen_calls 8 9 9 1 2 _).mono ?_
  rintro e w' ⟨y, rfl, rfl⟩
  rw [kn_uns.1, kn_uns.2]
  replace hma := hma.later y
  replace hmb := hmb.later y
  replace l7 := l7.later y
  replace l9 := l9.later y
  replace hmd := hmd.later y
  replace S := S.later y
  obtain ⟨Y26, hZ⟩ : ∃ Z : Later W, Z.w = y.w := ⟨Y25.step (y), rfl⟩
  rw [← hZ] at S hma hmb l7 l9 hmd ⊢
  clear hZ
  clear y
  go_wp2_with fail
  obtain ⟨B27, hb⟩ : ∃ b, b = Y26.w.heap.size := ⟨_, rfl⟩
  have l27 : Lin (Y26.w.alloc (.cells #[.int .i64 0, .int .i64 0] 57)) B27 57 [.int .i64 0, .int .i64 0] := by rw [hb]; exact Lin.new _ _ [.int .i64 0, .int .i64 0]
  replace S := S.later (Later.new _ (.cells #[.int .i64 0, .int .i64 0] 57))
  rw [Later.new_w] at S
  replace hma := hma.later (Later.new _ (.cells #[.int .i64 0, .int .i64 0] 57))
  rw [Later.new_w] at hma
  replace hmb := hmb.later (Later.new _ (.cells #[.int .i64 0, .int .i64 0] 57))
  rw [Later.new_w] at hmb
  replace l7 := l7.later (Later.new _ (.cells #[.int .i64 0, .int .i64 0] 57))
  rw [Later.new_w] at l7
  replace l9 := l9.later (Later.new _ (.cells #[.int .i64 0, .int .i64 0] 57))
  rw [Later.new_w] at l9
  replace hmd := hmd.later (Later.new _ (.cells #[.int .i64 0, .int .i64 0] 57))
  rw [Later.new_w] at hmd
  have hsz : (Y26.w.alloc (.cells #[.int .i64 0, .int .i64 0] 57)).heap.size = B27 + 1 := by rw [hb]; simp
  obtain ⟨Y28, hZ⟩ : ∃ Z : Later W, Z.w = Y26.w.alloc (.cells #[.int .i64 0, .int .i64 0] 57) := ⟨Y26.step (Later.new _ _), rfl⟩
  rw [← hZ] at S hsz hma hmb l7 l9 hmd l27 ⊢
  clear hZ
  rw [← hb]
  clear hb
  try rw [← hsz]
  clear hsz
  refine (Works_calls _).mono ?_
  rintro e w' ⟨rfl, y, rfl⟩
  go_wp2
  go_ret
  exact ⟨rfl, Y28.step (y), rfl⟩
end Go.Proofs.Ytpkgfkeekcgkcaa
