import Derived.Test.YtpkgfkeekcgkcaaKW
/-  Works. -/
namespace Go.Proofs.Ytpkgfkeekcgkcaa
open Go.RowKit
open Lcs (few len CP)
set_option maxRecDepth 100000 in
set_option maxHeartbeats 8000000 in
theorem Works_calls (W : World) : Calls Try.prog 19 #[] W (Gives (.bool true) W) := by
  go_enter Try.func19, Try.ntmps19
  have S : Ins W [] := Ins.nil _
  go_wp2_with fail
  obtain ⟨L1, hb⟩ : ∃ b, b = W.heap.size := ⟨_, rfl⟩
  replace S : Ins (W.alloc (.cells #[.int .i64 4] 3)) [(.slice (some ⟨L1, 0, none⟩) 1 1, [4])] := (S.later (Later.new _ _)).cons (Ints.lit _ [4] 3 hb rfl rfl (by decide))
  obtain ⟨Y2, hZ⟩ : ∃ Z : Later W, Z.w = W.alloc (.cells #[.int .i64 4] 3) := ⟨Later.new _ _, rfl⟩
  rw [← hZ] at S ⊢
  clear hZ
  rw [← hb]
  clear hb
  refine (Marks_calls [97, 116, 108, 97, 115] 5 [110, 116] _ [4] (by decide) _ (S.at (v := .slice (some ⟨L1, 0, none⟩) 1 1) (xs := [4]) (by simp))).mono ?_
  rintro e w' ⟨sv, av, y, rfl, rfl, hI, hT⟩
  rw [show marksA ([97, 116, 108, 97, 115] : List UInt8).length 5 [110, 116] = xA by decide +kernel] at hT
  have hma : Mks y.w sv av [4] xA := ⟨hI, hT.strs (by decide)⟩
  clear hI hT
  obtain ⟨sxa, nsa, csa, rfl⟩ : ∃ a n c, sv = Value.slice a n c := by obtain ⟨a, c, e⟩ := hma.s.form; exact ⟨a, _, c, e⟩
  obtain ⟨aaa, naa, caa, rfl⟩ : ∃ a n c, av = Value.slice a n c := by obtain ⟨a, c, e⟩ := hma.a.form; exact ⟨a, _, c, e⟩
  replace S := S.later y
  obtain ⟨Y3, hZ⟩ : ∃ Z : Later W, Z.w = y.w := ⟨Y2.step (y), rfl⟩
  rw [← hZ] at S hma ⊢
  clear hZ
  clear y
  go_wp2_with fail
  obtain ⟨L4, hb⟩ : ∃ b, b = Y3.w.heap.size := ⟨_, rfl⟩
  replace S : Ins (Y3.w.alloc (.cells #[.int .i64 0] 3)) [(.slice (some ⟨L4, 0, none⟩) 1 1, [0]), (.slice (some ⟨L1, 0, none⟩) 1 1, [4])] := (S.later (Later.new _ _)).cons (Ints.lit _ [0] 3 hb rfl rfl (by decide))
  replace hma := hma.later (Later.new _ (.cells #[.int .i64 0] 3))
  rw [Later.new_w] at hma
  obtain ⟨Y5, hZ⟩ : ∃ Z : Later W, Z.w = Y3.w.alloc (.cells #[.int .i64 0] 3) := ⟨Y3.step (Later.new _ _), rfl⟩
  rw [← hZ] at S hma ⊢
  clear hZ
  rw [← hb]
  clear hb
  refine (Marks_calls [97, 116, 108, 97, 115] 0 [65] _ [0] (by decide) _ (S.at (v := .slice (some ⟨L4, 0, none⟩) 1 1) (xs := [0]) (by simp))).mono ?_
  rintro e w' ⟨sv, av, y, rfl, rfl, hI, hT⟩
  rw [show marksA ([97, 116, 108, 97, 115] : List UInt8).length 0 [65] = xB by decide +kernel] at hT
  have hmb : Mks y.w sv av [0] xB := ⟨hI, hT.strs (by decide)⟩
  clear hI hT
  obtain ⟨sxb, nsb, csb, rfl⟩ : ∃ a n c, sv = Value.slice a n c := by obtain ⟨a, c, e⟩ := hmb.s.form; exact ⟨a, _, c, e⟩
  obtain ⟨aab, nab, cab, rfl⟩ : ∃ a n c, av = Value.slice a n c := by obtain ⟨a, c, e⟩ := hmb.a.form; exact ⟨a, _, c, e⟩
  replace hma := hma.later y
  replace S := S.later y
  obtain ⟨Y6, hZ⟩ : ∃ Z : Later W, Z.w = y.w := ⟨Y5.step (y), rfl⟩
  rw [← hZ] at S hma hmb ⊢
  clear hZ
  clear y
  go_wp2_with fail
  refine (Marks_calls [97, 116, 108, 97, 115] 5 [120] _ [] (by decide) _ (Ints.nil _ _)).mono ?_
  rintro e w' ⟨sv, av, y, rfl, rfl, hI, hT⟩
  rw [show marksA ([97, 116, 108, 97, 115] : List UInt8).length 5 [120] = xC by decide +kernel] at hT
  have hmc : Mks y.w sv av [] xC := ⟨hI, hT.strs (by decide)⟩
  clear hI hT
  obtain ⟨sxc, nsc, csc, rfl⟩ : ∃ a n c, sv = Value.slice a n c := by obtain ⟨a, c, e⟩ := hmc.s.form; exact ⟨a, _, c, e⟩
  obtain ⟨aac, nac, cac, rfl⟩ : ∃ a n c, av = Value.slice a n c := by obtain ⟨a, c, e⟩ := hmc.a.form; exact ⟨a, _, c, e⟩
  replace hma := hma.later y
  replace hmb := hmb.later y
  replace S := S.later y
  obtain ⟨Y7, hZ⟩ : ∃ Z : Later W, Z.w = y.w := ⟨Y6.step (y), rfl⟩
  rw [← hZ] at S hma hmb hmc ⊢
  clear hZ
  clear y
  go_wp2_with fail
  obtain ⟨L8, hb⟩ : ∃ b, b = Y7.w.heap.size := ⟨_, rfl⟩
  replace S : Ins (Y7.w.alloc (.cells #[.int .i64 0] 3)) [(.slice (some ⟨L8, 0, none⟩) 1 1, [0]), (.slice (some ⟨L4, 0, none⟩) 1 1, [0]), (.slice (some ⟨L1, 0, none⟩) 1 1, [4])] := (S.later (Later.new _ _)).cons (Ints.lit _ [0] 3 hb rfl rfl (by decide))
  replace hma := hma.later (Later.new _ (.cells #[.int .i64 0] 3))
  rw [Later.new_w] at hma
  replace hmb := hmb.later (Later.new _ (.cells #[.int .i64 0] 3))
  rw [Later.new_w] at hmb
  replace hmc := hmc.later (Later.new _ (.cells #[.int .i64 0] 3))
  rw [Later.new_w] at hmc
  obtain ⟨Y9, hZ⟩ : ∃ Z : Later W, Z.w = Y7.w.alloc (.cells #[.int .i64 0] 3) := ⟨Y7.step (Later.new _ _), rfl⟩
  rw [← hZ] at S hma hmb hmc ⊢
  clear hZ
  rw [← hb]
  clear hb
  refine (Marks_calls [115] 0 [110] _ [0] (by decide) _ (S.at (v := .slice (some ⟨L8, 0, none⟩) 1 1) (xs := [0]) (by simp))).mono ?_
  rintro e w' ⟨sv, av, y, rfl, rfl, hI, hT⟩
  rw [show marksA ([115] : List UInt8).length 0 [110] = xD by decide +kernel] at hT
  have hmd : Mks y.w sv av [0] xD := ⟨hI, hT.strs (by decide)⟩
  clear hI hT
  obtain ⟨sxd, nsd, csd, rfl⟩ : ∃ a n c, sv = Value.slice a n c := by obtain ⟨a, c, e⟩ := hmd.s.form; exact ⟨a, _, c, e⟩
  obtain ⟨aad, nad, cad, rfl⟩ : ∃ a n c, av = Value.slice a n c := by obtain ⟨a, c, e⟩ := hmd.a.form; exact ⟨a, _, c, e⟩
  replace hma := hma.later y
  replace hmb := hmb.later y
  replace hmc := hmc.later y
  replace S := S.later y
  obtain ⟨Y10, hZ⟩ : ∃ Z : Later W, Z.w = y.w := ⟨Y9.step (y), rfl⟩
  rw [← hZ] at S hma hmb hmc hmd ⊢
  clear hZ
  clear y
  go_wp2_with fail
  obtain ⟨B11, hb⟩ : ∃ b, b = Y10.w.heap.size := ⟨_, rfl⟩
  have l11 : Lin (Y10.w.alloc (.cells #[.slice sxa nsa csa, .slice aaa naa caa] 25)) B11 25 [.slice sxa nsa csa, .slice aaa naa caa] := by rw [hb]; exact Lin.new _ _ [.slice sxa nsa csa, .slice aaa naa caa]
  replace S := S.later (Later.new _ (.cells #[.slice sxa nsa csa, .slice aaa naa caa] 25))
  rw [Later.new_w] at S
  replace hma := hma.later (Later.new _ (.cells #[.slice sxa nsa csa, .slice aaa naa caa] 25))
  rw [Later.new_w] at hma
  replace hmb := hmb.later (Later.new _ (.cells #[.slice sxa nsa csa, .slice aaa naa caa] 25))
  rw [Later.new_w] at hmb
  replace hmc := hmc.later (Later.new _ (.cells #[.slice sxa nsa csa, .slice aaa naa caa] 25))
  rw [Later.new_w] at hmc
  replace hmd := hmd.later (Later.new _ (.cells #[.slice sxa nsa csa, .slice aaa naa caa] 25))
  rw [Later.new_w] at hmd
  have hsz : (Y10.w.alloc (.cells #[.slice sxa nsa csa, .slice aaa naa caa] 25)).heap.size = B11 + 1 := by rw [hb]; simp
  obtain ⟨Y12, hZ⟩ : ∃ Z : Later W, Z.w = Y10.w.alloc (.cells #[.slice sxa nsa csa, .slice aaa naa caa] 25) := ⟨Y10.step (Later.new _ _), rfl⟩
  rw [← hZ] at S hsz hma hmb hmc hmd l11 ⊢
  clear hZ
  rw [← hb]
  clear hb
  rw [← hsz]
  clear hsz
  obtain ⟨B13, hb⟩ : ∃ b, b = Y12.w.heap.size := ⟨_, rfl⟩
  have l13 : Lin (Y12.w.alloc (.cells #[.slice sxb nsb csb, .slice aab nab cab] 25)) B13 25 [.slice sxb nsb csb, .slice aab nab cab] := by rw [hb]; exact Lin.new _ _ [.slice sxb nsb csb, .slice aab nab cab]
  replace S := S.later (Later.new _ (.cells #[.slice sxb nsb csb, .slice aab nab cab] 25))
  rw [Later.new_w] at S
  replace hma := hma.later (Later.new _ (.cells #[.slice sxb nsb csb, .slice aab nab cab] 25))
  rw [Later.new_w] at hma
  replace hmb := hmb.later (Later.new _ (.cells #[.slice sxb nsb csb, .slice aab nab cab] 25))
  rw [Later.new_w] at hmb
  replace hmc := hmc.later (Later.new _ (.cells #[.slice sxb nsb csb, .slice aab nab cab] 25))
  rw [Later.new_w] at hmc
  replace hmd := hmd.later (Later.new _ (.cells #[.slice sxb nsb csb, .slice aab nab cab] 25))
  rw [Later.new_w] at hmd
  replace l11 := l11.later (Later.new _ (.cells #[.slice sxb nsb csb, .slice aab nab cab] 25))
  rw [Later.new_w] at l11
  have hsz : (Y12.w.alloc (.cells #[.slice sxb nsb csb, .slice aab nab cab] 25)).heap.size = B13 + 1 := by rw [hb]; simp
  obtain ⟨Y14, hZ⟩ : ∃ Z : Later W, Z.w = Y12.w.alloc (.cells #[.slice sxb nsb csb, .slice aab nab cab] 25) := ⟨Y12.step (Later.new _ _), rfl⟩
  rw [← hZ] at S hsz hma hmb hmc hmd l11 l13 ⊢
  clear hZ
  rw [← hb]
  clear hb
  rw [← hsz]
  clear hsz
  obtain ⟨B15, hb⟩ : ∃ b, b = Y14.w.heap.size := ⟨_, rfl⟩
  have l15 : Lin (Y14.w.alloc (.cells #[.slice sxc nsc csc, .slice aac nac cac] 25)) B15 25 [.slice sxc nsc csc, .slice aac nac cac] := by rw [hb]; exact Lin.new _ _ [.slice sxc nsc csc, .slice aac nac cac]
  replace S := S.later (Later.new _ (.cells #[.slice sxc nsc csc, .slice aac nac cac] 25))
  rw [Later.new_w] at S
  replace hma := hma.later (Later.new _ (.cells #[.slice sxc nsc csc, .slice aac nac cac] 25))
  rw [Later.new_w] at hma
  replace hmb := hmb.later (Later.new _ (.cells #[.slice sxc nsc csc, .slice aac nac cac] 25))
  rw [Later.new_w] at hmb
  replace hmc := hmc.later (Later.new _ (.cells #[.slice sxc nsc csc, .slice aac nac cac] 25))
  rw [Later.new_w] at hmc
  replace hmd := hmd.later (Later.new _ (.cells #[.slice sxc nsc csc, .slice aac nac cac] 25))
  rw [Later.new_w] at hmd
  replace l11 := l11.later (Later.new _ (.cells #[.slice sxc nsc csc, .slice aac nac cac] 25))
  rw [Later.new_w] at l11
  replace l13 := l13.later (Later.new _ (.cells #[.slice sxc nsc csc, .slice aac nac cac] 25))
  rw [Later.new_w] at l13
  have hsz : (Y14.w.alloc (.cells #[.slice sxc nsc csc, .slice aac nac cac] 25)).heap.size = B15 + 1 := by rw [hb]; simp
  obtain ⟨Y16, hZ⟩ : ∃ Z : Later W, Z.w = Y14.w.alloc (.cells #[.slice sxc nsc csc, .slice aac nac cac] 25) := ⟨Y14.step (Later.new _ _), rfl⟩
  rw [← hZ] at S hsz hma hmb hmc hmd l11 l13 l15 ⊢
  clear hZ
  rw [← hb]
  clear hb
  rw [← hsz]
  clear hsz
  obtain ⟨B17, hb⟩ : ∃ b, b = Y16.w.heap.size := ⟨_, rfl⟩
  have l17 : Lin (Y16.w.alloc (.cells #[.slice sxd nsd csd, .slice aad nad cad] 25)) B17 25 [.slice sxd nsd csd, .slice aad nad cad] := by rw [hb]; exact Lin.new _ _ [.slice sxd nsd csd, .slice aad nad cad]
  replace S := S.later (Later.new _ (.cells #[.slice sxd nsd csd, .slice aad nad cad] 25))
  rw [Later.new_w] at S
  replace hma := hma.later (Later.new _ (.cells #[.slice sxd nsd csd, .slice aad nad cad] 25))
  rw [Later.new_w] at hma
  replace hmb := hmb.later (Later.new _ (.cells #[.slice sxd nsd csd, .slice aad nad cad] 25))
  rw [Later.new_w] at hmb
  replace hmc := hmc.later (Later.new _ (.cells #[.slice sxd nsd csd, .slice aad nad cad] 25))
  rw [Later.new_w] at hmc
  replace hmd := hmd.later (Later.new _ (.cells #[.slice sxd nsd csd, .slice aad nad cad] 25))
  rw [Later.new_w] at hmd
  replace l11 := l11.later (Later.new _ (.cells #[.slice sxd nsd csd, .slice aad nad cad] 25))
  rw [Later.new_w] at l11
  replace l13 := l13.later (Later.new _ (.cells #[.slice sxd nsd csd, .slice aad nad cad] 25))
  rw [Later.new_w] at l13
  replace l15 := l15.later (Later.new _ (.cells #[.slice sxd nsd csd, .slice aad nad cad] 25))
  rw [Later.new_w] at l15
  have hsz : (Y16.w.alloc (.cells #[.slice sxd nsd csd, .slice aad nad cad] 25)).heap.size = B17 + 1 := by rw [hb]; simp
  obtain ⟨Y18, hZ⟩ : ∃ Z : Later W, Z.w = Y16.w.alloc (.cells #[.slice sxd nsd csd, .slice aad nad cad] 25) := ⟨Y16.step (Later.new _ _), rfl⟩
  rw [← hZ] at S hsz hma hmb hmc hmd l11 l13 l15 l17 ⊢
  clear hZ
  rw [← hb]
  clear hb
  skip
  clear hsz
  refine (Read_calls [97, 116, 108, 97, 115] _ _ [4] xA _ hma).mono ?_
  rintro e w' ⟨rfl, y, rfl⟩
  rw [show readL [97, 116, 108, 97, 115] [4] xA = [97, 116, 108, 97, 110, 116] by decide +kernel, show readN [97, 116, 108, 97, 115] [4] xA = 3 by decide +kernel, show marksE [97, 116, 108, 97, 115] [4] xA = 0 by decide +kernel]
  replace hma := hma.later y
  replace hmb := hmb.later y
  replace hmc := hmc.later y
  replace hmd := hmd.later y
  replace l11 := l11.later y
  replace l13 := l13.later y
  replace l15 := l15.later y
  replace l17 := l17.later y
  replace S := S.later y
  obtain ⟨Y19, hZ⟩ : ∃ Z : Later W, Z.w = y.w := ⟨Y18.step (y), rfl⟩
  rw [← hZ] at S hma hmb hmc hmd l11 l13 l15 l17 ⊢
  clear hZ
  clear y
  have q0_0 := l11.cell (k := 0) rfl
  have q0_1 := l11.cell (k := 1) rfl
  have q0_l := l11.lt
  go_wp2_with fail
  clear q0_0 q0_1 q0_l
  refine (Back_calls [97, 116, 108, 97, 115] _ _ [4] xA _ hma).mono ?_
  rintro e w' ⟨sv, av, y, rfl, rfl, hmn⟩
  rw [show backS [97, 116, 108, 97, 115] [4] xA = [4, 5] by decide +kernel, show backA [97, 116, 108, 97, 115] [4] xA = marksA 6 4 [115] by decide +kernel] at hmn
  rw [show backE [97, 116, 108, 97, 115] [4] xA = 0 by decide +kernel]
  have hmx := hmn
  clear hmn
  obtain ⟨sxx, nsx, csx, rfl⟩ : ∃ a n c, sv = Value.slice a n c := by obtain ⟨a, c, e⟩ := hmx.s.form; exact ⟨a, _, c, e⟩
  obtain ⟨aax, nax, cax, rfl⟩ : ∃ a n c, av = Value.slice a n c := by obtain ⟨a, c, e⟩ := hmx.a.form; exact ⟨a, _, c, e⟩
  replace hma := hma.later y
  replace hmb := hmb.later y
  replace hmc := hmc.later y
  replace hmd := hmd.later y
  replace l11 := l11.later y
  replace l13 := l13.later y
  replace l15 := l15.later y
  replace l17 := l17.later y
  replace S := S.later y
  obtain ⟨Y20, hZ⟩ : ∃ Z : Later W, Z.w = y.w := ⟨Y19.step (y), rfl⟩
  rw [← hZ] at S hma hmb hmc hmd l11 l13 l15 l17 hmx ⊢
  clear hZ
  clear y
  have q0_0 := l17.cell (k := 0) rfl
  have q0_1 := l17.cell (k := 1) rfl
  have q0_l := l17.lt
  go_wp2_with fail
  clear q0_0 q0_1 q0_l
  obtain ⟨B21, hb⟩ : ∃ b, b = Y20.w.heap.size := ⟨_, rfl⟩
  have l21 : Lin (Y20.w.alloc (.cells #[.slice sxx nsx csx, .slice aax nax cax] 25)) B21 25 [.slice sxx nsx csx, .slice aax nax cax] := by rw [hb]; exact Lin.new _ _ [.slice sxx nsx csx, .slice aax nax cax]
  replace S := S.later (Later.new _ (.cells #[.slice sxx nsx csx, .slice aax nax cax] 25))
  rw [Later.new_w] at S
  replace hma := hma.later (Later.new _ (.cells #[.slice sxx nsx csx, .slice aax nax cax] 25))
  rw [Later.new_w] at hma
  replace hmb := hmb.later (Later.new _ (.cells #[.slice sxx nsx csx, .slice aax nax cax] 25))
  rw [Later.new_w] at hmb
  replace hmc := hmc.later (Later.new _ (.cells #[.slice sxx nsx csx, .slice aax nax cax] 25))
  rw [Later.new_w] at hmc
  replace hmd := hmd.later (Later.new _ (.cells #[.slice sxx nsx csx, .slice aax nax cax] 25))
  rw [Later.new_w] at hmd
  replace l11 := l11.later (Later.new _ (.cells #[.slice sxx nsx csx, .slice aax nax cax] 25))
  rw [Later.new_w] at l11
  replace l13 := l13.later (Later.new _ (.cells #[.slice sxx nsx csx, .slice aax nax cax] 25))
  rw [Later.new_w] at l13
  replace l15 := l15.later (Later.new _ (.cells #[.slice sxx nsx csx, .slice aax nax cax] 25))
  rw [Later.new_w] at l15
  replace l17 := l17.later (Later.new _ (.cells #[.slice sxx nsx csx, .slice aax nax cax] 25))
  rw [Later.new_w] at l17
  replace hmx := hmx.later (Later.new _ (.cells #[.slice sxx nsx csx, .slice aax nax cax] 25))
  rw [Later.new_w] at hmx
  have hsz : (Y20.w.alloc (.cells #[.slice sxx nsx csx, .slice aax nax cax] 25)).heap.size = B21 + 1 := by rw [hb]; simp
  obtain ⟨Y22, hZ⟩ : ∃ Z : Later W, Z.w = Y20.w.alloc (.cells #[.slice sxx nsx csx, .slice aax nax cax] 25) := ⟨Y20.step (Later.new _ _), rfl⟩
  rw [← hZ] at S hsz hma hmb hmc hmd l11 l13 l15 l17 hmx l21 ⊢
  clear hZ
  rw [← hb]
  clear hb
  clear hsz
  refine (Back_calls [115] _ _ [0] xD _ hmd).mono ?_
  rintro e w' ⟨sv, av, y, rfl, rfl, hmn⟩
  rw [show backS [115] [0] xD = [0] by decide +kernel, show backA [115] [0] xD = marksA 1 1 [115] by decide +kernel] at hmn
  rw [show backE [115] [0] xD = 0 by decide +kernel]
  have hmy := hmn
  clear hmn
  obtain ⟨sxy, nsy, csy, rfl⟩ : ∃ a n c, sv = Value.slice a n c := by obtain ⟨a, c, e⟩ := hmy.s.form; exact ⟨a, _, c, e⟩
  obtain ⟨aay, nay, cay, rfl⟩ : ∃ a n c, av = Value.slice a n c := by obtain ⟨a, c, e⟩ := hmy.a.form; exact ⟨a, _, c, e⟩
  replace hma := hma.later y
  replace hmb := hmb.later y
  replace hmc := hmc.later y
  replace hmd := hmd.later y
  replace l11 := l11.later y
  replace l13 := l13.later y
  replace l15 := l15.later y
  replace l17 := l17.later y
  replace hmx := hmx.later y
  replace l21 := l21.later y
  replace S := S.later y
  obtain ⟨Y23, hZ⟩ : ∃ Z : Later W, Z.w = y.w := ⟨Y22.step (y), rfl⟩
  rw [← hZ] at S hma hmb hmc hmd l11 l13 l15 l17 hmx l21 hmy ⊢
  clear hZ
  clear y
  have q0_0 := l11.cell (k := 0) rfl
  have q0_1 := l11.cell (k := 1) rfl
  have q0_l := l11.lt
  have q1_0 := l13.cell (k := 0) rfl
  have q1_1 := l13.cell (k := 1) rfl
  have q1_l := l13.lt
  go_wp2_with fail
  clear q0_0 q0_1 q0_l
  clear q1_0 q1_1 q1_l
  obtain ⟨B24, hb⟩ : ∃ b, b = Y23.w.heap.size := ⟨_, rfl⟩
  have l24 : Lin (Y23.w.alloc (.cells #[.slice sxy nsy csy, .slice aay nay cay] 25)) B24 25 [.slice sxy nsy csy, .slice aay nay cay] := by rw [hb]; exact Lin.new _ _ [.slice sxy nsy csy, .slice aay nay cay]
  replace S := S.later (Later.new _ (.cells #[.slice sxy nsy csy, .slice aay nay cay] 25))
  rw [Later.new_w] at S
  replace hma := hma.later (Later.new _ (.cells #[.slice sxy nsy csy, .slice aay nay cay] 25))
  rw [Later.new_w] at hma
  replace hmb := hmb.later (Later.new _ (.cells #[.slice sxy nsy csy, .slice aay nay cay] 25))
  rw [Later.new_w] at hmb
  replace hmc := hmc.later (Later.new _ (.cells #[.slice sxy nsy csy, .slice aay nay cay] 25))
  rw [Later.new_w] at hmc
  replace hmd := hmd.later (Later.new _ (.cells #[.slice sxy nsy csy, .slice aay nay cay] 25))
  rw [Later.new_w] at hmd
  replace l11 := l11.later (Later.new _ (.cells #[.slice sxy nsy csy, .slice aay nay cay] 25))
  rw [Later.new_w] at l11
  replace l13 := l13.later (Later.new _ (.cells #[.slice sxy nsy csy, .slice aay nay cay] 25))
  rw [Later.new_w] at l13
  replace l15 := l15.later (Later.new _ (.cells #[.slice sxy nsy csy, .slice aay nay cay] 25))
  rw [Later.new_w] at l15
  replace l17 := l17.later (Later.new _ (.cells #[.slice sxy nsy csy, .slice aay nay cay] 25))
  rw [Later.new_w] at l17
  replace hmx := hmx.later (Later.new _ (.cells #[.slice sxy nsy csy, .slice aay nay cay] 25))
  rw [Later.new_w] at hmx
  replace l21 := l21.later (Later.new _ (.cells #[.slice sxy nsy csy, .slice aay nay cay] 25))
  rw [Later.new_w] at l21
  replace hmy := hmy.later (Later.new _ (.cells #[.slice sxy nsy csy, .slice aay nay cay] 25))
  rw [Later.new_w] at hmy
  have hsz : (Y23.w.alloc (.cells #[.slice sxy nsy csy, .slice aay nay cay] 25)).heap.size = B24 + 1 := by rw [hb]; simp
  obtain ⟨Y25, hZ⟩ : ∃ Z : Later W, Z.w = Y23.w.alloc (.cells #[.slice sxy nsy csy, .slice aay nay cay] 25) := ⟨Y23.step (Later.new _ _), rfl⟩
  rw [← hZ] at S hsz hma hmb hmc hmd l11 l13 l15 l17 hmx l21 hmy l24 ⊢
  clear hZ
  rw [← hb]
  clear hb
  try rw [← hsz]
  clear hsz
  refine (Merge_calls [97, 116, 108, 97, 115] _ _ [4] xA _ _ [0] xB _ hma hmb).mono ?_
  rintro e w' ⟨sv, av, y, rfl, rfl, hmn⟩
  rw [show mergeS [97, 116, 108, 97, 115] [4] xA [0] xB = [0, 4] by decide +kernel, show mergeA [97, 116, 108, 97, 115] [4] xA [0] xB = (marksA 5 0 [65]).set 5 [110, 116] by decide +kernel] at hmn
  rw [show mergeE [97, 116, 108, 97, 115] [4] xA [0] xB = 0 by decide +kernel]
  have hmm := hmn
  clear hmn
  obtain ⟨sxm, nsm, csm, rfl⟩ : ∃ a n c, sv = Value.slice a n c := by obtain ⟨a, c, e⟩ := hmm.s.form; exact ⟨a, _, c, e⟩
  obtain ⟨aam, nam, cam, rfl⟩ : ∃ a n c, av = Value.slice a n c := by obtain ⟨a, c, e⟩ := hmm.a.form; exact ⟨a, _, c, e⟩
  replace hma := hma.later y
  replace hmb := hmb.later y
  replace hmc := hmc.later y
  replace hmd := hmd.later y
  replace l11 := l11.later y
  replace l13 := l13.later y
  replace l15 := l15.later y
  replace l17 := l17.later y
  replace hmx := hmx.later y
  replace l21 := l21.later y
  replace hmy := hmy.later y
  replace l24 := l24.later y
  replace S := S.later y
  obtain ⟨Y26, hZ⟩ : ∃ Z : Later W, Z.w = y.w := ⟨Y25.step (y), rfl⟩
  rw [← hZ] at S hma hmb hmc hmd l11 l13 l15 l17 hmx l21 hmy l24 hmm ⊢
  clear hZ
  clear y
  have q0_0 := l11.cell (k := 0) rfl
  have q0_1 := l11.cell (k := 1) rfl
  have q0_l := l11.lt
  have q1_0 := l15.cell (k := 0) rfl
  have q1_1 := l15.cell (k := 1) rfl
  have q1_l := l15.lt
  go_wp2_with fail
  clear q0_0 q0_1 q0_l
  clear q1_0 q1_1 q1_l
  obtain ⟨B27, hb⟩ : ∃ b, b = Y26.w.heap.size := ⟨_, rfl⟩
  have l27 : Lin (Y26.w.alloc (.cells #[.slice sxm nsm csm, .slice aam nam cam] 25)) B27 25 [.slice sxm nsm csm, .slice aam nam cam] := by rw [hb]; exact Lin.new _ _ [.slice sxm nsm csm, .slice aam nam cam]
  replace S := S.later (Later.new _ (.cells #[.slice sxm nsm csm, .slice aam nam cam] 25))
  rw [Later.new_w] at S
  replace hma := hma.later (Later.new _ (.cells #[.slice sxm nsm csm, .slice aam nam cam] 25))
  rw [Later.new_w] at hma
  replace hmb := hmb.later (Later.new _ (.cells #[.slice sxm nsm csm, .slice aam nam cam] 25))
  rw [Later.new_w] at hmb
  replace hmc := hmc.later (Later.new _ (.cells #[.slice sxm nsm csm, .slice aam nam cam] 25))
  rw [Later.new_w] at hmc
  replace hmd := hmd.later (Later.new _ (.cells #[.slice sxm nsm csm, .slice aam nam cam] 25))
  rw [Later.new_w] at hmd
  replace l11 := l11.later (Later.new _ (.cells #[.slice sxm nsm csm, .slice aam nam cam] 25))
  rw [Later.new_w] at l11
  replace l13 := l13.later (Later.new _ (.cells #[.slice sxm nsm csm, .slice aam nam cam] 25))
  rw [Later.new_w] at l13
  replace l15 := l15.later (Later.new _ (.cells #[.slice sxm nsm csm, .slice aam nam cam] 25))
  rw [Later.new_w] at l15
  replace l17 := l17.later (Later.new _ (.cells #[.slice sxm nsm csm, .slice aam nam cam] 25))
  rw [Later.new_w] at l17
  replace hmx := hmx.later (Later.new _ (.cells #[.slice sxm nsm csm, .slice aam nam cam] 25))
  rw [Later.new_w] at hmx
  replace l21 := l21.later (Later.new _ (.cells #[.slice sxm nsm csm, .slice aam nam cam] 25))
  rw [Later.new_w] at l21
  replace hmy := hmy.later (Later.new _ (.cells #[.slice sxm nsm csm, .slice aam nam cam] 25))
  rw [Later.new_w] at hmy
  replace l24 := l24.later (Later.new _ (.cells #[.slice sxm nsm csm, .slice aam nam cam] 25))
  rw [Later.new_w] at l24
  replace hmm := hmm.later (Later.new _ (.cells #[.slice sxm nsm csm, .slice aam nam cam] 25))
  rw [Later.new_w] at hmm
  have hsz : (Y26.w.alloc (.cells #[.slice sxm nsm csm, .slice aam nam cam] 25)).heap.size = B27 + 1 := by rw [hb]; simp
  obtain ⟨Y28, hZ⟩ : ∃ Z : Later W, Z.w = Y26.w.alloc (.cells #[.slice sxm nsm csm, .slice aam nam cam] 25) := ⟨Y26.step (Later.new _ _), rfl⟩
  rw [← hZ] at S hsz hma hmb hmc hmd l11 l13 l15 l17 hmx l21 hmy l24 hmm l27 ⊢
  clear hZ
  rw [← hb]
  clear hb
  try rw [← hsz]
  clear hsz
  refine (Merge_calls [97, 116, 108, 97, 115] _ _ [4] xA _ _ [] xC _ hma hmc).mono ?_
  rintro e w' ⟨sv, av, y, rfl, rfl, hmn⟩
  rw [show mergeE [97, 116, 108, 97, 115] [4] xA [] xC = 21 by decide +kernel]
  have hmw := hmn
  clear hmn
  obtain ⟨sxw, nsw, csw, rfl⟩ : ∃ a n c, sv = Value.slice a n c := by obtain ⟨a, c, e⟩ := hmw.s.form; exact ⟨a, _, c, e⟩
  obtain ⟨aaw, naw, caw, rfl⟩ : ∃ a n c, av = Value.slice a n c := by obtain ⟨a, c, e⟩ := hmw.a.form; exact ⟨a, _, c, e⟩
  replace hma := hma.later y
  replace hmb := hmb.later y
  replace hmc := hmc.later y
  replace hmd := hmd.later y
  replace l11 := l11.later y
  replace l13 := l13.later y
  replace l15 := l15.later y
  replace l17 := l17.later y
  replace hmx := hmx.later y
  replace l21 := l21.later y
  replace hmy := hmy.later y
  replace l24 := l24.later y
  replace hmm := hmm.later y
  replace l27 := l27.later y
  replace S := S.later y
  obtain ⟨Y29, hZ⟩ : ∃ Z : Later W, Z.w = y.w := ⟨Y28.step (y), rfl⟩
  rw [← hZ] at S hma hmb hmc hmd l11 l13 l15 l17 hmx l21 hmy l24 hmm l27 hmw ⊢
  clear hZ
  clear y
  have q0_0 := l11.cell (k := 0) rfl
  have q0_1 := l11.cell (k := 1) rfl
  have q0_l := l11.lt
  have q1_0 := l15.cell (k := 0) rfl
  have q1_1 := l15.cell (k := 1) rfl
  have q1_l := l15.lt
  go_wp2_with fail
  clear q0_0 q0_1 q0_l
  clear q1_0 q1_1 q1_l
  obtain ⟨B30, hb⟩ : ∃ b, b = Y29.w.heap.size := ⟨_, rfl⟩
  have l30 : Lin (Y29.w.alloc (.cells #[.slice sxw nsw csw, .slice aaw naw caw] 25)) B30 25 [.slice sxw nsw csw, .slice aaw naw caw] := by rw [hb]; exact Lin.new _ _ [.slice sxw nsw csw, .slice aaw naw caw]
  replace S := S.later (Later.new _ (.cells #[.slice sxw nsw csw, .slice aaw naw caw] 25))
  rw [Later.new_w] at S
  replace hma := hma.later (Later.new _ (.cells #[.slice sxw nsw csw, .slice aaw naw caw] 25))
  rw [Later.new_w] at hma
  replace hmb := hmb.later (Later.new _ (.cells #[.slice sxw nsw csw, .slice aaw naw caw] 25))
  rw [Later.new_w] at hmb
  replace hmc := hmc.later (Later.new _ (.cells #[.slice sxw nsw csw, .slice aaw naw caw] 25))
  rw [Later.new_w] at hmc
  replace hmd := hmd.later (Later.new _ (.cells #[.slice sxw nsw csw, .slice aaw naw caw] 25))
  rw [Later.new_w] at hmd
  replace l11 := l11.later (Later.new _ (.cells #[.slice sxw nsw csw, .slice aaw naw caw] 25))
  rw [Later.new_w] at l11
  replace l13 := l13.later (Later.new _ (.cells #[.slice sxw nsw csw, .slice aaw naw caw] 25))
  rw [Later.new_w] at l13
  replace l15 := l15.later (Later.new _ (.cells #[.slice sxw nsw csw, .slice aaw naw caw] 25))
  rw [Later.new_w] at l15
  replace l17 := l17.later (Later.new _ (.cells #[.slice sxw nsw csw, .slice aaw naw caw] 25))
  rw [Later.new_w] at l17
  replace hmx := hmx.later (Later.new _ (.cells #[.slice sxw nsw csw, .slice aaw naw caw] 25))
  rw [Later.new_w] at hmx
  replace l21 := l21.later (Later.new _ (.cells #[.slice sxw nsw csw, .slice aaw naw caw] 25))
  rw [Later.new_w] at l21
  replace hmy := hmy.later (Later.new _ (.cells #[.slice sxw nsw csw, .slice aaw naw caw] 25))
  rw [Later.new_w] at hmy
  replace l24 := l24.later (Later.new _ (.cells #[.slice sxw nsw csw, .slice aaw naw caw] 25))
  rw [Later.new_w] at l24
  replace hmm := hmm.later (Later.new _ (.cells #[.slice sxw nsw csw, .slice aaw naw caw] 25))
  rw [Later.new_w] at hmm
  replace l27 := l27.later (Later.new _ (.cells #[.slice sxw nsw csw, .slice aaw naw caw] 25))
  rw [Later.new_w] at l27
  replace hmw := hmw.later (Later.new _ (.cells #[.slice sxw nsw csw, .slice aaw naw caw] 25))
  rw [Later.new_w] at hmw
  have hsz : (Y29.w.alloc (.cells #[.slice sxw nsw csw, .slice aaw naw caw] 25)).heap.size = B30 + 1 := by rw [hb]; simp
  obtain ⟨Y31, hZ⟩ : ∃ Z : Later W, Z.w = Y29.w.alloc (.cells #[.slice sxw nsw csw, .slice aaw naw caw] 25) := ⟨Y29.step (Later.new _ _), rfl⟩
  rw [← hZ] at S hsz hma hmb hmc hmd l11 l13 l15 l17 hmx l21 hmy l24 hmm l27 hmw l30 ⊢
  clear hZ
  rw [← hb]
  clear hb
  try rw [← hsz]
  clear hsz
  refine (Clash_calls [97, 116, 108, 97, 115] _ _ [4] xA _ _ [] xC _ hma hmc).mono ?_
  rintro e w' ⟨rfl, y, rfl⟩
  rw [show clashV [97, 116, 108, 97, 115] [4] xA [] xC = 5 by decide +kernel, show clashE [97, 116, 108, 97, 115] [4] xA [] xC = 0 by decide +kernel]
  replace hma := hma.later y
  replace hmb := hmb.later y
  replace hmc := hmc.later y
  replace hmd := hmd.later y
  replace l11 := l11.later y
  replace l13 := l13.later y
  replace l15 := l15.later y
  replace l17 := l17.later y
  replace hmx := hmx.later y
  replace l21 := l21.later y
  replace hmy := hmy.later y
  replace l24 := l24.later y
  replace hmm := hmm.later y
  replace l27 := l27.later y
  replace hmw := hmw.later y
  replace l30 := l30.later y
  replace S := S.later y
  obtain ⟨Y32, hZ⟩ : ∃ Z : Later W, Z.w = y.w := ⟨Y31.step (y), rfl⟩
  rw [← hZ] at S hma hmb hmc hmd l11 l13 l15 l17 hmx l21 hmy l24 hmm l27 hmw l30 ⊢
  clear hZ
  clear y
  go_wp2_with fail
  refine (Fewest_calls [101, 110, 103, 114, 97, 118, 101] [103, 114, 97, 118, 101, 110] _).mono ?_
  rintro e w' ⟨rfl, y, rfl⟩
  rw [show fewE [101, 110, 103, 114, 97, 118, 101] [103, 114, 97, 118, 101, 110] = 3 from ex_few.1, show txtsE [101, 110, 103, 114, 97, 118, 101] [103, 114, 97, 118, 101, 110] = 0 from ex_few.2]
  replace hma := hma.later y
  replace hmb := hmb.later y
  replace hmc := hmc.later y
  replace hmd := hmd.later y
  replace l11 := l11.later y
  replace l13 := l13.later y
  replace l15 := l15.later y
  replace l17 := l17.later y
  replace hmx := hmx.later y
  replace l21 := l21.later y
  replace hmy := hmy.later y
  replace l24 := l24.later y
  replace hmm := hmm.later y
  replace l27 := l27.later y
  replace hmw := hmw.later y
  replace l30 := l30.later y
  replace S := S.later y
  obtain ⟨Y33, hZ⟩ : ∃ Z : Later W, Z.w = y.w := ⟨Y32.step (y), rfl⟩
  rw [← hZ] at S hma hmb hmc hmd l11 l13 l15 l17 hmx l21 hmy l24 hmm l27 hmw l30 ⊢
  clear hZ
  clear y
  go_wp2_with fail
  refine (pMarks_calls [101, 110, 103, 114, 97, 118, 101] [103, 114, 97, 118, 101, 110] _).mono ?_
  rintro e w' ⟨sv, av, st, ad, y, rfl, rfl, hmn, hok, -⟩
  rw [show txtsE [101, 110, 103, 114, 97, 118, 101] [103, 114, 97, 118, 101, 110] = 0 from ex_few.2]
  have hok := hok ex_few.2
  have HG := Lib.hid (show readL [101, 110, 103, 114, 97, 118, 101] st ad = [103, 114, 97, 118, 101, 110] ∧ readN [101, 110, 103, 114, 97, 118, 101] st ad = 3 ∧ marksE [101, 110, 103, 114, 97, 118, 101] st ad = 0 by
    have h0 := hok.1.e
    refine ⟨by rw [readL, if_pos h0]; exact hok.2.1, ?_, h0⟩
    have h1 : st.length + cn ad (tEngrave.length + 1) = few tEngrave tGraven := hok.2.2
    rw [ex_len.2] at h1
    rw [readN, if_pos h0]
    show (st.length : Int) + (cn ad (tEngrave.length + 1) : Nat) = 3
    omega)
  have hmg := hmn
  clear hmn hok
  obtain ⟨sxg, nsg, csg, rfl⟩ : ∃ a n c, sv = Value.slice a n c := by obtain ⟨a, c, e⟩ := hmg.s.form; exact ⟨a, _, c, e⟩
  obtain ⟨aag, nag, cag, rfl⟩ : ∃ a n c, av = Value.slice a n c := by obtain ⟨a, c, e⟩ := hmg.a.form; exact ⟨a, _, c, e⟩
  replace hma := hma.later y
  replace hmb := hmb.later y
  replace hmc := hmc.later y
  replace hmd := hmd.later y
  replace l11 := l11.later y
  replace l13 := l13.later y
  replace l15 := l15.later y
  replace l17 := l17.later y
  replace hmx := hmx.later y
  replace l21 := l21.later y
  replace hmy := hmy.later y
  replace l24 := l24.later y
  replace hmm := hmm.later y
  replace l27 := l27.later y
  replace hmw := hmw.later y
  replace l30 := l30.later y
  replace S := S.later y
  obtain ⟨Y34, hZ⟩ : ∃ Z : Later W, Z.w = y.w := ⟨Y33.step (y), rfl⟩
  rw [← hZ] at S hma hmb hmc hmd l11 l13 l15 l17 hmx l21 hmy l24 hmm l27 hmw l30 hmg ⊢
  clear hZ
  clear y
  go_wp2_with fail
  obtain ⟨B35, hb⟩ : ∃ b, b = Y34.w.heap.size := ⟨_, rfl⟩
  have l35 : Lin (Y34.w.alloc (.cells #[.slice sxg nsg csg, .slice aag nag cag] 25)) B35 25 [.slice sxg nsg csg, .slice aag nag cag] := by rw [hb]; exact Lin.new _ _ [.slice sxg nsg csg, .slice aag nag cag]
  replace S := S.later (Later.new _ (.cells #[.slice sxg nsg csg, .slice aag nag cag] 25))
  rw [Later.new_w] at S
  replace hma := hma.later (Later.new _ (.cells #[.slice sxg nsg csg, .slice aag nag cag] 25))
  rw [Later.new_w] at hma
  replace hmb := hmb.later (Later.new _ (.cells #[.slice sxg nsg csg, .slice aag nag cag] 25))
  rw [Later.new_w] at hmb
  replace hmc := hmc.later (Later.new _ (.cells #[.slice sxg nsg csg, .slice aag nag cag] 25))
  rw [Later.new_w] at hmc
  replace hmd := hmd.later (Later.new _ (.cells #[.slice sxg nsg csg, .slice aag nag cag] 25))
  rw [Later.new_w] at hmd
  replace l11 := l11.later (Later.new _ (.cells #[.slice sxg nsg csg, .slice aag nag cag] 25))
  rw [Later.new_w] at l11
  replace l13 := l13.later (Later.new _ (.cells #[.slice sxg nsg csg, .slice aag nag cag] 25))
  rw [Later.new_w] at l13
  replace l15 := l15.later (Later.new _ (.cells #[.slice sxg nsg csg, .slice aag nag cag] 25))
  rw [Later.new_w] at l15
  replace l17 := l17.later (Later.new _ (.cells #[.slice sxg nsg csg, .slice aag nag cag] 25))
  rw [Later.new_w] at l17
  replace hmx := hmx.later (Later.new _ (.cells #[.slice sxg nsg csg, .slice aag nag cag] 25))
  rw [Later.new_w] at hmx
  replace l21 := l21.later (Later.new _ (.cells #[.slice sxg nsg csg, .slice aag nag cag] 25))
  rw [Later.new_w] at l21
  replace hmy := hmy.later (Later.new _ (.cells #[.slice sxg nsg csg, .slice aag nag cag] 25))
  rw [Later.new_w] at hmy
  replace l24 := l24.later (Later.new _ (.cells #[.slice sxg nsg csg, .slice aag nag cag] 25))
  rw [Later.new_w] at l24
  replace hmm := hmm.later (Later.new _ (.cells #[.slice sxg nsg csg, .slice aag nag cag] 25))
  rw [Later.new_w] at hmm
  replace l27 := l27.later (Later.new _ (.cells #[.slice sxg nsg csg, .slice aag nag cag] 25))
  rw [Later.new_w] at l27
  replace hmw := hmw.later (Later.new _ (.cells #[.slice sxg nsg csg, .slice aag nag cag] 25))
  rw [Later.new_w] at hmw
  replace l30 := l30.later (Later.new _ (.cells #[.slice sxg nsg csg, .slice aag nag cag] 25))
  rw [Later.new_w] at l30
  replace hmg := hmg.later (Later.new _ (.cells #[.slice sxg nsg csg, .slice aag nag cag] 25))
  rw [Later.new_w] at hmg
  have hsz : (Y34.w.alloc (.cells #[.slice sxg nsg csg, .slice aag nag cag] 25)).heap.size = B35 + 1 := by rw [hb]; simp
  obtain ⟨Y36, hZ⟩ : ∃ Z : Later W, Z.w = Y34.w.alloc (.cells #[.slice sxg nsg csg, .slice aag nag cag] 25) := ⟨Y34.step (Later.new _ _), rfl⟩
  rw [← hZ] at S hsz hma hmb hmc hmd l11 l13 l15 l17 hmx l21 hmy l24 hmm l27 hmw l30 hmg l35 ⊢
  clear hZ
  rw [← hb]
  clear hb
  try rw [← hsz]
  clear hsz
  have hq := (PrsM.lit Y36.w (lo := Y36.w.heap.size) [(2, 0), (3, 1), (4, 2)] (arr := #[.int .i64 2, .int .i64 0, .int .i64 3, .int .i64 1, .int .i64 4, .int .i64 2]) (n := 3) rfl (Nat.le_refl _) rfl rfl (by decide)).prs (by decide)
  replace S := S.later (Later.new _ (.cells #[.int .i64 2, .int .i64 0, .int .i64 3, .int .i64 1, .int .i64 4, .int .i64 2] 78))
  rw [Later.new_w] at S
  replace hma := hma.later (Later.new _ (.cells #[.int .i64 2, .int .i64 0, .int .i64 3, .int .i64 1, .int .i64 4, .int .i64 2] 78))
  rw [Later.new_w] at hma
  replace hmb := hmb.later (Later.new _ (.cells #[.int .i64 2, .int .i64 0, .int .i64 3, .int .i64 1, .int .i64 4, .int .i64 2] 78))
  rw [Later.new_w] at hmb
  replace hmc := hmc.later (Later.new _ (.cells #[.int .i64 2, .int .i64 0, .int .i64 3, .int .i64 1, .int .i64 4, .int .i64 2] 78))
  rw [Later.new_w] at hmc
  replace hmd := hmd.later (Later.new _ (.cells #[.int .i64 2, .int .i64 0, .int .i64 3, .int .i64 1, .int .i64 4, .int .i64 2] 78))
  rw [Later.new_w] at hmd
  replace l11 := l11.later (Later.new _ (.cells #[.int .i64 2, .int .i64 0, .int .i64 3, .int .i64 1, .int .i64 4, .int .i64 2] 78))
  rw [Later.new_w] at l11
  replace l13 := l13.later (Later.new _ (.cells #[.int .i64 2, .int .i64 0, .int .i64 3, .int .i64 1, .int .i64 4, .int .i64 2] 78))
  rw [Later.new_w] at l13
  replace l15 := l15.later (Later.new _ (.cells #[.int .i64 2, .int .i64 0, .int .i64 3, .int .i64 1, .int .i64 4, .int .i64 2] 78))
  rw [Later.new_w] at l15
  replace l17 := l17.later (Later.new _ (.cells #[.int .i64 2, .int .i64 0, .int .i64 3, .int .i64 1, .int .i64 4, .int .i64 2] 78))
  rw [Later.new_w] at l17
  replace hmx := hmx.later (Later.new _ (.cells #[.int .i64 2, .int .i64 0, .int .i64 3, .int .i64 1, .int .i64 4, .int .i64 2] 78))
  rw [Later.new_w] at hmx
  replace l21 := l21.later (Later.new _ (.cells #[.int .i64 2, .int .i64 0, .int .i64 3, .int .i64 1, .int .i64 4, .int .i64 2] 78))
  rw [Later.new_w] at l21
  replace hmy := hmy.later (Later.new _ (.cells #[.int .i64 2, .int .i64 0, .int .i64 3, .int .i64 1, .int .i64 4, .int .i64 2] 78))
  rw [Later.new_w] at hmy
  replace l24 := l24.later (Later.new _ (.cells #[.int .i64 2, .int .i64 0, .int .i64 3, .int .i64 1, .int .i64 4, .int .i64 2] 78))
  rw [Later.new_w] at l24
  replace hmm := hmm.later (Later.new _ (.cells #[.int .i64 2, .int .i64 0, .int .i64 3, .int .i64 1, .int .i64 4, .int .i64 2] 78))
  rw [Later.new_w] at hmm
  replace l27 := l27.later (Later.new _ (.cells #[.int .i64 2, .int .i64 0, .int .i64 3, .int .i64 1, .int .i64 4, .int .i64 2] 78))
  rw [Later.new_w] at l27
  replace hmw := hmw.later (Later.new _ (.cells #[.int .i64 2, .int .i64 0, .int .i64 3, .int .i64 1, .int .i64 4, .int .i64 2] 78))
  rw [Later.new_w] at hmw
  replace l30 := l30.later (Later.new _ (.cells #[.int .i64 2, .int .i64 0, .int .i64 3, .int .i64 1, .int .i64 4, .int .i64 2] 78))
  rw [Later.new_w] at l30
  replace hmg := hmg.later (Later.new _ (.cells #[.int .i64 2, .int .i64 0, .int .i64 3, .int .i64 1, .int .i64 4, .int .i64 2] 78))
  rw [Later.new_w] at hmg
  replace l35 := l35.later (Later.new _ (.cells #[.int .i64 2, .int .i64 0, .int .i64 3, .int .i64 1, .int .i64 4, .int .i64 2] 78))
  rw [Later.new_w] at l35
  obtain ⟨Y37, hZ⟩ : ∃ Z : Later W, Z.w = Y36.w.alloc (.cells #[.int .i64 2, .int .i64 0, .int .i64 3, .int .i64 1, .int .i64 4, .int .i64 2] 78) := ⟨Y36.step (Later.new _ _), rfl⟩
  rw [← hZ] at S hma hmb hmc hmd l11 l13 l15 l17 hmx l21 hmy l24 hmm l27 hmw l30 hmg l35 hq ⊢
  clear hZ
  obtain ⟨LB, hb⟩ : ∃ b, b = Y36.w.heap.size := ⟨_, rfl⟩
  rw [← hb] at hq ⊢
  clear hb
  refine (CheckCommon_calls [101, 110, 103, 114, 97, 118, 101] [103, 114, 97, 118, 101, 110] _ [(2, 0), (3, 1), (4, 2)] _ (by exact hq)).mono ?_
  rintro e w' ⟨rfl, y, rfl⟩
  rw [show ccN [101, 110, 103, 114, 97, 118, 101] [103, 114, 97, 118, 101, 110] [(2, 0), (3, 1), (4, 2)] = 3 by decide +kernel, show ccE [101, 110, 103, 114, 97, 118, 101] [103, 114, 97, 118, 101, 110] [(2, 0), (3, 1), (4, 2)] = 0 by decide +kernel]
  replace hma := hma.later y
  replace hmb := hmb.later y
  replace hmc := hmc.later y
  replace hmd := hmd.later y
  replace l11 := l11.later y
  replace l13 := l13.later y
  replace l15 := l15.later y
  replace l17 := l17.later y
  replace hmx := hmx.later y
  replace l21 := l21.later y
  replace hmy := hmy.later y
  replace l24 := l24.later y
  replace hmm := hmm.later y
  replace l27 := l27.later y
  replace hmw := hmw.later y
  replace l30 := l30.later y
  replace hmg := hmg.later y
  replace l35 := l35.later y
  replace S := S.later y
  obtain ⟨Y38, hZ⟩ : ∃ Z : Later W, Z.w = y.w := ⟨Y37.step (y), rfl⟩
  rw [← hZ] at S hma hmb hmc hmd l11 l13 l15 l17 hmx l21 hmy l24 hmm l27 hmw l30 hmg l35 ⊢
  clear hZ
  clear y
  clear hq
  go_wp2_with fail
  have hq := (PrsM.lit Y38.w (lo := Y38.w.heap.size) [(3, 1), (2, 0)] (arr := #[.int .i64 3, .int .i64 1, .int .i64 2, .int .i64 0]) (n := 2) rfl (Nat.le_refl _) rfl rfl (by decide)).prs (by decide)
  replace S := S.later (Later.new _ (.cells #[.int .i64 3, .int .i64 1, .int .i64 2, .int .i64 0] 78))
  rw [Later.new_w] at S
  replace hma := hma.later (Later.new _ (.cells #[.int .i64 3, .int .i64 1, .int .i64 2, .int .i64 0] 78))
  rw [Later.new_w] at hma
  replace hmb := hmb.later (Later.new _ (.cells #[.int .i64 3, .int .i64 1, .int .i64 2, .int .i64 0] 78))
  rw [Later.new_w] at hmb
  replace hmc := hmc.later (Later.new _ (.cells #[.int .i64 3, .int .i64 1, .int .i64 2, .int .i64 0] 78))
  rw [Later.new_w] at hmc
  replace hmd := hmd.later (Later.new _ (.cells #[.int .i64 3, .int .i64 1, .int .i64 2, .int .i64 0] 78))
  rw [Later.new_w] at hmd
  replace l11 := l11.later (Later.new _ (.cells #[.int .i64 3, .int .i64 1, .int .i64 2, .int .i64 0] 78))
  rw [Later.new_w] at l11
  replace l13 := l13.later (Later.new _ (.cells #[.int .i64 3, .int .i64 1, .int .i64 2, .int .i64 0] 78))
  rw [Later.new_w] at l13
  replace l15 := l15.later (Later.new _ (.cells #[.int .i64 3, .int .i64 1, .int .i64 2, .int .i64 0] 78))
  rw [Later.new_w] at l15
  replace l17 := l17.later (Later.new _ (.cells #[.int .i64 3, .int .i64 1, .int .i64 2, .int .i64 0] 78))
  rw [Later.new_w] at l17
  replace hmx := hmx.later (Later.new _ (.cells #[.int .i64 3, .int .i64 1, .int .i64 2, .int .i64 0] 78))
  rw [Later.new_w] at hmx
  replace l21 := l21.later (Later.new _ (.cells #[.int .i64 3, .int .i64 1, .int .i64 2, .int .i64 0] 78))
  rw [Later.new_w] at l21
  replace hmy := hmy.later (Later.new _ (.cells #[.int .i64 3, .int .i64 1, .int .i64 2, .int .i64 0] 78))
  rw [Later.new_w] at hmy
  replace l24 := l24.later (Later.new _ (.cells #[.int .i64 3, .int .i64 1, .int .i64 2, .int .i64 0] 78))
  rw [Later.new_w] at l24
  replace hmm := hmm.later (Later.new _ (.cells #[.int .i64 3, .int .i64 1, .int .i64 2, .int .i64 0] 78))
  rw [Later.new_w] at hmm
  replace l27 := l27.later (Later.new _ (.cells #[.int .i64 3, .int .i64 1, .int .i64 2, .int .i64 0] 78))
  rw [Later.new_w] at l27
  replace hmw := hmw.later (Later.new _ (.cells #[.int .i64 3, .int .i64 1, .int .i64 2, .int .i64 0] 78))
  rw [Later.new_w] at hmw
  replace l30 := l30.later (Later.new _ (.cells #[.int .i64 3, .int .i64 1, .int .i64 2, .int .i64 0] 78))
  rw [Later.new_w] at l30
  replace hmg := hmg.later (Later.new _ (.cells #[.int .i64 3, .int .i64 1, .int .i64 2, .int .i64 0] 78))
  rw [Later.new_w] at hmg
  replace l35 := l35.later (Later.new _ (.cells #[.int .i64 3, .int .i64 1, .int .i64 2, .int .i64 0] 78))
  rw [Later.new_w] at l35
  obtain ⟨Y39, hZ⟩ : ∃ Z : Later W, Z.w = Y38.w.alloc (.cells #[.int .i64 3, .int .i64 1, .int .i64 2, .int .i64 0] 78) := ⟨Y38.step (Later.new _ _), rfl⟩
  rw [← hZ] at S hma hmb hmc hmd l11 l13 l15 l17 hmx l21 hmy l24 hmm l27 hmw l30 hmg l35 hq ⊢
  clear hZ
  obtain ⟨LB, hb⟩ : ∃ b, b = Y38.w.heap.size := ⟨_, rfl⟩
  rw [← hb] at hq ⊢
  clear hb
  refine (CheckCommon_calls [101, 110, 103, 114, 97, 118, 101] [103, 114, 97, 118, 101, 110] _ [(3, 1), (2, 0)] _ (by exact hq)).mono ?_
  rintro e w' ⟨rfl, y, rfl⟩
  rw [show ccN [101, 110, 103, 114, 97, 118, 101] [103, 114, 97, 118, 101, 110] [(3, 1), (2, 0)] = 0 by decide +kernel, show ccE [101, 110, 103, 114, 97, 118, 101] [103, 114, 97, 118, 101, 110] [(3, 1), (2, 0)] = 14 by decide +kernel]
  replace hma := hma.later y
  replace hmb := hmb.later y
  replace hmc := hmc.later y
  replace hmd := hmd.later y
  replace l11 := l11.later y
  replace l13 := l13.later y
  replace l15 := l15.later y
  replace l17 := l17.later y
  replace hmx := hmx.later y
  replace l21 := l21.later y
  replace hmy := hmy.later y
  replace l24 := l24.later y
  replace hmm := hmm.later y
  replace l27 := l27.later y
  replace hmw := hmw.later y
  replace l30 := l30.later y
  replace hmg := hmg.later y
  replace l35 := l35.later y
  replace S := S.later y
  obtain ⟨Y40, hZ⟩ : ∃ Z : Later W, Z.w = y.w := ⟨Y39.step (y), rfl⟩
  rw [← hZ] at S hma hmb hmc hmd l11 l13 l15 l17 hmx l21 hmy l24 hmm l27 hmw l30 hmg l35 ⊢
  clear hZ
  clear y
  clear hq
  go_wp2_with fail
  refine (Common_calls [101, 110, 103, 114, 97, 118, 101] [103, 114, 97, 118, 101, 110] _).mono ?_
  rintro e w' ⟨cv, ps, y, rfl, rfl, hpo, hok, -⟩
  rw [show txtsE [101, 110, 103, 114, 97, 118, 101] [103, 114, 97, 118, 101, 110] = 0 from ex_few.2]
  have hok := hok ex_few.2
  obtain ⟨ap, np, cp, rfl⟩ : ∃ a n c, cv = Value.slice a n c := by obtain ⟨a, c, e⟩ := hpo.form; exact ⟨a, _, c, e⟩
  have HCC := Lib.hid (show ccN [101, 110, 103, 114, 97, 118, 101] [103, 114, 97, 118, 101, 110] (ps.map natP) = 5 ∧ ccE [101, 110, 103, 114, 97, 118, 101] [103, 114, 97, 118, 101, 110] (ps.map natP) = 0 by
    have h := cp_cc (show txtsE [101, 110, 103, 114, 97, 118, 101] [103, 114, 97, 118, 101, 110] = 0 from ex_few.2) hok.1
    refine ⟨?_, h.1⟩
    rw [h.2, hok.2, show len [101, 110, 103, 114, 97, 118, 101] [103, 114, 97, 118, 101, 110] = 5 from ex_len.1]; rfl)
  clear hok
  replace hma := hma.later y
  replace hmb := hmb.later y
  replace hmc := hmc.later y
  replace hmd := hmd.later y
  replace l11 := l11.later y
  replace l13 := l13.later y
  replace l15 := l15.later y
  replace l17 := l17.later y
  replace hmx := hmx.later y
  replace l21 := l21.later y
  replace hmy := hmy.later y
  replace l24 := l24.later y
  replace hmm := hmm.later y
  replace l27 := l27.later y
  replace hmw := hmw.later y
  replace l30 := l30.later y
  replace hmg := hmg.later y
  replace l35 := l35.later y
  replace S := S.later y
  obtain ⟨Y41, hZ⟩ : ∃ Z : Later W, Z.w = y.w := ⟨Y40.step (y), rfl⟩
  rw [← hZ] at S hma hmb hmc hmd l11 l13 l15 l17 hmx l21 hmy l24 hmm l27 hmw l30 hmg l35 hpo ⊢
  clear hZ
  clear y
  go_wp2_with fail
  obtain ⟨L42, hb⟩ : ∃ b, b = Y41.w.heap.size := ⟨_, rfl⟩
  replace S : Ins (Y41.w.alloc (.cells #[.int .i64 1, .int .i64 2, .int .i64 1, .int .i64 2, .int .i64 3, .int .i64 4, .int .i64 5] 3)) [(.slice (some ⟨L42, 0, none⟩) 7 7, [1, 2, 1, 2, 3, 4, 5]), (.slice (some ⟨L8, 0, none⟩) 1 1, [0]), (.slice (some ⟨L4, 0, none⟩) 1 1, [0]), (.slice (some ⟨L1, 0, none⟩) 1 1, [4])] := (S.later (Later.new _ _)).cons (Ints.lit _ [1, 2, 1, 2, 3, 4, 5] 3 hb rfl rfl (by decide))
  replace hma := hma.later (Later.new _ (.cells #[.int .i64 1, .int .i64 2, .int .i64 1, .int .i64 2, .int .i64 3, .int .i64 4, .int .i64 5] 3))
  rw [Later.new_w] at hma
  replace hmb := hmb.later (Later.new _ (.cells #[.int .i64 1, .int .i64 2, .int .i64 1, .int .i64 2, .int .i64 3, .int .i64 4, .int .i64 5] 3))
  rw [Later.new_w] at hmb
  replace hmc := hmc.later (Later.new _ (.cells #[.int .i64 1, .int .i64 2, .int .i64 1, .int .i64 2, .int .i64 3, .int .i64 4, .int .i64 5] 3))
  rw [Later.new_w] at hmc
  replace hmd := hmd.later (Later.new _ (.cells #[.int .i64 1, .int .i64 2, .int .i64 1, .int .i64 2, .int .i64 3, .int .i64 4, .int .i64 5] 3))
  rw [Later.new_w] at hmd
  replace l11 := l11.later (Later.new _ (.cells #[.int .i64 1, .int .i64 2, .int .i64 1, .int .i64 2, .int .i64 3, .int .i64 4, .int .i64 5] 3))
  rw [Later.new_w] at l11
  replace l13 := l13.later (Later.new _ (.cells #[.int .i64 1, .int .i64 2, .int .i64 1, .int .i64 2, .int .i64 3, .int .i64 4, .int .i64 5] 3))
  rw [Later.new_w] at l13
  replace l15 := l15.later (Later.new _ (.cells #[.int .i64 1, .int .i64 2, .int .i64 1, .int .i64 2, .int .i64 3, .int .i64 4, .int .i64 5] 3))
  rw [Later.new_w] at l15
  replace l17 := l17.later (Later.new _ (.cells #[.int .i64 1, .int .i64 2, .int .i64 1, .int .i64 2, .int .i64 3, .int .i64 4, .int .i64 5] 3))
  rw [Later.new_w] at l17
  replace hmx := hmx.later (Later.new _ (.cells #[.int .i64 1, .int .i64 2, .int .i64 1, .int .i64 2, .int .i64 3, .int .i64 4, .int .i64 5] 3))
  rw [Later.new_w] at hmx
  replace l21 := l21.later (Later.new _ (.cells #[.int .i64 1, .int .i64 2, .int .i64 1, .int .i64 2, .int .i64 3, .int .i64 4, .int .i64 5] 3))
  rw [Later.new_w] at l21
  replace hmy := hmy.later (Later.new _ (.cells #[.int .i64 1, .int .i64 2, .int .i64 1, .int .i64 2, .int .i64 3, .int .i64 4, .int .i64 5] 3))
  rw [Later.new_w] at hmy
  replace l24 := l24.later (Later.new _ (.cells #[.int .i64 1, .int .i64 2, .int .i64 1, .int .i64 2, .int .i64 3, .int .i64 4, .int .i64 5] 3))
  rw [Later.new_w] at l24
  replace hmm := hmm.later (Later.new _ (.cells #[.int .i64 1, .int .i64 2, .int .i64 1, .int .i64 2, .int .i64 3, .int .i64 4, .int .i64 5] 3))
  rw [Later.new_w] at hmm
  replace l27 := l27.later (Later.new _ (.cells #[.int .i64 1, .int .i64 2, .int .i64 1, .int .i64 2, .int .i64 3, .int .i64 4, .int .i64 5] 3))
  rw [Later.new_w] at l27
  replace hmw := hmw.later (Later.new _ (.cells #[.int .i64 1, .int .i64 2, .int .i64 1, .int .i64 2, .int .i64 3, .int .i64 4, .int .i64 5] 3))
  rw [Later.new_w] at hmw
  replace l30 := l30.later (Later.new _ (.cells #[.int .i64 1, .int .i64 2, .int .i64 1, .int .i64 2, .int .i64 3, .int .i64 4, .int .i64 5] 3))
  rw [Later.new_w] at l30
  replace hmg := hmg.later (Later.new _ (.cells #[.int .i64 1, .int .i64 2, .int .i64 1, .int .i64 2, .int .i64 3, .int .i64 4, .int .i64 5] 3))
  rw [Later.new_w] at hmg
  replace l35 := l35.later (Later.new _ (.cells #[.int .i64 1, .int .i64 2, .int .i64 1, .int .i64 2, .int .i64 3, .int .i64 4, .int .i64 5] 3))
  rw [Later.new_w] at l35
  replace hpo := hpo.later (Later.new _ (.cells #[.int .i64 1, .int .i64 2, .int .i64 1, .int .i64 2, .int .i64 3, .int .i64 4, .int .i64 5] 3))
  rw [Later.new_w] at hpo
  obtain ⟨Y43, hZ⟩ : ∃ Z : Later W, Z.w = Y41.w.alloc (.cells #[.int .i64 1, .int .i64 2, .int .i64 1, .int .i64 2, .int .i64 3, .int .i64 4, .int .i64 5] 3) := ⟨Y41.step (Later.new _ _), rfl⟩
  rw [← hZ] at S hma hmb hmc hmd l11 l13 l15 l17 hmx l21 hmy l24 hmm l27 hmw l30 hmg l35 hpo ⊢
  clear hZ
  rw [← hb]
  clear hb
  refine (of_calls _ _ _ _ rfl _).mono ?_
  rintro e w' ⟨rfl, hw⟩
  rw [hw]
  clear hw w'
  go_wp2_with fail
  refine (CheckLabels_calls [101, 110, 103, 114, 97, 118, 101] [103, 114, 97, 118, 101, 110] _ [1, 2, 1, 2, 3, 4, 5] _ (S.at (v := .slice (some ⟨L42, 0, none⟩) 7 7) (xs := [1, 2, 1, 2, 3, 4, 5]) (by simp))).mono ?_
  rintro e w' ⟨rfl, y, rfl⟩
  rw [show lbN [101, 110, 103, 114, 97, 118, 101] [103, 114, 97, 118, 101, 110] [1, 2, 1, 2, 3, 4, 5] = 5 from ex_lb.1, show lbE [101, 110, 103, 114, 97, 118, 101] [103, 114, 97, 118, 101, 110] [1, 2, 1, 2, 3, 4, 5] = 0 from ex_lb.2.1]
  replace hma := hma.later y
  replace hmb := hmb.later y
  replace hmc := hmc.later y
  replace hmd := hmd.later y
  replace l11 := l11.later y
  replace l13 := l13.later y
  replace l15 := l15.later y
  replace l17 := l17.later y
  replace hmx := hmx.later y
  replace l21 := l21.later y
  replace hmy := hmy.later y
  replace l24 := l24.later y
  replace hmm := hmm.later y
  replace l27 := l27.later y
  replace hmw := hmw.later y
  replace l30 := l30.later y
  replace hmg := hmg.later y
  replace l35 := l35.later y
  replace hpo := hpo.later y
  replace S := S.later y
  obtain ⟨Y44, hZ⟩ : ∃ Z : Later W, Z.w = y.w := ⟨Y43.step (y), rfl⟩
  rw [← hZ] at S hma hmb hmc hmd l11 l13 l15 l17 hmx l21 hmy l24 hmm l27 hmw l30 hmg l35 hpo ⊢
  clear hZ
  clear y
  go_wp2_with fail
  obtain ⟨L45, hb⟩ : ∃ b, b = Y44.w.heap.size := ⟨_, rfl⟩
  replace S : Ins (Y44.w.alloc (.cells #[.int .i64 1, .int .i64 1, .int .i64 1, .int .i64 2, .int .i64 3, .int .i64 4, .int .i64 5] 3)) [(.slice (some ⟨L45, 0, none⟩) 7 7, [1, 1, 1, 2, 3, 4, 5]), (.slice (some ⟨L42, 0, none⟩) 7 7, [1, 2, 1, 2, 3, 4, 5]), (.slice (some ⟨L8, 0, none⟩) 1 1, [0]), (.slice (some ⟨L4, 0, none⟩) 1 1, [0]), (.slice (some ⟨L1, 0, none⟩) 1 1, [4])] := (S.later (Later.new _ _)).cons (Ints.lit _ [1, 1, 1, 2, 3, 4, 5] 3 hb rfl rfl (by decide))
  replace hma := hma.later (Later.new _ (.cells #[.int .i64 1, .int .i64 1, .int .i64 1, .int .i64 2, .int .i64 3, .int .i64 4, .int .i64 5] 3))
  rw [Later.new_w] at hma
  replace hmb := hmb.later (Later.new _ (.cells #[.int .i64 1, .int .i64 1, .int .i64 1, .int .i64 2, .int .i64 3, .int .i64 4, .int .i64 5] 3))
  rw [Later.new_w] at hmb
  replace hmc := hmc.later (Later.new _ (.cells #[.int .i64 1, .int .i64 1, .int .i64 1, .int .i64 2, .int .i64 3, .int .i64 4, .int .i64 5] 3))
  rw [Later.new_w] at hmc
  replace hmd := hmd.later (Later.new _ (.cells #[.int .i64 1, .int .i64 1, .int .i64 1, .int .i64 2, .int .i64 3, .int .i64 4, .int .i64 5] 3))
  rw [Later.new_w] at hmd
  replace l11 := l11.later (Later.new _ (.cells #[.int .i64 1, .int .i64 1, .int .i64 1, .int .i64 2, .int .i64 3, .int .i64 4, .int .i64 5] 3))
  rw [Later.new_w] at l11
  replace l13 := l13.later (Later.new _ (.cells #[.int .i64 1, .int .i64 1, .int .i64 1, .int .i64 2, .int .i64 3, .int .i64 4, .int .i64 5] 3))
  rw [Later.new_w] at l13
  replace l15 := l15.later (Later.new _ (.cells #[.int .i64 1, .int .i64 1, .int .i64 1, .int .i64 2, .int .i64 3, .int .i64 4, .int .i64 5] 3))
  rw [Later.new_w] at l15
  replace l17 := l17.later (Later.new _ (.cells #[.int .i64 1, .int .i64 1, .int .i64 1, .int .i64 2, .int .i64 3, .int .i64 4, .int .i64 5] 3))
  rw [Later.new_w] at l17
  replace hmx := hmx.later (Later.new _ (.cells #[.int .i64 1, .int .i64 1, .int .i64 1, .int .i64 2, .int .i64 3, .int .i64 4, .int .i64 5] 3))
  rw [Later.new_w] at hmx
  replace l21 := l21.later (Later.new _ (.cells #[.int .i64 1, .int .i64 1, .int .i64 1, .int .i64 2, .int .i64 3, .int .i64 4, .int .i64 5] 3))
  rw [Later.new_w] at l21
  replace hmy := hmy.later (Later.new _ (.cells #[.int .i64 1, .int .i64 1, .int .i64 1, .int .i64 2, .int .i64 3, .int .i64 4, .int .i64 5] 3))
  rw [Later.new_w] at hmy
  replace l24 := l24.later (Later.new _ (.cells #[.int .i64 1, .int .i64 1, .int .i64 1, .int .i64 2, .int .i64 3, .int .i64 4, .int .i64 5] 3))
  rw [Later.new_w] at l24
  replace hmm := hmm.later (Later.new _ (.cells #[.int .i64 1, .int .i64 1, .int .i64 1, .int .i64 2, .int .i64 3, .int .i64 4, .int .i64 5] 3))
  rw [Later.new_w] at hmm
  replace l27 := l27.later (Later.new _ (.cells #[.int .i64 1, .int .i64 1, .int .i64 1, .int .i64 2, .int .i64 3, .int .i64 4, .int .i64 5] 3))
  rw [Later.new_w] at l27
  replace hmw := hmw.later (Later.new _ (.cells #[.int .i64 1, .int .i64 1, .int .i64 1, .int .i64 2, .int .i64 3, .int .i64 4, .int .i64 5] 3))
  rw [Later.new_w] at hmw
  replace l30 := l30.later (Later.new _ (.cells #[.int .i64 1, .int .i64 1, .int .i64 1, .int .i64 2, .int .i64 3, .int .i64 4, .int .i64 5] 3))
  rw [Later.new_w] at l30
  replace hmg := hmg.later (Later.new _ (.cells #[.int .i64 1, .int .i64 1, .int .i64 1, .int .i64 2, .int .i64 3, .int .i64 4, .int .i64 5] 3))
  rw [Later.new_w] at hmg
  replace l35 := l35.later (Later.new _ (.cells #[.int .i64 1, .int .i64 1, .int .i64 1, .int .i64 2, .int .i64 3, .int .i64 4, .int .i64 5] 3))
  rw [Later.new_w] at l35
  replace hpo := hpo.later (Later.new _ (.cells #[.int .i64 1, .int .i64 1, .int .i64 1, .int .i64 2, .int .i64 3, .int .i64 4, .int .i64 5] 3))
  rw [Later.new_w] at hpo
  obtain ⟨Y46, hZ⟩ : ∃ Z : Later W, Z.w = Y44.w.alloc (.cells #[.int .i64 1, .int .i64 1, .int .i64 1, .int .i64 2, .int .i64 3, .int .i64 4, .int .i64 5] 3) := ⟨Y44.step (Later.new _ _), rfl⟩
  rw [← hZ] at S hma hmb hmc hmd l11 l13 l15 l17 hmx l21 hmy l24 hmm l27 hmw l30 hmg l35 hpo ⊢
  clear hZ
  rw [← hb]
  clear hb
  refine (of_calls _ _ _ _ rfl _).mono ?_
  rintro e w' ⟨rfl, hw⟩
  rw [hw]
  clear hw w'
  go_wp2_with fail
  refine (CheckLabels_calls [101, 110, 103, 114, 97, 118, 101] [103, 114, 97, 118, 101, 110] _ [1, 1, 1, 2, 3, 4, 5] _ (S.at (v := .slice (some ⟨L45, 0, none⟩) 7 7) (xs := [1, 1, 1, 2, 3, 4, 5]) (by simp))).mono ?_
  rintro e w' ⟨rfl, y, rfl⟩
  rw [show lbN [101, 110, 103, 114, 97, 118, 101] [103, 114, 97, 118, 101, 110] [1, 1, 1, 2, 3, 4, 5] = 0 by decide +kernel, show lbE [101, 110, 103, 114, 97, 118, 101] [103, 114, 97, 118, 101, 110] [1, 1, 1, 2, 3, 4, 5] = 14 from ex_lb.2.2]
  replace hma := hma.later y
  replace hmb := hmb.later y
  replace hmc := hmc.later y
  replace hmd := hmd.later y
  replace l11 := l11.later y
  replace l13 := l13.later y
  replace l15 := l15.later y
  replace l17 := l17.later y
  replace hmx := hmx.later y
  replace l21 := l21.later y
  replace hmy := hmy.later y
  replace l24 := l24.later y
  replace hmm := hmm.later y
  replace l27 := l27.later y
  replace hmw := hmw.later y
  replace l30 := l30.later y
  replace hmg := hmg.later y
  replace l35 := l35.later y
  replace hpo := hpo.later y
  replace S := S.later y
  obtain ⟨Y47, hZ⟩ : ∃ Z : Later W, Z.w = y.w := ⟨Y46.step (y), rfl⟩
  rw [← hZ] at S hma hmb hmc hmd l11 l13 l15 l17 hmx l21 hmy l24 hmm l27 hmw l30 hmg l35 hpo ⊢
  clear hZ
  clear y
  go_wp2_with fail
  refine (Labels_calls [101, 110, 103, 114, 97, 118, 101] [103, 114, 97, 118, 101, 110] _).mono ?_
  rintro e w' ⟨v, y, rfl, rfl, hR⟩
  rw [show labelsL [101, 110, 103, 114, 97, 118, 101] [103, 114, 97, 118, 101, 110] = [1, 2, 1, 2, 3, 4, 5] from ex_labels] at hR
  rw [show txtsE [101, 110, 103, 114, 97, 118, 101] [103, 114, 97, 118, 101, 110] = 0 from ex_few.2]
  replace hma := hma.later y
  replace hmb := hmb.later y
  replace hmc := hmc.later y
  replace hmd := hmd.later y
  replace l11 := l11.later y
  replace l13 := l13.later y
  replace l15 := l15.later y
  replace l17 := l17.later y
  replace hmx := hmx.later y
  replace l21 := l21.later y
  replace hmy := hmy.later y
  replace l24 := l24.later y
  replace hmm := hmm.later y
  replace l27 := l27.later y
  replace hmw := hmw.later y
  replace l30 := l30.later y
  replace hmg := hmg.later y
  replace l35 := l35.later y
  replace hpo := hpo.later y
  replace S := S.later y
  obtain ⟨a48, n48, c48, rfl⟩ : ∃ a n c, v = .slice a n c := by obtain ⟨a, c, e⟩ := hR.form; exact ⟨a, _, c, e⟩
  replace S := S.cons hR
  obtain ⟨Y49, hZ⟩ : ∃ Z : Later W, Z.w = y.w := ⟨Y47.step (y), rfl⟩
  rw [← hZ] at S hma hmb hmc hmd l11 l13 l15 l17 hmx l21 hmy l24 hmm l27 hmw l30 hmg l35 hpo ⊢
  clear hZ
  clear y hR
  go_wp2_with fail
  refine (Unseen_calls 8 6 4 1 2 _).mono ?_
  rintro e w' ⟨y, rfl, rfl⟩
  rw [ex_uns.1, ex_uns.2.1]
  replace hma := hma.later y
  replace hmb := hmb.later y
  replace hmc := hmc.later y
  replace hmd := hmd.later y
  replace l11 := l11.later y
  replace l13 := l13.later y
  replace l15 := l15.later y
  replace l17 := l17.later y
  replace hmx := hmx.later y
  replace l21 := l21.later y
  replace hmy := hmy.later y
  replace l24 := l24.later y
  replace hmm := hmm.later y
  replace l27 := l27.later y
  replace hmw := hmw.later y
  replace l30 := l30.later y
  replace hmg := hmg.later y
  replace l35 := l35.later y
  replace hpo := hpo.later y
  replace S := S.later y
  obtain ⟨Y50, hZ⟩ : ∃ Z : Later W, Z.w = y.w := ⟨Y49.step (y), rfl⟩
  rw [← hZ] at S hma hmb hmc hmd l11 l13 l15 l17 hmx l21 hmy l24 hmm l27 hmw l30 hmg l35 hpo ⊢
  clear hZ
  clear y
  go_wp2_with fail
  obtain ⟨B51, hb⟩ : ∃ b, b = Y50.w.heap.size := ⟨_, rfl⟩
  have l51 : Lin (Y50.w.alloc (.cells #[.int .i64 0, .int .i64 2] 57)) B51 57 [.int .i64 0, .int .i64 2] := by rw [hb]; exact Lin.new _ _ [.int .i64 0, .int .i64 2]
  replace S := S.later (Later.new _ (.cells #[.int .i64 0, .int .i64 2] 57))
  rw [Later.new_w] at S
  replace hma := hma.later (Later.new _ (.cells #[.int .i64 0, .int .i64 2] 57))
  rw [Later.new_w] at hma
  replace hmb := hmb.later (Later.new _ (.cells #[.int .i64 0, .int .i64 2] 57))
  rw [Later.new_w] at hmb
  replace hmc := hmc.later (Later.new _ (.cells #[.int .i64 0, .int .i64 2] 57))
  rw [Later.new_w] at hmc
  replace hmd := hmd.later (Later.new _ (.cells #[.int .i64 0, .int .i64 2] 57))
  rw [Later.new_w] at hmd
  replace l11 := l11.later (Later.new _ (.cells #[.int .i64 0, .int .i64 2] 57))
  rw [Later.new_w] at l11
  replace l13 := l13.later (Later.new _ (.cells #[.int .i64 0, .int .i64 2] 57))
  rw [Later.new_w] at l13
  replace l15 := l15.later (Later.new _ (.cells #[.int .i64 0, .int .i64 2] 57))
  rw [Later.new_w] at l15
  replace l17 := l17.later (Later.new _ (.cells #[.int .i64 0, .int .i64 2] 57))
  rw [Later.new_w] at l17
  replace hmx := hmx.later (Later.new _ (.cells #[.int .i64 0, .int .i64 2] 57))
  rw [Later.new_w] at hmx
  replace l21 := l21.later (Later.new _ (.cells #[.int .i64 0, .int .i64 2] 57))
  rw [Later.new_w] at l21
  replace hmy := hmy.later (Later.new _ (.cells #[.int .i64 0, .int .i64 2] 57))
  rw [Later.new_w] at hmy
  replace l24 := l24.later (Later.new _ (.cells #[.int .i64 0, .int .i64 2] 57))
  rw [Later.new_w] at l24
  replace hmm := hmm.later (Later.new _ (.cells #[.int .i64 0, .int .i64 2] 57))
  rw [Later.new_w] at hmm
  replace l27 := l27.later (Later.new _ (.cells #[.int .i64 0, .int .i64 2] 57))
  rw [Later.new_w] at l27
  replace hmw := hmw.later (Later.new _ (.cells #[.int .i64 0, .int .i64 2] 57))
  rw [Later.new_w] at hmw
  replace l30 := l30.later (Later.new _ (.cells #[.int .i64 0, .int .i64 2] 57))
  rw [Later.new_w] at l30
  replace hmg := hmg.later (Later.new _ (.cells #[.int .i64 0, .int .i64 2] 57))
  rw [Later.new_w] at hmg
  replace l35 := l35.later (Later.new _ (.cells #[.int .i64 0, .int .i64 2] 57))
  rw [Later.new_w] at l35
  replace hpo := hpo.later (Later.new _ (.cells #[.int .i64 0, .int .i64 2] 57))
  rw [Later.new_w] at hpo
  have hsz : (Y50.w.alloc (.cells #[.int .i64 0, .int .i64 2] 57)).heap.size = B51 + 1 := by rw [hb]; simp
  obtain ⟨Y52, hZ⟩ : ∃ Z : Later W, Z.w = Y50.w.alloc (.cells #[.int .i64 0, .int .i64 2] 57) := ⟨Y50.step (Later.new _ _), rfl⟩
  rw [← hZ] at S hsz hma hmb hmc hmd l11 l13 l15 l17 hmx l21 hmy l24 hmm l27 hmw l30 hmg l35 hpo l51 ⊢
  clear hZ
  rw [← hb]
  clear hb
  try rw [← hsz]
  clear hsz
  refine (Unseen_calls 8 6 1 1 1 _).mono ?_
  rintro e w' ⟨y, rfl, rfl⟩
  rw [ex_uns.2.2, show unsH 8 6 1 1 1 = 0 by rw [unsH, ex_uns.2.2]; rfl]
  replace hma := hma.later y
  replace hmb := hmb.later y
  replace hmc := hmc.later y
  replace hmd := hmd.later y
  replace l11 := l11.later y
  replace l13 := l13.later y
  replace l15 := l15.later y
  replace l17 := l17.later y
  replace hmx := hmx.later y
  replace l21 := l21.later y
  replace hmy := hmy.later y
  replace l24 := l24.later y
  replace hmm := hmm.later y
  replace l27 := l27.later y
  replace hmw := hmw.later y
  replace l30 := l30.later y
  replace hmg := hmg.later y
  replace l35 := l35.later y
  replace hpo := hpo.later y
  replace l51 := l51.later y
  replace S := S.later y
  obtain ⟨Y53, hZ⟩ : ∃ Z : Later W, Z.w = y.w := ⟨Y52.step (y), rfl⟩
  rw [← hZ] at S hma hmb hmc hmd l11 l13 l15 l17 hmx l21 hmy l24 hmm l27 hmw l30 hmg l35 hpo l51 ⊢
  clear hZ
  clear y
  have q0_0 := l35.cell (k := 0) rfl
  have q0_1 := l35.cell (k := 1) rfl
  have q0_l := l35.lt
  go_wp2_with fail
  clear q0_0 q0_1 q0_l
  obtain ⟨B54, hb⟩ : ∃ b, b = Y53.w.heap.size := ⟨_, rfl⟩
  have l54 : Lin (Y53.w.alloc (.cells #[.int .i64 0, .int .i64 0] 57)) B54 57 [.int .i64 0, .int .i64 0] := by rw [hb]; exact Lin.new _ _ [.int .i64 0, .int .i64 0]
  replace S := S.later (Later.new _ (.cells #[.int .i64 0, .int .i64 0] 57))
  rw [Later.new_w] at S
  replace hma := hma.later (Later.new _ (.cells #[.int .i64 0, .int .i64 0] 57))
  rw [Later.new_w] at hma
  replace hmb := hmb.later (Later.new _ (.cells #[.int .i64 0, .int .i64 0] 57))
  rw [Later.new_w] at hmb
  replace hmc := hmc.later (Later.new _ (.cells #[.int .i64 0, .int .i64 0] 57))
  rw [Later.new_w] at hmc
  replace hmd := hmd.later (Later.new _ (.cells #[.int .i64 0, .int .i64 0] 57))
  rw [Later.new_w] at hmd
  replace l11 := l11.later (Later.new _ (.cells #[.int .i64 0, .int .i64 0] 57))
  rw [Later.new_w] at l11
  replace l13 := l13.later (Later.new _ (.cells #[.int .i64 0, .int .i64 0] 57))
  rw [Later.new_w] at l13
  replace l15 := l15.later (Later.new _ (.cells #[.int .i64 0, .int .i64 0] 57))
  rw [Later.new_w] at l15
  replace l17 := l17.later (Later.new _ (.cells #[.int .i64 0, .int .i64 0] 57))
  rw [Later.new_w] at l17
  replace hmx := hmx.later (Later.new _ (.cells #[.int .i64 0, .int .i64 0] 57))
  rw [Later.new_w] at hmx
  replace l21 := l21.later (Later.new _ (.cells #[.int .i64 0, .int .i64 0] 57))
  rw [Later.new_w] at l21
  replace hmy := hmy.later (Later.new _ (.cells #[.int .i64 0, .int .i64 0] 57))
  rw [Later.new_w] at hmy
  replace l24 := l24.later (Later.new _ (.cells #[.int .i64 0, .int .i64 0] 57))
  rw [Later.new_w] at l24
  replace hmm := hmm.later (Later.new _ (.cells #[.int .i64 0, .int .i64 0] 57))
  rw [Later.new_w] at hmm
  replace l27 := l27.later (Later.new _ (.cells #[.int .i64 0, .int .i64 0] 57))
  rw [Later.new_w] at l27
  replace hmw := hmw.later (Later.new _ (.cells #[.int .i64 0, .int .i64 0] 57))
  rw [Later.new_w] at hmw
  replace l30 := l30.later (Later.new _ (.cells #[.int .i64 0, .int .i64 0] 57))
  rw [Later.new_w] at l30
  replace hmg := hmg.later (Later.new _ (.cells #[.int .i64 0, .int .i64 0] 57))
  rw [Later.new_w] at hmg
  replace l35 := l35.later (Later.new _ (.cells #[.int .i64 0, .int .i64 0] 57))
  rw [Later.new_w] at l35
  replace hpo := hpo.later (Later.new _ (.cells #[.int .i64 0, .int .i64 0] 57))
  rw [Later.new_w] at hpo
  replace l51 := l51.later (Later.new _ (.cells #[.int .i64 0, .int .i64 0] 57))
  rw [Later.new_w] at l51
  have hsz : (Y53.w.alloc (.cells #[.int .i64 0, .int .i64 0] 57)).heap.size = B54 + 1 := by rw [hb]; simp
  obtain ⟨Y55, hZ⟩ : ∃ Z : Later W, Z.w = Y53.w.alloc (.cells #[.int .i64 0, .int .i64 0] 57) := ⟨Y53.step (Later.new _ _), rfl⟩
  rw [← hZ] at S hsz hma hmb hmc hmd l11 l13 l15 l17 hmx l21 hmy l24 hmm l27 hmw l30 hmg l35 hpo l51 l54 ⊢
  clear hZ
  rw [← hb]
  clear hb
  try rw [← hsz]
  clear hsz
  refine (rRead_calls [101, 110, 103, 114, 97, 118, 101] _ _ st ad _ hmg).mono ?_
  rintro e w' ⟨rfl, y, rfl⟩
  rw [HG.out.1, HG.out.2.1, HG.out.2.2]
  replace hma := hma.later y
  replace hmb := hmb.later y
  replace hmc := hmc.later y
  replace hmd := hmd.later y
  replace l11 := l11.later y
  replace l13 := l13.later y
  replace l15 := l15.later y
  replace l17 := l17.later y
  replace hmx := hmx.later y
  replace l21 := l21.later y
  replace hmy := hmy.later y
  replace l24 := l24.later y
  replace hmm := hmm.later y
  replace l27 := l27.later y
  replace hmw := hmw.later y
  replace l30 := l30.later y
  replace hmg := hmg.later y
  replace l35 := l35.later y
  replace hpo := hpo.later y
  replace l51 := l51.later y
  replace l54 := l54.later y
  replace S := S.later y
  obtain ⟨Y56, hZ⟩ : ∃ Z : Later W, Z.w = y.w := ⟨Y55.step (y), rfl⟩
  rw [← hZ] at S hma hmb hmc hmd l11 l13 l15 l17 hmx l21 hmy l24 hmm l27 hmw l30 hmg l35 hpo l51 l54 ⊢
  clear hZ
  clear y
  go_wp2_with fail
  refine (rCheckCommon_calls [101, 110, 103, 114, 97, 118, 101] [103, 114, 97, 118, 101, 110] _ (ps.map natP) _ hpo).mono ?_
  rintro e w' ⟨rfl, y, rfl⟩
  rw [HCC.out.1, HCC.out.2]
  replace hma := hma.later y
  replace hmb := hmb.later y
  replace hmc := hmc.later y
  replace hmd := hmd.later y
  replace l11 := l11.later y
  replace l13 := l13.later y
  replace l15 := l15.later y
  replace l17 := l17.later y
  replace hmx := hmx.later y
  replace l21 := l21.later y
  replace hmy := hmy.later y
  replace l24 := l24.later y
  replace hmm := hmm.later y
  replace l27 := l27.later y
  replace hmw := hmw.later y
  replace l30 := l30.later y
  replace hmg := hmg.later y
  replace l35 := l35.later y
  replace hpo := hpo.later y
  replace l51 := l51.later y
  replace l54 := l54.later y
  replace S := S.later y
  obtain ⟨Y57, hZ⟩ : ∃ Z : Later W, Z.w = y.w := ⟨Y56.step (y), rfl⟩
  rw [← hZ] at S hma hmb hmc hmd l11 l13 l15 l17 hmx l21 hmy l24 hmm l27 hmw l30 hmg l35 hpo l51 l54 ⊢
  clear hZ
  clear y
  go_wp2_with fail
  obtain ⟨L58, hb⟩ : ∃ b, b = Y57.w.heap.size := ⟨_, rfl⟩
  replace S : Ins (Y57.w.alloc (.cells #[.int .i64 0, .int .i64 4] 3)) [(.slice (some ⟨L58, 0, none⟩) 2 2, [0, 4]), (.slice a48 n48 c48, [1, 2, 1, 2, 3, 4, 5]), (.slice (some ⟨L45, 0, none⟩) 7 7, [1, 1, 1, 2, 3, 4, 5]), (.slice (some ⟨L42, 0, none⟩) 7 7, [1, 2, 1, 2, 3, 4, 5]), (.slice (some ⟨L8, 0, none⟩) 1 1, [0]), (.slice (some ⟨L4, 0, none⟩) 1 1, [0]), (.slice (some ⟨L1, 0, none⟩) 1 1, [4])] := (S.later (Later.new _ _)).cons (Ints.lit _ [0, 4] 3 hb rfl rfl (by decide))
  replace hma := hma.later (Later.new _ (.cells #[.int .i64 0, .int .i64 4] 3))
  rw [Later.new_w] at hma
  replace hmb := hmb.later (Later.new _ (.cells #[.int .i64 0, .int .i64 4] 3))
  rw [Later.new_w] at hmb
  replace hmc := hmc.later (Later.new _ (.cells #[.int .i64 0, .int .i64 4] 3))
  rw [Later.new_w] at hmc
  replace hmd := hmd.later (Later.new _ (.cells #[.int .i64 0, .int .i64 4] 3))
  rw [Later.new_w] at hmd
  replace l11 := l11.later (Later.new _ (.cells #[.int .i64 0, .int .i64 4] 3))
  rw [Later.new_w] at l11
  replace l13 := l13.later (Later.new _ (.cells #[.int .i64 0, .int .i64 4] 3))
  rw [Later.new_w] at l13
  replace l15 := l15.later (Later.new _ (.cells #[.int .i64 0, .int .i64 4] 3))
  rw [Later.new_w] at l15
  replace l17 := l17.later (Later.new _ (.cells #[.int .i64 0, .int .i64 4] 3))
  rw [Later.new_w] at l17
  replace hmx := hmx.later (Later.new _ (.cells #[.int .i64 0, .int .i64 4] 3))
  rw [Later.new_w] at hmx
  replace l21 := l21.later (Later.new _ (.cells #[.int .i64 0, .int .i64 4] 3))
  rw [Later.new_w] at l21
  replace hmy := hmy.later (Later.new _ (.cells #[.int .i64 0, .int .i64 4] 3))
  rw [Later.new_w] at hmy
  replace l24 := l24.later (Later.new _ (.cells #[.int .i64 0, .int .i64 4] 3))
  rw [Later.new_w] at l24
  replace hmm := hmm.later (Later.new _ (.cells #[.int .i64 0, .int .i64 4] 3))
  rw [Later.new_w] at hmm
  replace l27 := l27.later (Later.new _ (.cells #[.int .i64 0, .int .i64 4] 3))
  rw [Later.new_w] at l27
  replace hmw := hmw.later (Later.new _ (.cells #[.int .i64 0, .int .i64 4] 3))
  rw [Later.new_w] at hmw
  replace l30 := l30.later (Later.new _ (.cells #[.int .i64 0, .int .i64 4] 3))
  rw [Later.new_w] at l30
  replace hmg := hmg.later (Later.new _ (.cells #[.int .i64 0, .int .i64 4] 3))
  rw [Later.new_w] at hmg
  replace l35 := l35.later (Later.new _ (.cells #[.int .i64 0, .int .i64 4] 3))
  rw [Later.new_w] at l35
  replace hpo := hpo.later (Later.new _ (.cells #[.int .i64 0, .int .i64 4] 3))
  rw [Later.new_w] at hpo
  replace l51 := l51.later (Later.new _ (.cells #[.int .i64 0, .int .i64 4] 3))
  rw [Later.new_w] at l51
  replace l54 := l54.later (Later.new _ (.cells #[.int .i64 0, .int .i64 4] 3))
  rw [Later.new_w] at l54
  obtain ⟨Y59, hZ⟩ : ∃ Z : Later W, Z.w = Y57.w.alloc (.cells #[.int .i64 0, .int .i64 4] 3) := ⟨Y57.step (Later.new _ _), rfl⟩
  rw [← hZ] at S hma hmb hmc hmd l11 l13 l15 l17 hmx l21 hmy l24 hmm l27 hmw l30 hmg l35 hpo l51 l54 ⊢
  clear hZ
  rw [← hb]
  clear hb
  refine (Marks_calls [97, 116, 108, 97, 115] 0 [65] _ [0, 4] (by decide) _ (S.at (v := .slice (some ⟨L58, 0, none⟩) 2 2) (xs := [0, 4]) (by simp))).mono ?_
  rintro e w' ⟨sv, av, y, rfl, rfl, hI, hT⟩
  rw [show marksA ([97, 116, 108, 97, 115] : List UInt8).length 0 [65] = xB by decide +kernel] at hT
  obtain ⟨a9, n9, c9, rfl⟩ := hT.form'
  obtain ⟨sxk, nsk, csk, rfl⟩ : ∃ a n c, sv = Value.slice a n c := by obtain ⟨a, c, e⟩ := hI.form; exact ⟨a, _, c, e⟩
  obtain ⟨T9, hT9⟩ : ∃ b, b = y.w.heap.size := ⟨_, rfl⟩
  have l9 : Lin (y.w.alloc (.cells #[.slice sxk nsk csk, .slice a9 n9 c9] 25)) T9 25 [.slice sxk nsk csk, .slice a9 n9 c9] := by rw [hT9]; exact Lin.new _ _ [_, _]
  have hT2 := hT.later (Later.new _ (.cells #[.slice sxk nsk csk, .slice a9 n9 c9] 25))
  have hI2 := hI.later (Later.new _ (.cells #[.slice sxk nsk csk, .slice a9 n9 c9] 25))
  rw [Later.new_w] at hT2 hI2
  obtain ⟨g9, e9, hn9, hlo9, hg9, hnc9, hf9, hc9, hT3, hgr9⟩ := hT2.set (k := 5) (by decide) [110, 116]
  subst e9 hn9
  have hI3 := hI2.past_str hc9 (.string ⟨#[110, 116]⟩)
  have hne9 := own_ne_lin hT2 l9 (by decide)
  have l10 := l9.kept hgr9 (Ne.symm hne9)
  have z0 := l9.cell (k := 0) rfl
  have z1 := l9.cell (k := 1) rfl
  have zl := l9.lt
  have hmk : Mks _ _ _ [0, 4] ((marksA 5 0 [65]).set 5 [110, 116]) := ⟨hI3, StrsM.strs hT3 (by decide)⟩
  go_wp2_with fail
  clear z0 z1 zl hf9 hc9 hT2 hI2 hT hI hI3 hT3 hne9 hgr9 hnc9 hg9
  obtain ⟨K9, hK9⟩ : ∃ Z : Later Y59.w, Z.w = (y.w.alloc (.cells #[.slice sxk nsk csk, .slice (some ⟨g9, 0, none⟩) xB.length c9] 25)).setCell ⟨g9, 5, none⟩ (.string ⟨#[110, 116]⟩) := ⟨⟨_, (y.step (Later.new y.w (.cells #[.slice sxk nsk csk, .slice (some ⟨g9, 0, none⟩) xB.length c9] 25))).le.setCell (p := ⟨g9, 5, none⟩) hlo9 _⟩, rfl⟩
  rw [← hK9] at l10 hmk ⊢
  rw [← hT9]
  clear hK9 l9 hT9 hlo9
  replace hma := hma.later K9
  replace hmb := hmb.later K9
  replace hmc := hmc.later K9
  replace hmd := hmd.later K9
  replace l11 := l11.later K9
  replace l13 := l13.later K9
  replace l15 := l15.later K9
  replace l17 := l17.later K9
  replace hmx := hmx.later K9
  replace l21 := l21.later K9
  replace hmy := hmy.later K9
  replace l24 := l24.later K9
  replace hmm := hmm.later K9
  replace l27 := l27.later K9
  replace hmw := hmw.later K9
  replace l30 := l30.later K9
  replace hmg := hmg.later K9
  replace l35 := l35.later K9
  replace hpo := hpo.later K9
  replace l51 := l51.later K9
  replace l54 := l54.later K9
  replace S := S.later K9
  obtain ⟨Y60, hZ⟩ : ∃ Z : Later W, Z.w = K9.w := ⟨Y59.step (K9), rfl⟩
  rw [← hZ] at S hma hmb hmc hmd l11 l13 l15 l17 hmx l21 hmy l24 hmm l27 hmw l30 hmg l35 hpo l51 l54 l10 hmk ⊢
  clear hZ
  clear K9
  refine wp_frame (fun u => #[u 0, u 1, u 2, u 3, u 4, .string ⟨#[97, 116, 108, 97, 110, 116]⟩, .int .i64 3, u 7, .pointer (some ⟨B21, 0, none⟩), u 9, .pointer (some ⟨B24, 0, none⟩), u 11, .pointer (some ⟨B27, 0, none⟩), u 13, u 14, u 15, .int .i64 5, u 17, .int .i64 3, u 19, u 20, u 21, .int .i64 3, u 23, u 24, u 25, u 26, u 27, .int .i64 5, u 29, u 30, u 31, .slice a48 n48 c48, u 33, .pointer (some ⟨B51, 0, none⟩), u 35, u 36, u 37, .string ⟨#[103, 114, 97, 118, 101, 110]⟩, .int .i64 3, .int .i64 0, .int .i64 5, .int .i64 0, .pointer (some ⟨T9, 0, none⟩), u 44, u 45, u 46, u 47, u 48, u 49, u 50, u 51, u 52, u 53, u 54, u 55, u 56, u 57, u 58, u 59, u 60, u 61, u 62, u 63, u 64, u 65, u 66, u 67, u 68, u 69, u 70, u 71, u 72, u 73, u 74, u 75, u 76, u 77, u 78, u 79, u 80, u 81, u 82, u 83, u 84, u 85, u 86, u 87, u 88, u 89, u 90, u 91, u 92, u 93, u 94, u 95, u 96, u 97, u 98, u 99, u 100, u 101, u 102, u 103, u 104, u 105, u 106, u 107, u 108, u 109, u 110, u 111, u 112, u 113, u 114, u 115, u 116, u 117, u 118, u 119, u 120, u 121, u 122, u 123, u 124, u 125, u 126, u 127, u 128, u 129, u 130, u 131, u 132, u 133, u 134, u 135, u 136, u 137, u 138, u 139, u 140, u 141, u 142, u 143, u 144, u 145, u 146, u 147, u 148, u 149, u 150, u 151, u 152, u 153, u 154, u 155, u 156, u 157, u 158, u 159, u 160, u 161, u 162, u 163, u 164, u 165, u 166, u 167, u 168, u 169, u 170, u 171, u 172, u 173, u 174, u 175, u 176, u 177, u 178, u 179, u 180, u 181, u 182, u 183, u 184, u 185, u 186, u 187, u 188, u 189, u 190, u 191, u 192, u 193, u 194, u 195, u 196, u 197, u 198, u 199, u 200, u 201, u 202, u 203, u 204, u 205, u 206, u 207, u 208, u 209, u 210, u 211, u 212, u 213, u 214, u 215, undef, undef, undef, undef, undef, undef, undef, undef, undef, undef, undef, undef, undef, undef, undef, undef, undef, undef, undef, undef, undef, undef, undef, undef, undef, undef, undef, undef, undef, undef, undef, undef, undef, undef, undef, undef, undef, undef, undef, undef, undef, undef, undef, undef, undef, undef, undef, undef, undef, undef, undef, undef, undef, undef, undef, undef, undef, undef, undef, undef, undef, undef, undef, undef, undef, undef, undef, undef, undef, undef]) rfl (fun u => ?_)
  refine Works_end _ u l21 hmx l24 hmy l27 hmm l10 hmk l51 (S.at (v := .slice a48 n48 c48) (xs := [1, 2, 1, 2, 3, 4, 5]) (by simp)) _ (fun u2 y => ?_)
  go_wp2
  go_ret
  exact ⟨rfl, Y60.step y, rfl⟩
end Go.Proofs.Ytpkgfkeekcgkcaa
