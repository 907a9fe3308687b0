import Derived.Test.YtdhdpbnlhnodjaaKWk
/-  NameKnown: the examples. -/
namespace Go.Proofs.Ytdhdpbnlhnodjaa
open Go.RowKit
open Sat (brightF cntF)
theorem kn_set : settN 3 exS [] [1, 0, 0] = 3 ∧ settE 3 exS [] [1, 0, 0] = 0 ∧ settN 3 exS [] [0, 1] = 0 ∧ settE 3 exS [] [0, 1] = 15 := by decide +kernel
theorem kn_set2 : setVI 3 exS [] [0, 2] = [0, -1, 1] ∧ setEI 3 exS [] [0, 2] = 0 ∧ setVI 3 exX [] [0, 1] = [0, 1, -1] ∧ setEI 3 exX [] [0, 1] = 0 := by decide +kernel
theorem kn_kind : kindNI 3 exS [] [0, 1, 2] 0 = 0 ∧ kindEI 3 exS [] [0, 1, 2] 0 = 0 ∧ kindNI 3 exS [] [0, 1, 2] 4 = 1 ∧ kindEI 3 exS [] [0, 1, 2] 4 = 0 := by decide +kernel
theorem kn_chain : chainEI 3 exX [] [0, 1, 2] [0, 3, 0] = 14 ∧ chainEI 3 exX [] [0, 1, 2] [0, 1] = 6 := by decide +kernel
theorem kn_brt : brtVI 3 exS [] = [0, 1, 2] := by
  rw [brtVI, if_pos ex_vs.1, exS_map, show ([] : List Int) = ([] : List Nat).map fun (c : Nat) => (c : Int) from rfl, layI_eq ex_shS]
  show natV (brightF ex_shS.lay 3) = _
  rw [show brightF ex_shS.lay 3 = [0, 1, 2] by rw [brightF_C]; decide +kernel]; rfl
theorem kn_why : whyEI 3 exX [] 3 = 2 := by rw [exX_map]; exact why_out ex_shX (.inr (by decide))
theorem kn_most : mostVI 3 exS [] = 3 := by decide +kernel
set_option maxRecDepth 100000 in
set_option maxHeartbeats 8000000 in
theorem NameKnown_calls (W : World) : Calls Try.prog 15 #[] W (Gives (.bool true) W) := by
  go_enter Try.func15, Try.ntmps15

  have S : Ins W [] := Ins.nil _
  go_wp2_with fail
  refine (Sheet_calls _ [] (by decide) _ (Prs.nil none 0)).mono ?_
  rintro e w' ⟨mv, y, rfl, rfl, hR⟩
  obtain ⟨am1, lm1, cm1, rfl⟩ : ∃ a n c, mv = .slice a n c := by obtain ⟨a, c, e⟩ := hR.form; exact ⟨a, _, c, e⟩
  have hS1 : Sht y.w (.slice am1 lm1 cm1) (.slice none 0 0) exS [] := Sht.nil hR
  clear hR
  replace S := S.later y
  obtain ⟨Y1, hZ⟩ : ∃ Z : Later W, Z.w = y.w := ⟨y, rfl⟩
  rw [← hZ] at S hS1 ⊢
  clear hZ
  clear y
  go_wp2_with fail
  have hq := (PrsM.lit Y1.w (lo := Y1.w.heap.size) [(1, 2)] (arr := #[.int .i64 1, .int .i64 2]) (n := 1) rfl (Nat.le_refl _) rfl rfl (by decide)).prs (by decide)
  replace S := S.later (Later.new _ (.cells #[.int .i64 1, .int .i64 2] 55))
  rw [Later.new_w] at S
  replace hS1 := hS1.later (Later.new _ (.cells #[.int .i64 1, .int .i64 2] 55))
  rw [Later.new_w] at hS1
  obtain ⟨Y2, hZ⟩ : ∃ Z : Later W, Z.w = Y1.w.alloc (.cells #[.int .i64 1, .int .i64 2] 55) := ⟨Y1.step (Later.new _ _), rfl⟩
  rw [← hZ] at S hS1 hq ⊢
  clear hZ
  obtain ⟨LB, hb⟩ : ∃ b, b = Y1.w.heap.size := ⟨_, rfl⟩
  rw [← hb] at hq ⊢
  clear hb
  refine (Sheet_calls _ [(1, 2)] (by decide) _ (by exact hq)).mono ?_
  rintro e w' ⟨mv, y, rfl, rfl, hR⟩
  obtain ⟨am2, lm2, cm2, rfl⟩ : ∃ a n c, mv = .slice a n c := by obtain ⟨a, c, e⟩ := hR.form; exact ⟨a, _, c, e⟩
  have hS2 : Sht y.w (.slice am2 lm2 cm2) (.slice none 0 0) exX [] := Sht.nil hR
  clear hR
  replace hS1 := hS1.later y
  replace S := S.later y
  obtain ⟨Y3, hZ⟩ : ∃ Z : Later W, Z.w = y.w := ⟨Y2.step (y), rfl⟩
  rw [← hZ] at S hS1 hS2 ⊢
  clear hZ
  clear y
  clear hq
  go_wp2_with fail
  obtain ⟨B4, hb⟩ : ∃ b, b = Y3.w.heap.size := ⟨_, rfl⟩
  have l4 : Lin (Y3.w.alloc (.cells #[.int .i64 3, .slice am1 lm1 cm1, .slice none 0 0] 25)) B4 25 [.int .i64 3, .slice am1 lm1 cm1, .slice none 0 0] := by rw [hb]; exact Lin.new _ _ [.int .i64 3, .slice am1 lm1 cm1, .slice none 0 0]
  replace S := S.later (Later.new _ (.cells #[.int .i64 3, .slice am1 lm1 cm1, .slice none 0 0] 25))
  rw [Later.new_w] at S
  replace hS1 := hS1.later (Later.new _ (.cells #[.int .i64 3, .slice am1 lm1 cm1, .slice none 0 0] 25))
  rw [Later.new_w] at hS1
  replace hS2 := hS2.later (Later.new _ (.cells #[.int .i64 3, .slice am1 lm1 cm1, .slice none 0 0] 25))
  rw [Later.new_w] at hS2
  have hsz : (Y3.w.alloc (.cells #[.int .i64 3, .slice am1 lm1 cm1, .slice none 0 0] 25)).heap.size = B4 + 1 := by rw [hb]; simp
  obtain ⟨Y5, hZ⟩ : ∃ Z : Later W, Z.w = Y3.w.alloc (.cells #[.int .i64 3, .slice am1 lm1 cm1, .slice none 0 0] 25) := ⟨Y3.step (Later.new _ _), rfl⟩
  rw [← hZ] at S hsz hS1 hS2 l4 ⊢
  clear hZ
  rw [← hb]
  clear hb
  rw [← hsz]
  clear hsz
  obtain ⟨B6, hb⟩ : ∃ b, b = Y5.w.heap.size := ⟨_, rfl⟩
  have l6 : Lin (Y5.w.alloc (.cells #[.int .i64 3, .slice am2 lm2 cm2, .slice none 0 0] 25)) B6 25 [.int .i64 3, .slice am2 lm2 cm2, .slice none 0 0] := by rw [hb]; exact Lin.new _ _ [.int .i64 3, .slice am2 lm2 cm2, .slice none 0 0]
  replace S := S.later (Later.new _ (.cells #[.int .i64 3, .slice am2 lm2 cm2, .slice none 0 0] 25))
  rw [Later.new_w] at S
  replace hS1 := hS1.later (Later.new _ (.cells #[.int .i64 3, .slice am2 lm2 cm2, .slice none 0 0] 25))
  rw [Later.new_w] at hS1
  replace hS2 := hS2.later (Later.new _ (.cells #[.int .i64 3, .slice am2 lm2 cm2, .slice none 0 0] 25))
  rw [Later.new_w] at hS2
  replace l4 := l4.later (Later.new _ (.cells #[.int .i64 3, .slice am2 lm2 cm2, .slice none 0 0] 25))
  rw [Later.new_w] at l4
  have hsz : (Y5.w.alloc (.cells #[.int .i64 3, .slice am2 lm2 cm2, .slice none 0 0] 25)).heap.size = B6 + 1 := by rw [hb]; simp
  obtain ⟨Y7, hZ⟩ : ∃ Z : Later W, Z.w = Y5.w.alloc (.cells #[.int .i64 3, .slice am2 lm2 cm2, .slice none 0 0] 25) := ⟨Y5.step (Later.new _ _), rfl⟩
  rw [← hZ] at S hsz hS1 hS2 l4 l6 ⊢
  clear hZ
  rw [← hb]
  clear hb
  rw [← hsz]
  clear hsz
  obtain ⟨L8, hb⟩ : ∃ b, b = Y7.w.heap.size := ⟨_, rfl⟩
  replace S : Ins (Y7.w.alloc (.cells #[.int .i64 0, .int .i64 1, .int .i64 2] 3)) [(.slice (some ⟨L8, 0, none⟩) 3 3, [0, 1, 2])] := (S.later (Later.new _ _)).cons (Ints.lit _ [0, 1, 2] 3 hb rfl rfl (by decide))
  replace hS1 := hS1.later (Later.new _ (.cells #[.int .i64 0, .int .i64 1, .int .i64 2] 3))
  rw [Later.new_w] at hS1
  replace hS2 := hS2.later (Later.new _ (.cells #[.int .i64 0, .int .i64 1, .int .i64 2] 3))
  rw [Later.new_w] at hS2
  replace l4 := l4.later (Later.new _ (.cells #[.int .i64 0, .int .i64 1, .int .i64 2] 3))
  rw [Later.new_w] at l4
  replace l6 := l6.later (Later.new _ (.cells #[.int .i64 0, .int .i64 1, .int .i64 2] 3))
  rw [Later.new_w] at l6
  obtain ⟨Y9, hZ⟩ : ∃ Z : Later W, Z.w = Y7.w.alloc (.cells #[.int .i64 0, .int .i64 1, .int .i64 2] 3) := ⟨Y7.step (Later.new _ _), rfl⟩
  rw [← hZ] at S hS1 hS2 l4 l6 ⊢
  clear hZ
  rw [← hb]
  clear hb
  refine (of_calls _ _ _ _).mono ?_
  rintro e w' ⟨rfl, hw⟩
  rw [hw]
  clear hw w'
  have q0_0 := l4.cell (k := 0) rfl
  have q0_1 := l4.cell (k := 1) rfl
  have q0_2 := l4.cell (k := 2) rfl
  have q0_l := l4.lt
  go_wp2
  refine Mix.region_mixL (Mix.kinds [1] [2, 3] []) (by kernel_rfl) (by kernel_rfl) ?_
  repeat ((with_reducible refine Mix.atCons ?_); first | refine Mix.skipU (by rfl) rfl (by rfl) ?_ | (refine Mix.val rfl rfl (by rfl) (fun K hK => ?_); go_big_quiet_op; refine hK _ ?_; clear hK K) | (refine Mix.skip (by rfl) ?_; go_frame))
  refine Mix.new rfl (by rfl) (fun b => .slice (some ⟨b, 0, none⟩) 3 3) (.cells #[.int .i64 1, .int .i64 0, .int .i64 0] 3) (fun w => by simp [go_sem]) (fun N1 x1 _ hx1 => ?_)
  have hn1 : Ints x1.w (.slice (some ⟨N1, 0, none⟩) 3 3) [1, 0, 0] := Ints.block (T := 3) (xs := [1, 0, 0]) hx1 (by decide)
  refine Mix.loud rfl (by rfl) (fun x2 K hK => ?_)
  go_wp2_with fail
  refine (of_calls _ _ _ _).mono ?_
  rintro e w' ⟨rfl, hw⟩
  rw [hw]
  refine hK _ (Later.self _) ?_
  clear hK K hw w'
  simp only [Later.self_w]
  refine Mix.loud rfl (by rfl) (fun x3 K hK => ?_)
  go_wp2_with fail
  refine (CheckSetting_any 3 _ _ exS [] _ (((hS1.later x1).later x2).later x3) _ [1, 0, 0] ((hn1.later x2).later x3)).mono ?_
  rintro e w' ⟨rfl, y3, rfl⟩
  rw [kn_set.1, kn_set.2.1]
  refine hK _ y3 ?_
  clear hK K
  try go_frame
  repeat ((with_reducible refine Mix.atCons ?_); first | refine Mix.skipU (by rfl) rfl (by rfl) ?_ | (refine Mix.val rfl rfl (by rfl) (fun K hK => ?_); go_big_quiet_op; refine hK _ ?_; clear hK K) | (refine Mix.skip (by rfl) ?_; go_frame))
  refine Mix.done (fun x4 => ?_)
  clear q0_0 q0_1 q0_2 q0_l
  replace hS1 := (((((hS1.later x1).later x2).later x3).later y3).later x4)
  replace hS2 := (((((hS2.later x1).later x2).later x3).later y3).later x4)
  replace l4 := (((((l4.later x1).later x2).later x3).later y3).later x4)
  replace l6 := (((((l6.later x1).later x2).later x3).later y3).later x4)
  replace S := (((((S.later x1).later x2).later x3).later y3).later x4)
  obtain ⟨Y10, hZ⟩ : ∃ Z : Later W, Z.w = x4.w := ⟨Y9.step (x1.step (x2.step (x3.step (y3.step (x4))))), rfl⟩
  rw [← hZ] at S hS1 hS2 l4 l6 ⊢
  clear hZ
  have q0_0 := l4.cell (k := 0) rfl
  have q0_1 := l4.cell (k := 1) rfl
  have q0_2 := l4.cell (k := 2) rfl
  have q0_l := l4.lt
  go_wp2
  refine Mix.region_mixL (Mix.kinds [1] [2, 3] []) (by kernel_rfl) (by kernel_rfl) ?_
  repeat ((with_reducible refine Mix.atCons ?_); first | refine Mix.skipU (by rfl) rfl (by rfl) ?_ | (refine Mix.val rfl rfl (by rfl) (fun K hK => ?_); go_big_quiet_op; refine hK _ ?_; clear hK K) | (refine Mix.skip (by rfl) ?_; go_frame))
  refine Mix.new rfl (by rfl) (fun b => .slice (some ⟨b, 0, none⟩) 2 2) (.cells #[.int .i64 0, .int .i64 1] 3) (fun w => by simp [go_sem]) (fun N1 x1 _ hx1 => ?_)
  have hn1 : Ints x1.w (.slice (some ⟨N1, 0, none⟩) 2 2) [0, 1] := Ints.block (T := 3) (xs := [0, 1]) hx1 (by decide)
  refine Mix.loud rfl (by rfl) (fun x2 K hK => ?_)
  go_wp2_with fail
  refine (of_calls _ _ _ _).mono ?_
  rintro e w' ⟨rfl, hw⟩
  rw [hw]
  refine hK _ (Later.self _) ?_
  clear hK K hw w'
  simp only [Later.self_w]
  refine Mix.loud rfl (by rfl) (fun x3 K hK => ?_)
  go_wp2_with fail
  refine (CheckSetting_any 3 _ _ exS [] _ (((hS1.later x1).later x2).later x3) _ [0, 1] ((hn1.later x2).later x3)).mono ?_
  rintro e w' ⟨rfl, y3, rfl⟩
  rw [kn_set.2.2.1, kn_set.2.2.2]
  refine hK _ y3 ?_
  clear hK K
  try go_frame
  repeat ((with_reducible refine Mix.atCons ?_); first | refine Mix.skipU (by rfl) rfl (by rfl) ?_ | (refine Mix.val rfl rfl (by rfl) (fun K hK => ?_); go_big_quiet_op; refine hK _ ?_; clear hK K) | (refine Mix.skip (by rfl) ?_; go_frame))
  refine Mix.done (fun x4 => ?_)
  clear q0_0 q0_1 q0_2 q0_l
  replace hS1 := (((((hS1.later x1).later x2).later x3).later y3).later x4)
  replace hS2 := (((((hS2.later x1).later x2).later x3).later y3).later x4)
  replace l4 := (((((l4.later x1).later x2).later x3).later y3).later x4)
  replace l6 := (((((l6.later x1).later x2).later x3).later y3).later x4)
  replace S := (((((S.later x1).later x2).later x3).later y3).later x4)
  obtain ⟨Y11, hZ⟩ : ∃ Z : Later W, Z.w = x4.w := ⟨Y10.step (x1.step (x2.step (x3.step (y3.step (x4))))), rfl⟩
  rw [← hZ] at S hS1 hS2 l4 l6 ⊢
  clear hZ
  have q0_0 := l4.cell (k := 0) rfl
  have q0_1 := l4.cell (k := 1) rfl
  have q0_2 := l4.cell (k := 2) rfl
  have q0_l := l4.lt
  go_wp2
  refine Mix.region_mixL (Mix.kinds [1] [2, 3] []) (by kernel_rfl) (by kernel_rfl) ?_
  repeat ((with_reducible refine Mix.atCons ?_); first | refine Mix.skipU (by rfl) rfl (by rfl) ?_ | (refine Mix.val rfl rfl (by rfl) (fun K hK => ?_); go_big_quiet_op; refine hK _ ?_; clear hK K) | (refine Mix.skip (by rfl) ?_; go_frame))
  refine Mix.new rfl (by rfl) (fun b => .slice (some ⟨b, 0, none⟩) 2 2) (.cells #[.int .i64 0, .int .i64 2] 3) (fun w => by simp [go_sem]) (fun N1 x1 _ hx1 => ?_)
  have hn1 : Ints x1.w (.slice (some ⟨N1, 0, none⟩) 2 2) [0, 2] := Ints.block (T := 3) (xs := [0, 2]) hx1 (by decide)
  refine Mix.loud rfl (by rfl) (fun x2 K hK => ?_)
  go_wp2_with fail
  refine (of_calls _ _ _ _).mono ?_
  rintro e w' ⟨rfl, hw⟩
  rw [hw]
  refine hK _ (Later.self _) ?_
  clear hK K hw w'
  simp only [Later.self_w]
  refine Mix.loud rfl (by rfl) (fun x3 K hK => ?_)
  go_wp2_with fail
  refine (Set_any 3 _ _ _ exS [] [0, 2] _ (((hS1.later x1).later x2).later x3) ((hn1.later x2).later x3)).mono ?_
  rintro e w' ⟨v, y3, rfl, rfl, hR⟩
  rw [kn_set2.1] at hR
  rw [kn_set2.2.1]
  refine hK _ y3 ?_
  clear hK K
  try go_frame
  repeat ((with_reducible refine Mix.atCons ?_); first | refine Mix.skipU (by rfl) rfl (by rfl) ?_ | (refine Mix.val rfl rfl (by rfl) (fun K hK => ?_); go_big_quiet_op; refine hK _ ?_; clear hK K) | (refine Mix.skip (by rfl) ?_; go_frame))
  refine Mix.done (fun x4 => ?_)
  clear q0_0 q0_1 q0_2 q0_l
  replace hS1 := (((((hS1.later x1).later x2).later x3).later y3).later x4)
  replace hS2 := (((((hS2.later x1).later x2).later x3).later y3).later x4)
  replace l4 := (((((l4.later x1).later x2).later x3).later y3).later x4)
  replace l6 := (((((l6.later x1).later x2).later x3).later y3).later x4)
  replace S := (((((S.later x1).later x2).later x3).later y3).later x4)
  replace hR := (hR.later x4)
  obtain ⟨a12, n12, c12, rfl⟩ : ∃ a n c, v = .slice a n c := by obtain ⟨a, c, e⟩ := hR.form; exact ⟨a, _, c, e⟩
  replace S := S.cons hR
  obtain ⟨Y13, hZ⟩ : ∃ Z : Later W, Z.w = x4.w := ⟨Y11.step (x1.step (x2.step (x3.step (y3.step (x4))))), rfl⟩
  rw [← hZ] at S hS1 hS2 l4 l6 ⊢
  clear hZ
  have q0_0 := l6.cell (k := 0) rfl
  have q0_1 := l6.cell (k := 1) rfl
  have q0_2 := l6.cell (k := 2) rfl
  have q0_l := l6.lt
  go_wp2
  refine Mix.region_mixL (Mix.kinds [1] [2, 3] []) (by kernel_rfl) (by kernel_rfl) ?_
  repeat ((with_reducible refine Mix.atCons ?_); first | refine Mix.skipU (by rfl) rfl (by rfl) ?_ | (refine Mix.val rfl rfl (by rfl) (fun K hK => ?_); go_big_quiet_op; refine hK _ ?_; clear hK K) | (refine Mix.skip (by rfl) ?_; go_frame))
  refine Mix.new rfl (by rfl) (fun b => .slice (some ⟨b, 0, none⟩) 2 2) (.cells #[.int .i64 0, .int .i64 1] 3) (fun w => by simp [go_sem]) (fun N1 x1 _ hx1 => ?_)
  have hn1 : Ints x1.w (.slice (some ⟨N1, 0, none⟩) 2 2) [0, 1] := Ints.block (T := 3) (xs := [0, 1]) hx1 (by decide)
  refine Mix.loud rfl (by rfl) (fun x2 K hK => ?_)
  go_wp2_with fail
  refine (of_calls _ _ _ _).mono ?_
  rintro e w' ⟨rfl, hw⟩
  rw [hw]
  refine hK _ (Later.self _) ?_
  clear hK K hw w'
  simp only [Later.self_w]
  refine Mix.loud rfl (by rfl) (fun x3 K hK => ?_)
  go_wp2_with fail
  refine (Set_any 3 _ _ _ exX [] [0, 1] _ (((hS2.later x1).later x2).later x3) ((hn1.later x2).later x3)).mono ?_
  rintro e w' ⟨v, y3, rfl, rfl, hR⟩
  rw [kn_set2.2.2.1] at hR
  rw [kn_set2.2.2.2]
  refine hK _ y3 ?_
  clear hK K
  try go_frame
  repeat ((with_reducible refine Mix.atCons ?_); first | refine Mix.skipU (by rfl) rfl (by rfl) ?_ | (refine Mix.val rfl rfl (by rfl) (fun K hK => ?_); go_big_quiet_op; refine hK _ ?_; clear hK K) | (refine Mix.skip (by rfl) ?_; go_frame))
  refine Mix.done (fun x4 => ?_)
  clear q0_0 q0_1 q0_2 q0_l
  replace hS1 := (((((hS1.later x1).later x2).later x3).later y3).later x4)
  replace hS2 := (((((hS2.later x1).later x2).later x3).later y3).later x4)
  replace l4 := (((((l4.later x1).later x2).later x3).later y3).later x4)
  replace l6 := (((((l6.later x1).later x2).later x3).later y3).later x4)
  replace S := (((((S.later x1).later x2).later x3).later y3).later x4)
  replace hR := (hR.later x4)
  obtain ⟨a14, n14, c14, rfl⟩ : ∃ a n c, v = .slice a n c := by obtain ⟨a, c, e⟩ := hR.form; exact ⟨a, _, c, e⟩
  replace S := S.cons hR
  obtain ⟨Y15, hZ⟩ : ∃ Z : Later W, Z.w = x4.w := ⟨Y13.step (x1.step (x2.step (x3.step (y3.step (x4))))), rfl⟩
  rw [← hZ] at S hS1 hS2 l4 l6 ⊢
  clear hZ
  have q0_0 := l4.cell (k := 0) rfl
  have q0_1 := l4.cell (k := 1) rfl
  have q0_2 := l4.cell (k := 2) rfl
  have q0_l := l4.lt
  go_wp2_with fail
  clear q0_0 q0_1 q0_2 q0_l
  refine (Kind_any 3 _ _ _ exS [] [0, 1, 2] _ hS1 (S.at (v := .slice (some ⟨L8, 0, none⟩) 3 3) (xs := [0, 1, 2]) (by simp)) 0).mono ?_
  rintro e w' ⟨rfl, y, rfl⟩
  rw [kn_kind.1, kn_kind.2.1]
  replace hS1 := hS1.later y
  replace hS2 := hS2.later y
  replace l4 := l4.later y
  replace l6 := l6.later y
  replace S := S.later y
  obtain ⟨Y16, hZ⟩ : ∃ Z : Later W, Z.w = y.w := ⟨Y15.step (y), rfl⟩
  rw [← hZ] at S hS1 hS2 l4 l6 ⊢
  clear hZ
  clear y
  have q0_0 := l4.cell (k := 0) rfl
  have q0_1 := l4.cell (k := 1) rfl
  have q0_2 := l4.cell (k := 2) rfl
  have q0_l := l4.lt
  go_wp2_with fail
  clear q0_0 q0_1 q0_2 q0_l
  refine (Kind_any 3 _ _ _ exS [] [0, 1, 2] _ hS1 (S.at (v := .slice (some ⟨L8, 0, none⟩) 3 3) (xs := [0, 1, 2]) (by simp)) 4).mono ?_
  rintro e w' ⟨rfl, y, rfl⟩
  rw [kn_kind.2.2.1, kn_kind.2.2.2]
  replace hS1 := hS1.later y
  replace hS2 := hS2.later y
  replace l4 := l4.later y
  replace l6 := l6.later y
  replace S := S.later y
  obtain ⟨Y17, hZ⟩ : ∃ Z : Later W, Z.w = y.w := ⟨Y16.step (y), rfl⟩
  rw [← hZ] at S hS1 hS2 l4 l6 ⊢
  clear hZ
  clear y
  have q0_0 := l6.cell (k := 0) rfl
  have q0_1 := l6.cell (k := 1) rfl
  have q0_2 := l6.cell (k := 2) rfl
  have q0_l := l6.lt
  go_wp2
  refine Mix.region_mixL (Mix.kinds [2, 7] [3, 4, 8, 9] []) (by kernel_rfl) (by kernel_rfl) ?_
  repeat ((with_reducible refine Mix.atCons ?_); first | refine Mix.skipU (by rfl) rfl (by rfl) ?_ | (refine Mix.val rfl rfl (by rfl) (fun K hK => ?_); go_big_quiet_op; refine hK _ ?_; clear hK K) | (refine Mix.skip (by rfl) ?_; go_frame))
  refine Mix.new rfl (by rfl) (fun b => .slice (some ⟨b, 0, none⟩) 3 3) (.cells #[.int .i64 0, .int .i64 3, .int .i64 0] 3) (fun w => by simp [go_sem]) (fun N1 x1 _ hx1 => ?_)
  have hn1 : Ints x1.w (.slice (some ⟨N1, 0, none⟩) 3 3) [0, 3, 0] := Ints.block (T := 3) (xs := [0, 3, 0]) hx1 (by decide)
  refine Mix.loud rfl (by rfl) (fun x2 K hK => ?_)
  go_wp2_with fail
  refine (of_calls _ _ _ _).mono ?_
  rintro e w' ⟨rfl, hw⟩
  rw [hw]
  refine hK _ (Later.self _) ?_
  clear hK K hw w'
  simp only [Later.self_w]
  refine Mix.loud rfl (by rfl) (fun x3 K hK => ?_)
  go_wp2_with fail
  refine (CheckChain_any 3 _ _ _ exX [] [0, 1, 2] _ (((hS2.later x1).later x2).later x3) ((((S.at (v := .slice (some ⟨L8, 0, none⟩) 3 3) (xs := [0, 1, 2]) (by simp)).later x1).later x2).later x3) _ [0, 3, 0] ((hn1.later x2).later x3)).mono ?_
  rintro e w' ⟨rfl, y3, rfl⟩
  rw [kn_chain.1]
  refine hK _ y3 ?_
  clear hK K
  try go_frame
  repeat ((with_reducible refine Mix.atCons ?_); first | refine Mix.skipU (by rfl) rfl (by rfl) ?_ | (refine Mix.val rfl rfl (by rfl) (fun K hK => ?_); go_big_quiet_op; refine hK _ ?_; clear hK K) | (refine Mix.skip (by rfl) ?_; go_frame))
  refine Mix.new rfl (by rfl) (fun b => .slice (some ⟨b, 0, none⟩) 2 2) (.cells #[.int .i64 0, .int .i64 1] 3) (fun w => by simp [go_sem]) (fun N4 x4 _ hx4 => ?_)
  have hn4 : Ints x4.w (.slice (some ⟨N4, 0, none⟩) 2 2) [0, 1] := Ints.block (T := 3) (xs := [0, 1]) hx4 (by decide)
  refine Mix.loud rfl (by rfl) (fun x5 K hK => ?_)
  go_wp2_with fail
  refine (of_calls _ _ _ _).mono ?_
  rintro e w' ⟨rfl, hw⟩
  rw [hw]
  refine hK _ (Later.self _) ?_
  clear hK K hw w'
  simp only [Later.self_w]
  refine Mix.loud rfl (by rfl) (fun x6 K hK => ?_)
  go_wp2_with fail
  refine (CheckChain_any 3 _ _ _ exX [] [0, 1, 2] _ (((((((hS2.later x1).later x2).later x3).later y3).later x4).later x5).later x6) ((((((((S.at (v := .slice (some ⟨L8, 0, none⟩) 3 3) (xs := [0, 1, 2]) (by simp)).later x1).later x2).later x3).later y3).later x4).later x5).later x6) _ [0, 1] ((hn4.later x5).later x6)).mono ?_
  rintro e w' ⟨rfl, y6, rfl⟩
  rw [kn_chain.2]
  refine hK _ y6 ?_
  clear hK K
  try go_frame
  repeat ((with_reducible refine Mix.atCons ?_); first | refine Mix.skipU (by rfl) rfl (by rfl) ?_ | (refine Mix.val rfl rfl (by rfl) (fun K hK => ?_); go_big_quiet_op; refine hK _ ?_; clear hK K) | (refine Mix.skip (by rfl) ?_; go_frame))
  refine Mix.done (fun x7 => ?_)
  clear q0_0 q0_1 q0_2 q0_l
  replace hS1 := (((((((((hS1.later x1).later x2).later x3).later y3).later x4).later x5).later x6).later y6).later x7)
  replace hS2 := (((((((((hS2.later x1).later x2).later x3).later y3).later x4).later x5).later x6).later y6).later x7)
  replace l4 := (((((((((l4.later x1).later x2).later x3).later y3).later x4).later x5).later x6).later y6).later x7)
  replace l6 := (((((((((l6.later x1).later x2).later x3).later y3).later x4).later x5).later x6).later y6).later x7)
  replace S := (((((((((S.later x1).later x2).later x3).later y3).later x4).later x5).later x6).later y6).later x7)
  obtain ⟨Y18, hZ⟩ : ∃ Z : Later W, Z.w = x7.w := ⟨Y17.step (x1.step (x2.step (x3.step (y3.step (x4.step (x5.step (x6.step (y6.step (x7))))))))), rfl⟩
  rw [← hZ] at S hS1 hS2 l4 l6 ⊢
  clear hZ
  have q0_0 := l4.cell (k := 0) rfl
  have q0_1 := l4.cell (k := 1) rfl
  have q0_2 := l4.cell (k := 2) rfl
  have q0_l := l4.lt
  go_wp2_with fail
  clear q0_0 q0_1 q0_2 q0_l
  refine (Brightest_any 3 _ _  exS []  _ hS1).mono ?_
  rintro e w' ⟨v, y, rfl, rfl, hR⟩
  rw [kn_brt] at hR
  rw [ex_vs.1]
  replace hS1 := hS1.later y
  replace hS2 := hS2.later y
  replace l4 := l4.later y
  replace l6 := l6.later y
  replace S := S.later y
  obtain ⟨a19, n19, c19, rfl⟩ : ∃ a n c, v = .slice a n c := by obtain ⟨a, c, e⟩ := hR.form; exact ⟨a, _, c, e⟩
  replace S := S.cons hR
  obtain ⟨Y20, hZ⟩ : ∃ Z : Later W, Z.w = y.w := ⟨Y18.step (y), rfl⟩
  rw [← hZ] at S hS1 hS2 l4 l6 ⊢
  clear hZ
  clear y hR
  have q0_0 := l6.cell (k := 0) rfl
  have q0_1 := l6.cell (k := 1) rfl
  have q0_2 := l6.cell (k := 2) rfl
  have q0_l := l6.lt
  go_wp2_with fail
  clear q0_0 q0_1 q0_2 q0_l
  refine (Why_any 3 _ _ exX [] _ hS2 3).mono ?_
  rintro e w' ⟨v, y, lq, rfl, rfl, -, -, -⟩
  rw [kn_why]
  clear lq
  replace hS1 := hS1.later y
  replace hS2 := hS2.later y
  replace l4 := l4.later y
  replace l6 := l6.later y
  replace S := S.later y
  obtain ⟨Y21, hZ⟩ : ∃ Z : Later W, Z.w = y.w := ⟨Y20.step (y), rfl⟩
  rw [← hZ] at S hS1 hS2 l4 l6 ⊢
  clear hZ
  clear y
  have q0_0 := l4.cell (k := 0) rfl
  have q0_1 := l4.cell (k := 1) rfl
  have q0_2 := l4.cell (k := 2) rfl
  have q0_l := l4.lt
  go_wp2_with fail
  clear q0_0 q0_1 q0_2 q0_l
  refine (Most_any 3 _ _  exS []  _ hS1).mono ?_
  rintro e w' ⟨rfl, y, rfl⟩
  rw [kn_most, ex_vs.1]
  replace hS1 := hS1.later y
  replace hS2 := hS2.later y
  replace l4 := l4.later y
  replace l6 := l6.later y
  replace S := S.later y
  obtain ⟨Y22, hZ⟩ : ∃ Z : Later W, Z.w = y.w := ⟨Y21.step (y), rfl⟩
  rw [← hZ] at S hS1 hS2 l4 l6 ⊢
  clear hZ
  clear y
  go_wp2_with fail
  obtain ⟨L23, hb⟩ : ∃ b, b = Y22.w.heap.size := ⟨_, rfl⟩
  replace S : Ins (Y22.w.alloc (.cells #[.int .i64 0, .int .i64 (-1), .int .i64 1] 3)) [(.slice (some ⟨L23, 0, none⟩) 3 3, [0, -1, 1]), (.slice a19 n19 c19, [0, 1, 2]), (.slice a14 n14 c14, [0, 1, -1]), (.slice a12 n12 c12, [0, -1, 1]), (.slice (some ⟨L8, 0, none⟩) 3 3, [0, 1, 2])] := (S.later (Later.new _ _)).cons (Ints.lit _ [0, -1, 1] 3 hb rfl rfl (by decide))
  replace hS1 := hS1.later (Later.new _ (.cells #[.int .i64 0, .int .i64 (-1), .int .i64 1] 3))
  rw [Later.new_w] at hS1
  replace hS2 := hS2.later (Later.new _ (.cells #[.int .i64 0, .int .i64 (-1), .int .i64 1] 3))
  rw [Later.new_w] at hS2
  replace l4 := l4.later (Later.new _ (.cells #[.int .i64 0, .int .i64 (-1), .int .i64 1] 3))
  rw [Later.new_w] at l4
  replace l6 := l6.later (Later.new _ (.cells #[.int .i64 0, .int .i64 (-1), .int .i64 1] 3))
  rw [Later.new_w] at l6
  obtain ⟨Y24, hZ⟩ : ∃ Z : Later W, Z.w = Y22.w.alloc (.cells #[.int .i64 0, .int .i64 (-1), .int .i64 1] 3) := ⟨Y22.step (Later.new _ _), rfl⟩
  rw [← hZ] at S hS1 hS2 l4 l6 ⊢
  clear hZ
  rw [← hb]
  clear hb
  refine (of_calls _ _ _ _).mono ?_
  rintro e w' ⟨rfl, hw⟩
  rw [hw]
  clear hw w'
  go_wp2_with fail
  refine (IntsEq_calls _ _ [0, -1, 1] [0, -1, 1] _ (S.at (v := .slice a12 n12 c12) (xs := [0, -1, 1]) (by simp)) (S.at (v := .slice (some ⟨L23, 0, none⟩) 3 3) (xs := [0, -1, 1]) (by simp))).mono ?_
  rintro e w' ⟨rfl, y, rfl⟩
  rw [eqI_self]
  replace hS1 := hS1.later y
  replace hS2 := hS2.later y
  replace l4 := l4.later y
  replace l6 := l6.later y
  replace S := S.later y
  obtain ⟨Y25, hZ⟩ : ∃ Z : Later W, Z.w = y.w := ⟨Y24.step (y), rfl⟩
  rw [← hZ] at S hS1 hS2 l4 l6 ⊢
  clear hZ
  clear y
  go_wp2_with fail
  obtain ⟨L26, hb⟩ : ∃ b, b = Y25.w.heap.size := ⟨_, rfl⟩
  replace S : Ins (Y25.w.alloc (.cells #[.int .i64 0, .int .i64 1, .int .i64 (-1)] 3)) [(.slice (some ⟨L26, 0, none⟩) 3 3, [0, 1, -1]), (.slice (some ⟨L23, 0, none⟩) 3 3, [0, -1, 1]), (.slice a19 n19 c19, [0, 1, 2]), (.slice a14 n14 c14, [0, 1, -1]), (.slice a12 n12 c12, [0, -1, 1]), (.slice (some ⟨L8, 0, none⟩) 3 3, [0, 1, 2])] := (S.later (Later.new _ _)).cons (Ints.lit _ [0, 1, -1] 3 hb rfl rfl (by decide))
  replace hS1 := hS1.later (Later.new _ (.cells #[.int .i64 0, .int .i64 1, .int .i64 (-1)] 3))
  rw [Later.new_w] at hS1
  replace hS2 := hS2.later (Later.new _ (.cells #[.int .i64 0, .int .i64 1, .int .i64 (-1)] 3))
  rw [Later.new_w] at hS2
  replace l4 := l4.later (Later.new _ (.cells #[.int .i64 0, .int .i64 1, .int .i64 (-1)] 3))
  rw [Later.new_w] at l4
  replace l6 := l6.later (Later.new _ (.cells #[.int .i64 0, .int .i64 1, .int .i64 (-1)] 3))
  rw [Later.new_w] at l6
  obtain ⟨Y27, hZ⟩ : ∃ Z : Later W, Z.w = Y25.w.alloc (.cells #[.int .i64 0, .int .i64 1, .int .i64 (-1)] 3) := ⟨Y25.step (Later.new _ _), rfl⟩
  rw [← hZ] at S hS1 hS2 l4 l6 ⊢
  clear hZ
  rw [← hb]
  clear hb
  refine (of_calls _ _ _ _).mono ?_
  rintro e w' ⟨rfl, hw⟩
  rw [hw]
  clear hw w'
  go_wp2_with fail
  refine (IntsEq_calls _ _ [0, 1, -1] [0, 1, -1] _ (S.at (v := .slice a14 n14 c14) (xs := [0, 1, -1]) (by simp)) (S.at (v := .slice (some ⟨L26, 0, none⟩) 3 3) (xs := [0, 1, -1]) (by simp))).mono ?_
  rintro e w' ⟨rfl, y, rfl⟩
  rw [eqI_self]
  replace hS1 := hS1.later y
  replace hS2 := hS2.later y
  replace l4 := l4.later y
  replace l6 := l6.later y
  replace S := S.later y
  obtain ⟨Y28, hZ⟩ : ∃ Z : Later W, Z.w = y.w := ⟨Y27.step (y), rfl⟩
  rw [← hZ] at S hS1 hS2 l4 l6 ⊢
  clear hZ
  clear y
  go_wp2_with fail
  refine (IntsEq_calls _ _ [0, 1, 2] [0, 1, 2] _ (S.at (v := .slice a19 n19 c19) (xs := [0, 1, 2]) (by simp)) (S.at (v := .slice (some ⟨L8, 0, none⟩) 3 3) (xs := [0, 1, 2]) (by simp))).mono ?_
  rintro e w' ⟨rfl, y, rfl⟩
  rw [eqI_self]
  replace hS1 := hS1.later y
  replace hS2 := hS2.later y
  replace l4 := l4.later y
  replace l6 := l6.later y
  replace S := S.later y
  obtain ⟨Y29, hZ⟩ : ∃ Z : Later W, Z.w = y.w := ⟨Y28.step (y), rfl⟩
  rw [← hZ] at S hS1 hS2 l4 l6 ⊢
  clear hZ
  clear y
  go_wp2_with fail
  refine (Works_calls _).mono ?_
  rintro e w' ⟨rfl, y, rfl⟩
  replace hS1 := hS1.later y
  replace hS2 := hS2.later y
  replace l4 := l4.later y
  replace l6 := l6.later y
  replace S := S.later y
  obtain ⟨Y30, hZ⟩ : ∃ Z : Later W, Z.w = y.w := ⟨Y29.step (y), rfl⟩
  rw [← hZ] at S hS1 hS2 l4 l6 ⊢
  clear hZ
  clear y
  go_wp2
  go_ret
  exact ⟨rfl, Y30, rfl⟩
end Go.Proofs.Ytdhdpbnlhnodjaa
