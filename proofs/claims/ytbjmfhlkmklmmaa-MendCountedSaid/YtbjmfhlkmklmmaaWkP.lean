import Derived.Test.YtbjmfhlkmklmmaaWk
/-  Works. -/
namespace Go.Proofs.Ytbjmfhlkmklmmaa
open Go.RowKit
theorem quiet_w {W : World} (Y : Later W) : ∃ y : Later Y.w, y.w = Y.w := ⟨Later.self _, rfl⟩
set_option maxRecDepth 100000 in
set_option maxHeartbeats 8000000 in
theorem Works_calls (W : World) : Calls Try.prog 19 #[] W (Gives (.bool true) W) := by
  go_enter Try.func19, Try.ntmps19

  have S : Ins W [] := Ins.nil _
  go_wp2_with fail
  obtain ⟨L1, hb⟩ : ∃ b, b = W.heap.size := ⟨_, rfl⟩
  replace S : Ins (W.alloc (.cells #[.int .i64 5, .int .i64 3, .int .i64 2, .int .i64 3] 2)) [(.slice (some ⟨L1, 0, none⟩) 4 4, exP)] := (S.later (Later.new _ _)).cons (Ints.lit _ exP 2 hb rfl rfl (by decide))
  obtain ⟨Y2, hZ⟩ : ∃ Z : Later W, Z.w = W.alloc (.cells #[.int .i64 5, .int .i64 3, .int .i64 2, .int .i64 3] 2) := ⟨Later.new _ _, rfl⟩
  rw [← hZ] at S ⊢
  clear hZ
  rw [← hb]
  clear hb
  refine (plate_calls 2 2 _ _ _ _).mono ?_
  rintro e w' ⟨rfl, y, rfl⟩
  replace S := S.later y
  obtain ⟨Y3, hZ⟩ : ∃ Z : Later W, Z.w = y.w := ⟨Y2.step (y), rfl⟩
  rw [← hZ] at S ⊢
  clear hZ
  clear y
  go_wp2_with fail
  obtain ⟨L4, hb⟩ : ∃ b, b = Y3.w.heap.size := ⟨_, rfl⟩
  replace S : Ins (Y3.w.alloc (.cells #[.int .i64 3, .int .i64 1, .int .i64 0, .int .i64 1] 2)) [(.slice (some ⟨L4, 0, none⟩) 4 4, exQ), (.slice (some ⟨L1, 0, none⟩) 4 4, exP)] := (S.later (Later.new _ _)).cons (Ints.lit _ exQ 2 hb rfl rfl (by decide))
  obtain ⟨Y5, hZ⟩ : ∃ Z : Later W, Z.w = Y3.w.alloc (.cells #[.int .i64 3, .int .i64 1, .int .i64 0, .int .i64 1] 2) := ⟨Y3.step (Later.new _ _), rfl⟩
  rw [← hZ] at S ⊢
  clear hZ
  rw [← hb]
  clear hb
  refine (plate_calls 2 2 _ _ _ _).mono ?_
  rintro e w' ⟨rfl, y, rfl⟩
  replace S := S.later y
  obtain ⟨Y6, hZ⟩ : ∃ Z : Later W, Z.w = y.w := ⟨Y5.step (y), rfl⟩
  rw [← hZ] at S ⊢
  clear hZ
  clear y
  go_wp2_with fail
  obtain ⟨B7, hb⟩ : ∃ b, b = Y6.w.heap.size := ⟨_, rfl⟩
  have l7 : Lin (Y6.w.alloc (.cells #[.int .i64 2, .int .i64 2, .slice (some ⟨L1, 0, none⟩) 4 4] 24)) B7 24 [.int .i64 2, .int .i64 2, .slice (some ⟨L1, 0, none⟩) 4 4] := by rw [hb]; exact Lin.new _ _ [.int .i64 2, .int .i64 2, .slice (some ⟨L1, 0, none⟩) 4 4]
  replace S := S.later (Later.new _ (.cells #[.int .i64 2, .int .i64 2, .slice (some ⟨L1, 0, none⟩) 4 4] 24))
  rw [Later.new_w] at S
  have hsz : (Y6.w.alloc (.cells #[.int .i64 2, .int .i64 2, .slice (some ⟨L1, 0, none⟩) 4 4] 24)).heap.size = B7 + 1 := by rw [hb]; simp
  obtain ⟨Y8, hZ⟩ : ∃ Z : Later W, Z.w = Y6.w.alloc (.cells #[.int .i64 2, .int .i64 2, .slice (some ⟨L1, 0, none⟩) 4 4] 24) := ⟨Y6.step (Later.new _ _), rfl⟩
  rw [← hZ] at S hsz l7 ⊢
  clear hZ
  rw [← hb]
  clear hb
  have hs2 := hsz
  rw [← hsz]
  clear hsz
  obtain ⟨B9, hb⟩ : ∃ b, b = Y8.w.heap.size := ⟨_, rfl⟩
  have l9 : Lin (Y8.w.alloc (.cells #[.int .i64 2, .int .i64 2, .slice (some ⟨L4, 0, none⟩) 4 4] 24)) B9 24 [.int .i64 2, .int .i64 2, .slice (some ⟨L4, 0, none⟩) 4 4] := by rw [hb]; exact Lin.new _ _ [.int .i64 2, .int .i64 2, .slice (some ⟨L4, 0, none⟩) 4 4]
  replace S := S.later (Later.new _ (.cells #[.int .i64 2, .int .i64 2, .slice (some ⟨L4, 0, none⟩) 4 4] 24))
  rw [Later.new_w] at S
  replace l7 := l7.later (Later.new _ (.cells #[.int .i64 2, .int .i64 2, .slice (some ⟨L4, 0, none⟩) 4 4] 24))
  rw [Later.new_w] at l7
  have hsz : (Y8.w.alloc (.cells #[.int .i64 2, .int .i64 2, .slice (some ⟨L4, 0, none⟩) 4 4] 24)).heap.size = B9 + 1 := by rw [hb]; simp
  obtain ⟨Y10, hZ⟩ : ∃ Z : Later W, Z.w = Y8.w.alloc (.cells #[.int .i64 2, .int .i64 2, .slice (some ⟨L4, 0, none⟩) 4 4] 24) := ⟨Y8.step (Later.new _ _), rfl⟩
  rw [← hZ] at S hsz l7 l9 ⊢
  clear hZ
  rw [← hb]
  clear hb
  clear hs2 hsz
  refine (Blow_calls 2 2 0 _ exP _ (S.at (v := .slice (some ⟨L1, 0, none⟩) 4 4) (xs := exP) (by simp))).mono ?_
  rintro e w' ⟨v, y, rfl, rfl, hR⟩
  rw [ex_blow.1]
  rw [ex_blow.2.1] at hR
  replace l7 := l7.later y
  replace l9 := l9.later y
  replace S := S.later y
  obtain ⟨a11, n11, c11, rfl⟩ : ∃ a n c, v = .slice a n c := by obtain ⟨a, c, e⟩ := hR.form; exact ⟨a, _, c, e⟩
  replace S := S.cons hR
  obtain ⟨Y12, hZ⟩ : ∃ Z : Later W, Z.w = y.w := ⟨Y10.step (y), rfl⟩
  rw [← hZ] at S l7 l9 ⊢
  clear hZ
  clear y hR
  have q0_0 := l7.cell (k := 0) rfl
  have q0_1 := l7.cell (k := 1) rfl
  have q0_2 := l7.cell (k := 2) rfl
  have q0_l := l7.lt
  have q1_0 := l9.cell (k := 0) rfl
  have q1_1 := l9.cell (k := 1) rfl
  have q1_2 := l9.cell (k := 2) rfl
  have q1_l := l9.lt
  go_wp2_with fail
  clear q0_0 q0_1 q0_2 q0_l
  clear q1_0 q1_1 q1_2 q1_l
  refine (Blow_calls 2 2 1 _ exP _ (S.at (v := .slice (some ⟨L1, 0, none⟩) 4 4) (xs := exP) (by simp))).mono ?_
  rintro e w' ⟨v, y, rfl, rfl, hR⟩
  rw [ex_blow.2.2.1]
  rw [ex_blow.2.2.2] at hR
  replace l7 := l7.later y
  replace l9 := l9.later y
  replace S := S.later y
  obtain ⟨a13, n13, c13, rfl⟩ : ∃ a n c, v = .slice a n c := by obtain ⟨a, c, e⟩ := hR.form; exact ⟨a, _, c, e⟩
  replace S := S.cons hR
  obtain ⟨Y14, hZ⟩ : ∃ Z : Later W, Z.w = y.w := ⟨Y12.step (y), rfl⟩
  rw [← hZ] at S l7 l9 ⊢
  clear hZ
  clear y hR
  have q0_0 := l7.cell (k := 0) rfl
  have q0_1 := l7.cell (k := 1) rfl
  have q0_2 := l7.cell (k := 2) rfl
  have q0_l := l7.lt
  have q1_0 := l9.cell (k := 0) rfl
  have q1_1 := l9.cell (k := 1) rfl
  have q1_2 := l9.cell (k := 2) rfl
  have q1_l := l9.lt
  go_wp2_with fail
  clear q0_0 q0_1 q0_2 q0_l
  clear q1_0 q1_1 q1_2 q1_l
  refine (Flatten_calls 2 2 _ exP _ (S.at (v := .slice (some ⟨L1, 0, none⟩) 4 4) (xs := exP) (by simp))).mono ?_
  rintro e w' ⟨v, u, y, rfl, rfl, hR, hU⟩
  rw [ex_vp.1]
  rw [ex_flat.1] at hR
  rw [ex_flat.2] at hU
  replace l7 := l7.later y
  replace l9 := l9.later y
  replace S := S.later y
  obtain ⟨a15, n15, c15, rfl⟩ : ∃ a n c, v = .slice a n c := by obtain ⟨a, c, e⟩ := hR.form; exact ⟨a, _, c, e⟩
  replace S := S.cons hR
  obtain ⟨a16, n16, c16, rfl⟩ : ∃ a n c, u = .slice a n c := by obtain ⟨a, c, e⟩ := hU.form; exact ⟨a, _, c, e⟩
  replace S := S.cons hU
  obtain ⟨Y17, hZ⟩ : ∃ Z : Later W, Z.w = y.w := ⟨Y14.step (y), rfl⟩
  rw [← hZ] at S l7 l9 ⊢
  clear hZ
  clear y hR hU
  have q0_0 := l7.cell (k := 0) rfl
  have q0_1 := l7.cell (k := 1) rfl
  have q0_2 := l7.cell (k := 2) rfl
  have q0_l := l7.lt
  have q1_0 := l9.cell (k := 0) rfl
  have q1_1 := l9.cell (k := 1) rfl
  have q1_2 := l9.cell (k := 2) rfl
  have q1_l := l9.lt
  go_wp2_with fail
  clear q0_0 q0_1 q0_2 q0_l
  clear q1_0 q1_1 q1_2 q1_l
  refine (Lost_calls 2 2 _ exP _ (S.at (v := .slice (some ⟨L1, 0, none⟩) 4 4) (xs := exP) (by simp))).mono ?_
  rintro e w' ⟨rfl, y, rfl⟩
  rw [ex_lost, ex_vp.1]
  replace l7 := l7.later y
  replace l9 := l9.later y
  replace S := S.later y
  obtain ⟨Y18, hZ⟩ : ∃ Z : Later W, Z.w = y.w := ⟨Y17.step (y), rfl⟩
  rw [← hZ] at S l7 l9 ⊢
  clear hZ
  clear y
  have q0_0 := l7.cell (k := 0) rfl
  have q0_1 := l7.cell (k := 1) rfl
  have q0_2 := l7.cell (k := 2) rfl
  have q0_l := l7.lt
  go_wp2
  refine Mix.region_mixL (Mix.kinds [1, 5] [2, 3, 6, 7] []) (by kernel_rfl) (by kernel_rfl) ?_
  repeat ((with_reducible refine Mix.atCons ?_); first | refine Mix.skipU (by rfl) rfl (by rfl) ?_ | (refine Mix.val rfl rfl (by rfl) (fun K hK => ?_); go_big_quiet_op; refine hK _ ?_; clear hK K))
  refine Mix.new rfl (by rfl) (fun b => .slice (some ⟨b, 0, none⟩) 4 4) (.cells #[.int .i64 1, .int .i64 1, .int .i64 1, .int .i64 1] 2) (fun w => by simp [go_sem]) (fun N1 x1 _ hx1 => ?_)
  have hn1 : Ints x1.w (.slice (some ⟨N1, 0, none⟩) 4 4) [1, 1, 1, 1] := Ints.block (T := 2) (xs := [1, 1, 1, 1]) hx1 (by decide)
  refine Mix.loud rfl (by rfl) (fun x2 K hK => ?_)
  go_wp2_with fail
  refine (longs_calls _ _ _ _).mono ?_
  rintro e w' ⟨rfl, hw⟩
  rw [hw]
  refine hK _ (Later.self _) ?_
  clear hK K hw w'
  simp only [Later.self_w]
  refine Mix.loud rfl (by rfl) (fun x3 K hK => ?_)
  go_wp2_with fail
  refine (CheckBlows_calls 2 2 _ _ exP [1, 1, 1, 1] _ ((((S.at (v := .slice (some ⟨L1, 0, none⟩) 4 4) (xs := exP) (by simp)).later x1).later x2).later x3) ((hn1.later x2).later x3)).mono ?_
  rintro e w' ⟨rfl, y3, rfl⟩
  rw [ex_blows.1]
  refine hK _ y3 ?_
  clear hK K
  try go_frame
  repeat ((with_reducible refine Mix.atCons ?_); first | refine Mix.skipU (by rfl) rfl (by rfl) ?_ | (refine Mix.val rfl rfl (by rfl) (fun K hK => ?_); go_big_quiet_op; refine hK _ ?_; clear hK K))
  refine Mix.new rfl (by rfl) (fun b => .slice (some ⟨b, 0, none⟩) 4 4) (.cells #[.int .i64 1, .int .i64 1, .int .i64 1, .int .i64 0] 2) (fun w => by simp [go_sem]) (fun N4 x4 _ hx4 => ?_)
  have hn4 : Ints x4.w (.slice (some ⟨N4, 0, none⟩) 4 4) [1, 1, 1, 0] := Ints.block (T := 2) (xs := [1, 1, 1, 0]) hx4 (by decide)
  refine Mix.loud rfl (by rfl) (fun x5 K hK => ?_)
  go_wp2_with fail
  refine (longs_calls _ _ _ _).mono ?_
  rintro e w' ⟨rfl, hw⟩
  rw [hw]
  refine hK _ (Later.self _) ?_
  clear hK K hw w'
  simp only [Later.self_w]
  refine Mix.loud rfl (by rfl) (fun x6 K hK => ?_)
  go_wp2_with fail
  refine (CheckBlows_calls 2 2 _ _ exP [1, 1, 1, 0] _ ((((((((S.at (v := .slice (some ⟨L1, 0, none⟩) 4 4) (xs := exP) (by simp)).later x1).later x2).later x3).later y3).later x4).later x5).later x6) ((hn4.later x5).later x6)).mono ?_
  rintro e w' ⟨rfl, y6, rfl⟩
  rw [ex_blows.2]
  refine hK _ y6 ?_
  clear hK K
  try go_frame
  repeat ((with_reducible refine Mix.atCons ?_); first | refine Mix.skipU (by rfl) rfl (by rfl) ?_ | (refine Mix.val rfl rfl (by rfl) (fun K hK => ?_); go_big_quiet_op; refine hK _ ?_; clear hK K))
  refine Mix.done (fun x7 => ?_)
  clear q0_0 q0_1 q0_2 q0_l
  replace l7 := (((((((((l7.later x1).later x2).later x3).later y3).later x4).later x5).later x6).later y6).later x7)
  replace l9 := (((((((((l9.later x1).later x2).later x3).later y3).later x4).later x5).later x6).later y6).later x7)
  replace S := (((((((((S.later x1).later x2).later x3).later y3).later x4).later x5).later x6).later y6).later x7)
  obtain ⟨Y19, hZ⟩ : ∃ Z : Later W, Z.w = x7.w := ⟨Y18.step (x1.step (x2.step (x3.step (y3.step (x4.step (x5.step (x6.step (y6.step (x7))))))))), rfl⟩
  rw [← hZ] at S l7 l9 ⊢
  clear hZ
  have q0_0 := l7.cell (k := 0) rfl
  have q0_1 := l7.cell (k := 1) rfl
  have q0_2 := l7.cell (k := 2) rfl
  have q0_l := l7.lt
  have q1_0 := l9.cell (k := 0) rfl
  have q1_1 := l9.cell (k := 1) rfl
  have q1_2 := l9.cell (k := 2) rfl
  have q1_l := l9.lt
  go_wp2_with fail
  clear q0_0 q0_1 q0_2 q0_l
  clear q1_0 q1_1 q1_2 q1_l
  refine (Burn_calls 2 2 _ exQ _ (S.at (v := .slice (some ⟨L4, 0, none⟩) 4 4) (xs := exQ) (by simp))).mono ?_
  rintro e w' ⟨v, y, rfl, rfl, hR⟩
  rw [ex_burn.1]
  rw [ex_burn.2.1] at hR
  replace l7 := l7.later y
  replace l9 := l9.later y
  replace S := S.later y
  obtain ⟨a20, n20, c20, rfl⟩ : ∃ a n c, v = .slice a n c := by obtain ⟨a, c, e⟩ := hR.form; exact ⟨a, _, c, e⟩
  replace S := S.cons hR
  obtain ⟨Y21, hZ⟩ : ∃ Z : Later W, Z.w = y.w := ⟨Y19.step (y), rfl⟩
  rw [← hZ] at S l7 l9 ⊢
  clear hZ
  clear y hR
  have q0_0 := l7.cell (k := 0) rfl
  have q0_1 := l7.cell (k := 1) rfl
  have q0_2 := l7.cell (k := 2) rfl
  have q0_l := l7.lt
  have q1_0 := l9.cell (k := 0) rfl
  have q1_1 := l9.cell (k := 1) rfl
  have q1_2 := l9.cell (k := 2) rfl
  have q1_l := l9.lt
  go_wp2_with fail
  clear q0_0 q0_1 q0_2 q0_l
  clear q1_0 q1_1 q1_2 q1_l
  refine (Burn_calls 2 2 _ exP _ (S.at (v := .slice (some ⟨L1, 0, none⟩) 4 4) (xs := exP) (by simp))).mono ?_
  rintro e w' ⟨v, y, rfl, rfl, hR⟩
  rw [ex_burn.2.2.1]
  replace l7 := l7.later y
  replace l9 := l9.later y
  replace S := S.later y
  obtain ⟨a22, n22, c22, rfl⟩ : ∃ a n c, v = .slice a n c := by obtain ⟨a, c, e⟩ := hR.form; exact ⟨a, _, c, e⟩
  replace S := S.cons hR
  obtain ⟨Y23, hZ⟩ : ∃ Z : Later W, Z.w = y.w := ⟨Y21.step (y), rfl⟩
  rw [← hZ] at S l7 l9 ⊢
  clear hZ
  clear y hR
  go_wp2_with fail
  obtain ⟨L24, hb⟩ : ∃ b, b = Y23.w.heap.size := ⟨_, rfl⟩
  replace S : Ins (Y23.w.alloc (.cells #[.int .i64 0, .int .i64 1, .int .i64 1, .int .i64 0] 2)) [(.slice (some ⟨L24, 0, none⟩) 4 4, [0, 1, 1, 0]), (.slice a22 n22 c22, (burnK 2 2 exP)), (.slice a20 n20 c20, [0, 1, 3, 2]), (.slice a16 n16 c16, [1, 1, 1, 1]), (.slice a15 n15 c15, [3, 1, 0, 1]), (.slice a13 n13 c13, []), (.slice a11 n11 c11, [1, 4, 3, 3]), (.slice (some ⟨L4, 0, none⟩) 4 4, exQ), (.slice (some ⟨L1, 0, none⟩) 4 4, exP)] := (S.later (Later.new _ _)).cons (Ints.lit _ [0, 1, 1, 0] 2 hb rfl rfl (by decide))
  replace l7 := l7.later (Later.new _ (.cells #[.int .i64 0, .int .i64 1, .int .i64 1, .int .i64 0] 2))
  rw [Later.new_w] at l7
  replace l9 := l9.later (Later.new _ (.cells #[.int .i64 0, .int .i64 1, .int .i64 1, .int .i64 0] 2))
  rw [Later.new_w] at l9
  obtain ⟨Y25, hZ⟩ : ∃ Z : Later W, Z.w = Y23.w.alloc (.cells #[.int .i64 0, .int .i64 1, .int .i64 1, .int .i64 0] 2) := ⟨Y23.step (Later.new _ _), rfl⟩
  rw [← hZ] at S l7 l9 ⊢
  clear hZ
  rw [← hb]
  clear hb
  refine (plate_calls 2 2 _ _ _ _).mono ?_
  rintro e w' ⟨rfl, y, rfl⟩
  replace l7 := l7.later y
  replace l9 := l9.later y
  replace S := S.later y
  obtain ⟨Y26, hZ⟩ : ∃ Z : Later W, Z.w = y.w := ⟨Y25.step (y), rfl⟩
  rw [← hZ] at S l7 l9 ⊢
  clear hZ
  clear y
  go_wp2_with fail
  refine (Back_calls 2 2 _ [0, 1, 1, 0] _ (S.at (v := .slice (some ⟨L24, 0, none⟩) 4 4) (xs := [0, 1, 1, 0]) (by simp))).mono ?_
  rintro e w' ⟨rfl, y, rfl⟩
  rw [ex_burn.2.2.2.1, ex_burn.2.2.2.2]
  replace l7 := l7.later y
  replace l9 := l9.later y
  replace S := S.later y
  obtain ⟨Y27, hZ⟩ : ∃ Z : Later W, Z.w = y.w := ⟨Y26.step (y), rfl⟩
  rw [← hZ] at S l7 l9 ⊢
  clear hZ
  clear y
  go_wp2_with fail
  refine (Neutral_calls 2 2 _).mono ?_
  rintro e w' ⟨v, y, rfl, rfl, hR⟩
  rw [ex_neut.1]
  rw [ex_neut.2] at hR
  replace l7 := l7.later y
  replace l9 := l9.later y
  replace S := S.later y
  obtain ⟨a28, n28, c28, rfl⟩ : ∃ a n c, v = .slice a n c := by obtain ⟨a, c, e⟩ := hR.form; exact ⟨a, _, c, e⟩
  replace S := S.cons hR
  obtain ⟨Y29, hZ⟩ : ∃ Z : Later W, Z.w = y.w := ⟨Y27.step (y), rfl⟩
  rw [← hZ] at S l7 l9 ⊢
  clear hZ
  clear y hR
  have q0_0 := l9.cell (k := 0) rfl
  have q0_1 := l9.cell (k := 1) rfl
  have q0_2 := l9.cell (k := 2) rfl
  have q0_l := l9.lt
  go_wp2
  refine Mix.region_mixL (Mix.kinds [1] [2, 3] []) (by kernel_rfl) (by kernel_rfl) ?_
  repeat ((with_reducible refine Mix.atCons ?_); first | refine Mix.skipU (by rfl) rfl (by rfl) ?_ | (refine Mix.val rfl rfl (by rfl) (fun K hK => ?_); go_big_quiet_op; refine hK _ ?_; clear hK K))
  refine Mix.new rfl (by rfl) (fun b => .slice (some ⟨b, 0, none⟩) 4 4) (.cells #[.int .i64 2, .int .i64 2, .int .i64 2, .int .i64 2] 2) (fun w => by simp [go_sem]) (fun N1 x1 _ hx1 => ?_)
  have hn1 : Ints x1.w (.slice (some ⟨N1, 0, none⟩) 4 4) [2, 2, 2, 2] := Ints.block (T := 2) (xs := [2, 2, 2, 2]) hx1 (by decide)
  refine Mix.loud rfl (by rfl) (fun xa K hK => ?_)
  go_wp2_with fail
  refine (plate_calls 2 2 _ _ _ _).mono ?_
  rintro e w' ⟨rfl, ya, rfl⟩
  refine hK _ ya ?_
  clear hK K
  refine Mix.loud rfl (by rfl) (fun x2 K hK => ?_)
  go_wp2_with fail
  refine (Upon_calls 2 2 2 2 _ _ exQ [2, 2, 2, 2] _ (((((S.at (v := .slice (some ⟨L4, 0, none⟩) 4 4) (xs := exQ) (by simp)).later x1).later xa).later ya).later x2) (((hn1.later xa).later ya).later x2)).mono ?_
  rintro e w' ⟨v, y2, rfl, rfl, hR⟩
  rw [ex_upon.1]
  rw [ex_upon.2] at hR
  obtain ⟨au, nu, cu, rfl⟩ : ∃ a n c, v = .slice a n c := by obtain ⟨a, c, e⟩ := hR.form; exact ⟨a, _, c, e⟩
  refine hK _ y2 ?_
  clear hK K
  try go_frame
  repeat ((with_reducible refine Mix.atCons ?_); first | refine Mix.skipU (by rfl) rfl (by rfl) ?_ | (refine Mix.val rfl rfl (by rfl) (fun K hK => ?_); go_big_quiet_op; refine hK _ ?_; clear hK K))
  refine Mix.done (fun x3 => ?_)
  clear q0_0 q0_1 q0_2 q0_l
  replace l7 := ((((((l7.later x1).later xa).later ya).later x2).later y2).later x3)
  replace l9 := ((((((l9.later x1).later xa).later ya).later x2).later y2).later x3)
  replace S := ((((((S.later x1).later xa).later ya).later x2).later y2).later x3)
  replace hR := (hR.later x3)
  replace S := S.cons hR
  obtain ⟨Y30, hZ⟩ : ∃ Z : Later W, Z.w = x3.w := ⟨Y29.step (x1.step (xa.step (ya.step (x2.step (y2.step (x3)))))), rfl⟩
  rw [← hZ] at S l7 l9 ⊢
  clear hZ
  go_wp2_with fail
  refine (Count_calls 2 2 _).mono ?_
  rintro e w' ⟨rfl, y, rfl⟩
  rw [ex_cnt.1, ex_cnt.2.1]
  replace l7 := l7.later y
  replace l9 := l9.later y
  replace S := S.later y
  obtain ⟨Y31, hZ⟩ : ∃ Z : Later W, Z.w = y.w := ⟨Y30.step (y), rfl⟩
  rw [← hZ] at S l7 l9 ⊢
  clear hZ
  clear y
  go_wp2_with fail
  refine (Count_calls 5 1 _).mono ?_
  rintro e w' ⟨rfl, y, rfl⟩
  rw [ex_cnt.2.2]
  replace l7 := l7.later y
  replace l9 := l9.later y
  replace S := S.later y
  obtain ⟨Y32, hZ⟩ : ∃ Z : Later W, Z.w = y.w := ⟨Y31.step (y), rfl⟩
  rw [← hZ] at S l7 l9 ⊢
  clear hZ
  clear y
  go_wp2_with fail
  obtain ⟨L33, hb⟩ : ∃ b, b = Y32.w.heap.size := ⟨_, rfl⟩
  replace S : Ins (Y32.w.alloc (.cells #[.int .i64 1, .int .i64 4, .int .i64 3, .int .i64 3] 2)) [(.slice (some ⟨L33, 0, none⟩) 4 4, [1, 4, 3, 3]), ((Value.slice au nu cu), [3, 1, 0, 1]), (.slice a28 n28 c28, [2, 2, 2, 2]), (.slice (some ⟨L24, 0, none⟩) 4 4, [0, 1, 1, 0]), (.slice a22 n22 c22, (burnK 2 2 exP)), (.slice a20 n20 c20, [0, 1, 3, 2]), (.slice a16 n16 c16, [1, 1, 1, 1]), (.slice a15 n15 c15, [3, 1, 0, 1]), (.slice a13 n13 c13, []), (.slice a11 n11 c11, [1, 4, 3, 3]), (.slice (some ⟨L4, 0, none⟩) 4 4, exQ), (.slice (some ⟨L1, 0, none⟩) 4 4, exP)] := (S.later (Later.new _ _)).cons (Ints.lit _ [1, 4, 3, 3] 2 hb rfl rfl (by decide))
  replace l7 := l7.later (Later.new _ (.cells #[.int .i64 1, .int .i64 4, .int .i64 3, .int .i64 3] 2))
  rw [Later.new_w] at l7
  replace l9 := l9.later (Later.new _ (.cells #[.int .i64 1, .int .i64 4, .int .i64 3, .int .i64 3] 2))
  rw [Later.new_w] at l9
  obtain ⟨Y34, hZ⟩ : ∃ Z : Later W, Z.w = Y32.w.alloc (.cells #[.int .i64 1, .int .i64 4, .int .i64 3, .int .i64 3] 2) := ⟨Y32.step (Later.new _ _), rfl⟩
  rw [← hZ] at S l7 l9 ⊢
  clear hZ
  rw [← hb]
  clear hb
  refine (longs_calls _ _ _ _).mono ?_
  rintro e w' ⟨rfl, hw⟩
  rw [hw]
  clear hw w'
  go_wp2_with fail
  refine (Longs_calls _ _ [1, 4, 3, 3] [1, 4, 3, 3] _ (S.at (v := .slice a11 n11 c11) (xs := [1, 4, 3, 3]) (by simp)) (S.at (v := .slice (some ⟨L33, 0, none⟩) 4 4) (xs := [1, 4, 3, 3]) (by simp))).mono ?_
  rintro e w' ⟨rfl, y, rfl⟩
  rw [eqI_self]
  replace l7 := l7.later y
  replace l9 := l9.later y
  replace S := S.later y
  obtain ⟨Y35, hZ⟩ : ∃ Z : Later W, Z.w = y.w := ⟨Y34.step (y), rfl⟩
  rw [← hZ] at S l7 l9 ⊢
  clear hZ
  clear y
  go_wp2_with fail
  obtain ⟨L36, hb⟩ : ∃ b, b = Y35.w.heap.size := ⟨_, rfl⟩
  replace S : Ins (Y35.w.alloc (.cells #[.int .i64 3, .int .i64 1, .int .i64 0, .int .i64 1] 2)) [(.slice (some ⟨L36, 0, none⟩) 4 4, [3, 1, 0, 1]), (.slice (some ⟨L33, 0, none⟩) 4 4, [1, 4, 3, 3]), ((Value.slice au nu cu), [3, 1, 0, 1]), (.slice a28 n28 c28, [2, 2, 2, 2]), (.slice (some ⟨L24, 0, none⟩) 4 4, [0, 1, 1, 0]), (.slice a22 n22 c22, (burnK 2 2 exP)), (.slice a20 n20 c20, [0, 1, 3, 2]), (.slice a16 n16 c16, [1, 1, 1, 1]), (.slice a15 n15 c15, [3, 1, 0, 1]), (.slice a13 n13 c13, []), (.slice a11 n11 c11, [1, 4, 3, 3]), (.slice (some ⟨L4, 0, none⟩) 4 4, exQ), (.slice (some ⟨L1, 0, none⟩) 4 4, exP)] := (S.later (Later.new _ _)).cons (Ints.lit _ [3, 1, 0, 1] 2 hb rfl rfl (by decide))
  replace l7 := l7.later (Later.new _ (.cells #[.int .i64 3, .int .i64 1, .int .i64 0, .int .i64 1] 2))
  rw [Later.new_w] at l7
  replace l9 := l9.later (Later.new _ (.cells #[.int .i64 3, .int .i64 1, .int .i64 0, .int .i64 1] 2))
  rw [Later.new_w] at l9
  obtain ⟨Y37, hZ⟩ : ∃ Z : Later W, Z.w = Y35.w.alloc (.cells #[.int .i64 3, .int .i64 1, .int .i64 0, .int .i64 1] 2) := ⟨Y35.step (Later.new _ _), rfl⟩
  rw [← hZ] at S l7 l9 ⊢
  clear hZ
  rw [← hb]
  clear hb
  refine (longs_calls _ _ _ _).mono ?_
  rintro e w' ⟨rfl, hw⟩
  rw [hw]
  clear hw w'
  go_wp2_with fail
  refine (Longs_calls _ _ [3, 1, 0, 1] [3, 1, 0, 1] _ (S.at (v := .slice a15 n15 c15) (xs := [3, 1, 0, 1]) (by simp)) (S.at (v := .slice (some ⟨L36, 0, none⟩) 4 4) (xs := [3, 1, 0, 1]) (by simp))).mono ?_
  rintro e w' ⟨rfl, y, rfl⟩
  rw [eqI_self]
  replace l7 := l7.later y
  replace l9 := l9.later y
  replace S := S.later y
  obtain ⟨Y38, hZ⟩ : ∃ Z : Later W, Z.w = y.w := ⟨Y37.step (y), rfl⟩
  rw [← hZ] at S l7 l9 ⊢
  clear hZ
  clear y
  go_wp2_with fail
  obtain ⟨L39, hb⟩ : ∃ b, b = Y38.w.heap.size := ⟨_, rfl⟩
  replace S : Ins (Y38.w.alloc (.cells #[.int .i64 1, .int .i64 1, .int .i64 1, .int .i64 1] 2)) [(.slice (some ⟨L39, 0, none⟩) 4 4, [1, 1, 1, 1]), (.slice (some ⟨L36, 0, none⟩) 4 4, [3, 1, 0, 1]), (.slice (some ⟨L33, 0, none⟩) 4 4, [1, 4, 3, 3]), ((Value.slice au nu cu), [3, 1, 0, 1]), (.slice a28 n28 c28, [2, 2, 2, 2]), (.slice (some ⟨L24, 0, none⟩) 4 4, [0, 1, 1, 0]), (.slice a22 n22 c22, (burnK 2 2 exP)), (.slice a20 n20 c20, [0, 1, 3, 2]), (.slice a16 n16 c16, [1, 1, 1, 1]), (.slice a15 n15 c15, [3, 1, 0, 1]), (.slice a13 n13 c13, []), (.slice a11 n11 c11, [1, 4, 3, 3]), (.slice (some ⟨L4, 0, none⟩) 4 4, exQ), (.slice (some ⟨L1, 0, none⟩) 4 4, exP)] := (S.later (Later.new _ _)).cons (Ints.lit _ [1, 1, 1, 1] 2 hb rfl rfl (by decide))
  replace l7 := l7.later (Later.new _ (.cells #[.int .i64 1, .int .i64 1, .int .i64 1, .int .i64 1] 2))
  rw [Later.new_w] at l7
  replace l9 := l9.later (Later.new _ (.cells #[.int .i64 1, .int .i64 1, .int .i64 1, .int .i64 1] 2))
  rw [Later.new_w] at l9
  obtain ⟨Y40, hZ⟩ : ∃ Z : Later W, Z.w = Y38.w.alloc (.cells #[.int .i64 1, .int .i64 1, .int .i64 1, .int .i64 1] 2) := ⟨Y38.step (Later.new _ _), rfl⟩
  rw [← hZ] at S l7 l9 ⊢
  clear hZ
  rw [← hb]
  clear hb
  refine (longs_calls _ _ _ _).mono ?_
  rintro e w' ⟨rfl, hw⟩
  rw [hw]
  clear hw w'
  go_wp2_with fail
  refine (Longs_calls _ _ [1, 1, 1, 1] [1, 1, 1, 1] _ (S.at (v := .slice a16 n16 c16) (xs := [1, 1, 1, 1]) (by simp)) (S.at (v := .slice (some ⟨L39, 0, none⟩) 4 4) (xs := [1, 1, 1, 1]) (by simp))).mono ?_
  rintro e w' ⟨rfl, y, rfl⟩
  rw [eqI_self]
  replace l7 := l7.later y
  replace l9 := l9.later y
  replace S := S.later y
  obtain ⟨Y41, hZ⟩ : ∃ Z : Later W, Z.w = y.w := ⟨Y40.step (y), rfl⟩
  rw [← hZ] at S l7 l9 ⊢
  clear hZ
  clear y
  go_wp2_with fail
  obtain ⟨L42, hb⟩ : ∃ b, b = Y41.w.heap.size := ⟨_, rfl⟩
  replace S : Ins (Y41.w.alloc (.cells #[.int .i64 0, .int .i64 1, .int .i64 3, .int .i64 2] 3)) [(.slice (some ⟨L42, 0, none⟩) 4 4, [0, 1, 3, 2]), (.slice (some ⟨L39, 0, none⟩) 4 4, [1, 1, 1, 1]), (.slice (some ⟨L36, 0, none⟩) 4 4, [3, 1, 0, 1]), (.slice (some ⟨L33, 0, none⟩) 4 4, [1, 4, 3, 3]), ((Value.slice au nu cu), [3, 1, 0, 1]), (.slice a28 n28 c28, [2, 2, 2, 2]), (.slice (some ⟨L24, 0, none⟩) 4 4, [0, 1, 1, 0]), (.slice a22 n22 c22, (burnK 2 2 exP)), (.slice a20 n20 c20, [0, 1, 3, 2]), (.slice a16 n16 c16, [1, 1, 1, 1]), (.slice a15 n15 c15, [3, 1, 0, 1]), (.slice a13 n13 c13, []), (.slice a11 n11 c11, [1, 4, 3, 3]), (.slice (some ⟨L4, 0, none⟩) 4 4, exQ), (.slice (some ⟨L1, 0, none⟩) 4 4, exP)] := (S.later (Later.new _ _)).cons (Ints.lit _ [0, 1, 3, 2] 3 hb rfl rfl (by decide))
  replace l7 := l7.later (Later.new _ (.cells #[.int .i64 0, .int .i64 1, .int .i64 3, .int .i64 2] 3))
  rw [Later.new_w] at l7
  replace l9 := l9.later (Later.new _ (.cells #[.int .i64 0, .int .i64 1, .int .i64 3, .int .i64 2] 3))
  rw [Later.new_w] at l9
  obtain ⟨Y43, hZ⟩ : ∃ Z : Later W, Z.w = Y41.w.alloc (.cells #[.int .i64 0, .int .i64 1, .int .i64 3, .int .i64 2] 3) := ⟨Y41.step (Later.new _ _), rfl⟩
  rw [← hZ] at S l7 l9 ⊢
  clear hZ
  rw [← hb]
  clear hb
  refine (of_calls _ _ _ _).mono ?_
  rintro e w' ⟨rfl, hw⟩
  rw [hw]
  clear hw w'
  go_wp2_with fail
  refine (IntsEq_calls _ _ [0, 1, 3, 2] [0, 1, 3, 2] _ (S.at (v := .slice a20 n20 c20) (xs := [0, 1, 3, 2]) (by simp)) (S.at (v := .slice (some ⟨L42, 0, none⟩) 4 4) (xs := [0, 1, 3, 2]) (by simp))).mono ?_
  rintro e w' ⟨rfl, y, rfl⟩
  rw [eqI_self]
  replace l7 := l7.later y
  replace l9 := l9.later y
  replace S := S.later y
  obtain ⟨Y44, hZ⟩ : ∃ Z : Later W, Z.w = y.w := ⟨Y43.step (y), rfl⟩
  rw [← hZ] at S l7 l9 ⊢
  clear hZ
  clear y
  go_wp2_with fail
  obtain ⟨L45, hb⟩ : ∃ b, b = Y44.w.heap.size := ⟨_, rfl⟩
  replace S : Ins (Y44.w.alloc (.cells #[.int .i64 2, .int .i64 2, .int .i64 2, .int .i64 2] 2)) [(.slice (some ⟨L45, 0, none⟩) 4 4, [2, 2, 2, 2]), (.slice (some ⟨L42, 0, none⟩) 4 4, [0, 1, 3, 2]), (.slice (some ⟨L39, 0, none⟩) 4 4, [1, 1, 1, 1]), (.slice (some ⟨L36, 0, none⟩) 4 4, [3, 1, 0, 1]), (.slice (some ⟨L33, 0, none⟩) 4 4, [1, 4, 3, 3]), ((Value.slice au nu cu), [3, 1, 0, 1]), (.slice a28 n28 c28, [2, 2, 2, 2]), (.slice (some ⟨L24, 0, none⟩) 4 4, [0, 1, 1, 0]), (.slice a22 n22 c22, (burnK 2 2 exP)), (.slice a20 n20 c20, [0, 1, 3, 2]), (.slice a16 n16 c16, [1, 1, 1, 1]), (.slice a15 n15 c15, [3, 1, 0, 1]), (.slice a13 n13 c13, []), (.slice a11 n11 c11, [1, 4, 3, 3]), (.slice (some ⟨L4, 0, none⟩) 4 4, exQ), (.slice (some ⟨L1, 0, none⟩) 4 4, exP)] := (S.later (Later.new _ _)).cons (Ints.lit _ [2, 2, 2, 2] 2 hb rfl rfl (by decide))
  replace l7 := l7.later (Later.new _ (.cells #[.int .i64 2, .int .i64 2, .int .i64 2, .int .i64 2] 2))
  rw [Later.new_w] at l7
  replace l9 := l9.later (Later.new _ (.cells #[.int .i64 2, .int .i64 2, .int .i64 2, .int .i64 2] 2))
  rw [Later.new_w] at l9
  obtain ⟨Y46, hZ⟩ : ∃ Z : Later W, Z.w = Y44.w.alloc (.cells #[.int .i64 2, .int .i64 2, .int .i64 2, .int .i64 2] 2) := ⟨Y44.step (Later.new _ _), rfl⟩
  rw [← hZ] at S l7 l9 ⊢
  clear hZ
  rw [← hb]
  clear hb
  refine (longs_calls _ _ _ _).mono ?_
  rintro e w' ⟨rfl, hw⟩
  rw [hw]
  clear hw w'
  go_wp2_with fail
  refine (Longs_calls _ _ [2, 2, 2, 2] [2, 2, 2, 2] _ (S.at (v := .slice a28 n28 c28) (xs := [2, 2, 2, 2]) (by simp)) (S.at (v := .slice (some ⟨L45, 0, none⟩) 4 4) (xs := [2, 2, 2, 2]) (by simp))).mono ?_
  rintro e w' ⟨rfl, y, rfl⟩
  rw [eqI_self]
  replace l7 := l7.later y
  replace l9 := l9.later y
  replace S := S.later y
  obtain ⟨Y47, hZ⟩ : ∃ Z : Later W, Z.w = y.w := ⟨Y46.step (y), rfl⟩
  rw [← hZ] at S l7 l9 ⊢
  clear hZ
  clear y
  go_wp2_with fail
  obtain ⟨L48, hb⟩ : ∃ b, b = Y47.w.heap.size := ⟨_, rfl⟩
  replace S : Ins (Y47.w.alloc (.cells #[.int .i64 3, .int .i64 1, .int .i64 0, .int .i64 1] 2)) [(.slice (some ⟨L48, 0, none⟩) 4 4, [3, 1, 0, 1]), (.slice (some ⟨L45, 0, none⟩) 4 4, [2, 2, 2, 2]), (.slice (some ⟨L42, 0, none⟩) 4 4, [0, 1, 3, 2]), (.slice (some ⟨L39, 0, none⟩) 4 4, [1, 1, 1, 1]), (.slice (some ⟨L36, 0, none⟩) 4 4, [3, 1, 0, 1]), (.slice (some ⟨L33, 0, none⟩) 4 4, [1, 4, 3, 3]), ((Value.slice au nu cu), [3, 1, 0, 1]), (.slice a28 n28 c28, [2, 2, 2, 2]), (.slice (some ⟨L24, 0, none⟩) 4 4, [0, 1, 1, 0]), (.slice a22 n22 c22, (burnK 2 2 exP)), (.slice a20 n20 c20, [0, 1, 3, 2]), (.slice a16 n16 c16, [1, 1, 1, 1]), (.slice a15 n15 c15, [3, 1, 0, 1]), (.slice a13 n13 c13, []), (.slice a11 n11 c11, [1, 4, 3, 3]), (.slice (some ⟨L4, 0, none⟩) 4 4, exQ), (.slice (some ⟨L1, 0, none⟩) 4 4, exP)] := (S.later (Later.new _ _)).cons (Ints.lit _ [3, 1, 0, 1] 2 hb rfl rfl (by decide))
  replace l7 := l7.later (Later.new _ (.cells #[.int .i64 3, .int .i64 1, .int .i64 0, .int .i64 1] 2))
  rw [Later.new_w] at l7
  replace l9 := l9.later (Later.new _ (.cells #[.int .i64 3, .int .i64 1, .int .i64 0, .int .i64 1] 2))
  rw [Later.new_w] at l9
  obtain ⟨Y49, hZ⟩ : ∃ Z : Later W, Z.w = Y47.w.alloc (.cells #[.int .i64 3, .int .i64 1, .int .i64 0, .int .i64 1] 2) := ⟨Y47.step (Later.new _ _), rfl⟩
  rw [← hZ] at S l7 l9 ⊢
  clear hZ
  rw [← hb]
  clear hb
  refine (longs_calls _ _ _ _).mono ?_
  rintro e w' ⟨rfl, hw⟩
  rw [hw]
  clear hw w'
  go_wp2_with fail
  refine (Longs_calls _ _ [3, 1, 0, 1] [3, 1, 0, 1] _ (S.at (v := (Value.slice au nu cu)) (xs := [3, 1, 0, 1]) (by simp)) (S.at (v := .slice (some ⟨L48, 0, none⟩) 4 4) (xs := [3, 1, 0, 1]) (by simp))).mono ?_
  rintro e w' ⟨rfl, y, rfl⟩
  rw [eqI_self]
  replace l7 := l7.later y
  replace l9 := l9.later y
  replace S := S.later y
  obtain ⟨Y50, hZ⟩ : ∃ Z : Later W, Z.w = y.w := ⟨Y49.step (y), rfl⟩
  rw [← hZ] at S l7 l9 ⊢
  clear hZ
  clear y
  go_wp2_with fail
  go_ret
  exact ⟨rfl, Y50, rfl⟩
end Go.Proofs.Ytbjmfhlkmklmmaa
