import Derived.Test.YtbjmfhlkmklmmaaWkP
/-  MendKnown. -/
namespace Go.Proofs.Ytbjmfhlkmklmmaa
open Go.RowKit
def exR : List Int := [4, 0, 0, 0]
theorem kn_vp : vplate 2 2 exR = 0 ∧ vplate 2 2 [3, 1, 0, 1] = 0 := by decide +kernel
theorem kn_flat : flatX 2 2 exR = [0, 1, 1, 0] ∧ flatU 2 2 exR = [1, 0, 0, 0] := by
  have hm : Ham 2 2 exR [0, 1, 1, 0] [1, 0, 0, 0] := ham_of (by decide +kernel)
  rw [flatX, flatU, if_pos kn_vp.1, if_pos kn_vp.1]
  show (hamP 2 2 exR).1 = _ ∧ (hamP 2 2 exR).2 = _
  rw [hm.eq]; exact ⟨rfl, rfl⟩
theorem kn_lost : lostN 2 2 exR = 2 := by rw [lostN, if_pos kn_vp.1, kn_flat.1]; decide +kernel
theorem kn_blow : blowE 2 2 exP 4 = 2 ∧ blowL 2 2 exP 4 = [] := by decide +kernel
theorem kn_blows : blowsE 2 2 exP [2, 1, 1, 1] = 0 ∧ blowsE 2 2 exP [0, 1, 1, 1] = 22 ∧ blowsE 2 2 exP [1, 1, 1] = 15 := by decide +kernel
theorem kn_burn : burnE 2 2 [0, 1, 1, 0] = 0 ∧ burnK 2 2 [0, 1, 1, 0] = [] ∧ burnE 2 2 [3, 1, 0, 1] = 0 ∧ backB 2 2 [3, 1, 0, 1] = true := by decide +kernel
theorem kn_neut : neutE 1 1 = 0 ∧ neutL 1 1 = [0] ∧ neutE 7 1 = 3 := by
  have h1 : Ham 1 1 (sixL 1) [2] [1] := ham_of (by decide +kernel)
  have h2 : Ham 1 1 (lessL 1 [2] 1) [0] [1] := ham_of (by decide +kernel)
  refine ⟨by decide +kernel, ?_, by decide +kernel⟩
  rw [neutL, if_pos (by decide +kernel)]
  show neutF 1 1 = _
  have hd : neutD 1 1 = lessL 1 [2] 1 := by
    show lessL 1 (hamP 1 1 (sixL 1)).1 1 = _
    rw [h1.eq]
  rw [neutF, hd, h2.eq]
def knC : List Int := [4, 15, 56, 209]
theorem kn_cnt (k : Nat) (hk : k < 4) : cntE 1 ((k : Int) + 1) = 0 ∧ cntV 1 ((k : Int) + 1) = nth knC k := by
  have h0 : cntE 1 ((k : Int) + 1) = 0 := by
    have : k = 0 ∨ k = 1 ∨ k = 2 ∨ k = 3 := by omega
    rcases this with rfl | rfl | rfl | rfl <;> decide +kernel
  refine ⟨h0, ?_⟩
  rw [cntV, if_pos h0]
  have : k = 0 ∨ k = 1 ∨ k = 2 ∨ k = 3 := by omega
  rcases this with rfl | rfl | rfl | rfl
  · exact cntP_11
  · exact cntP_12
  · exact cntP_13
  · exact cntP_14
theorem kn_cnt2 : cntE 2 1 = 0 ∧ cntV 2 1 = 15 := by
  have h0 : cntE 2 1 = 0 := by decide +kernel
  refine ⟨h0, ?_⟩
  rw [cntV, if_pos h0]
  exact cntP_21
set_option maxRecDepth 100000 in
set_option maxHeartbeats 8000000 in
theorem Known_calls (W : World) : Calls Try.prog 17 #[] W (Gives (.bool true) W) := by
  go_enter Try.func17, Try.ntmps17
  have S : Ins W [] := Ins.nil _
  go_wp2_with fail
  obtain ⟨L1, hb⟩ : ∃ b, b = W.heap.size := ⟨_, rfl⟩
  replace S : Ins (W.alloc (.cells #[.int .i64 5, .int .i64 3, .int .i64 2, .int .i64 3] 2)) [(.slice (some ⟨L1, 0, none⟩) 4 4, exP)] := (S.later (Later.new _ _)).cons (Ints.lit _ exP 2 hb rfl rfl (by decide))
  obtain ⟨Y2, hZ⟩ : ∃ Z : Later W, Z.w = W.alloc (.cells #[.int .i64 5, .int .i64 3, .int .i64 2, .int .i64 3] 2) := ⟨Later.new _ _, rfl⟩
  rw [← hZ] at S ⊢
  clear hZ
  rw [← hb]
  clear hb
  refine (plate_calls 2 2 _ _ _ _).mono ?_
  rintro e w' ⟨rfl, y, rfl⟩
  replace S := S.later y
  obtain ⟨Y3, hZ⟩ : ∃ Z : Later W, Z.w = y.w := ⟨Y2.step (y), rfl⟩
  rw [← hZ] at S ⊢
  clear hZ
  clear y
  go_wp2_with fail
  obtain ⟨L4, hb⟩ : ∃ b, b = Y3.w.heap.size := ⟨_, rfl⟩
  replace S : Ins (Y3.w.alloc (.cells #[.int .i64 4, .int .i64 0, .int .i64 0, .int .i64 0] 2)) [(.slice (some ⟨L4, 0, none⟩) 4 4, exR), (.slice (some ⟨L1, 0, none⟩) 4 4, exP)] := (S.later (Later.new _ _)).cons (Ints.lit _ exR 2 hb rfl rfl (by decide))
  obtain ⟨Y5, hZ⟩ : ∃ Z : Later W, Z.w = Y3.w.alloc (.cells #[.int .i64 4, .int .i64 0, .int .i64 0, .int .i64 0] 2) := ⟨Y3.step (Later.new _ _), rfl⟩
  rw [← hZ] at S ⊢
  clear hZ
  rw [← hb]
  clear hb
  refine (plate_calls 2 2 _ _ _ _).mono ?_
  rintro e w' ⟨rfl, y, rfl⟩
  replace S := S.later y
  obtain ⟨Y6, hZ⟩ : ∃ Z : Later W, Z.w = y.w := ⟨Y5.step (y), rfl⟩
  rw [← hZ] at S ⊢
  clear hZ
  clear y
  go_wp2_with fail
  obtain ⟨B7, hb⟩ : ∃ b, b = Y6.w.heap.size := ⟨_, rfl⟩
  have l7 : Lin (Y6.w.alloc (.cells #[.int .i64 2, .int .i64 2, .slice (some ⟨L1, 0, none⟩) 4 4] 24)) B7 24 [.int .i64 2, .int .i64 2, .slice (some ⟨L1, 0, none⟩) 4 4] := by rw [hb]; exact Lin.new _ _ [.int .i64 2, .int .i64 2, .slice (some ⟨L1, 0, none⟩) 4 4]
  replace S := S.later (Later.new _ (.cells #[.int .i64 2, .int .i64 2, .slice (some ⟨L1, 0, none⟩) 4 4] 24))
  rw [Later.new_w] at S
  have hsz : (Y6.w.alloc (.cells #[.int .i64 2, .int .i64 2, .slice (some ⟨L1, 0, none⟩) 4 4] 24)).heap.size = B7 + 1 := by rw [hb]; simp
  obtain ⟨Y8, hZ⟩ : ∃ Z : Later W, Z.w = Y6.w.alloc (.cells #[.int .i64 2, .int .i64 2, .slice (some ⟨L1, 0, none⟩) 4 4] 24) := ⟨Y6.step (Later.new _ _), rfl⟩
  rw [← hZ] at S hsz l7 ⊢
  clear hZ
  rw [← hb]
  clear hb
  have hs2 := hsz
  rw [← hsz]
  clear hsz
  obtain ⟨B9, hb⟩ : ∃ b, b = Y8.w.heap.size := ⟨_, rfl⟩
  have l9 : Lin (Y8.w.alloc (.cells #[.int .i64 2, .int .i64 2, .slice (some ⟨L4, 0, none⟩) 4 4] 24)) B9 24 [.int .i64 2, .int .i64 2, .slice (some ⟨L4, 0, none⟩) 4 4] := by rw [hb]; exact Lin.new _ _ [.int .i64 2, .int .i64 2, .slice (some ⟨L4, 0, none⟩) 4 4]
  replace S := S.later (Later.new _ (.cells #[.int .i64 2, .int .i64 2, .slice (some ⟨L4, 0, none⟩) 4 4] 24))
  rw [Later.new_w] at S
  replace l7 := l7.later (Later.new _ (.cells #[.int .i64 2, .int .i64 2, .slice (some ⟨L4, 0, none⟩) 4 4] 24))
  rw [Later.new_w] at l7
  have hsz : (Y8.w.alloc (.cells #[.int .i64 2, .int .i64 2, .slice (some ⟨L4, 0, none⟩) 4 4] 24)).heap.size = B9 + 1 := by rw [hb]; simp
  obtain ⟨Y10, hZ⟩ : ∃ Z : Later W, Z.w = Y8.w.alloc (.cells #[.int .i64 2, .int .i64 2, .slice (some ⟨L4, 0, none⟩) 4 4] 24) := ⟨Y8.step (Later.new _ _), rfl⟩
  rw [← hZ] at S hsz l7 l9 ⊢
  clear hZ
  rw [← hb]
  clear hb
  clear hs2 hsz
  refine (Blow_calls 2 2 4 _ exP _ (S.at (v := .slice (some ⟨L1, 0, none⟩) 4 4) (xs := exP) (by simp))).mono ?_
  rintro e w' ⟨v, y, rfl, rfl, hR⟩
  rw [kn_blow.1]
  rw [kn_blow.2] at hR
  replace l7 := l7.later y
  replace l9 := l9.later y
  replace S := S.later y
  obtain ⟨a11, n11, c11, rfl⟩ : ∃ a n c, v = .slice a n c := by obtain ⟨a, c, e⟩ := hR.form; exact ⟨a, _, c, e⟩
  replace S := S.cons hR
  obtain ⟨Y12, hZ⟩ : ∃ Z : Later W, Z.w = y.w := ⟨Y10.step (y), rfl⟩
  rw [← hZ] at S l7 l9 ⊢
  clear hZ
  clear y hR
  have q0_0 := l7.cell (k := 0) rfl
  have q0_1 := l7.cell (k := 1) rfl
  have q0_2 := l7.cell (k := 2) rfl
  have q0_l := l7.lt
  have q1_0 := l9.cell (k := 0) rfl
  have q1_1 := l9.cell (k := 1) rfl
  have q1_2 := l9.cell (k := 2) rfl
  have q1_l := l9.lt
  go_wp2_with fail
  clear q0_0 q0_1 q0_2 q0_l
  clear q1_0 q1_1 q1_2 q1_l
  refine (Flatten_calls 2 2 _ exR _ (S.at (v := .slice (some ⟨L4, 0, none⟩) 4 4) (xs := exR) (by simp))).mono ?_
  rintro e w' ⟨v, u, y, rfl, rfl, hR, hU⟩
  rw [kn_vp.1]
  rw [kn_flat.1] at hR
  rw [kn_flat.2] at hU
  replace l7 := l7.later y
  replace l9 := l9.later y
  replace S := S.later y
  obtain ⟨a13, n13, c13, rfl⟩ : ∃ a n c, v = .slice a n c := by obtain ⟨a, c, e⟩ := hR.form; exact ⟨a, _, c, e⟩
  replace S := S.cons hR
  obtain ⟨a14, n14, c14, rfl⟩ : ∃ a n c, u = .slice a n c := by obtain ⟨a, c, e⟩ := hU.form; exact ⟨a, _, c, e⟩
  replace S := S.cons hU
  obtain ⟨Y15, hZ⟩ : ∃ Z : Later W, Z.w = y.w := ⟨Y12.step (y), rfl⟩
  rw [← hZ] at S l7 l9 ⊢
  clear hZ
  clear y hR hU
  have q0_0 := l7.cell (k := 0) rfl
  have q0_1 := l7.cell (k := 1) rfl
  have q0_2 := l7.cell (k := 2) rfl
  have q0_l := l7.lt
  have q1_0 := l9.cell (k := 0) rfl
  have q1_1 := l9.cell (k := 1) rfl
  have q1_2 := l9.cell (k := 2) rfl
  have q1_l := l9.lt
  go_wp2_with fail
  clear q0_0 q0_1 q0_2 q0_l
  clear q1_0 q1_1 q1_2 q1_l
  refine (Lost_calls 2 2 _ exR _ (S.at (v := .slice (some ⟨L4, 0, none⟩) 4 4) (xs := exR) (by simp))).mono ?_
  rintro e w' ⟨rfl, y, rfl⟩
  rw [kn_lost, kn_vp.1]
  replace l7 := l7.later y
  replace l9 := l9.later y
  replace S := S.later y
  obtain ⟨Y16, hZ⟩ : ∃ Z : Later W, Z.w = y.w := ⟨Y15.step (y), rfl⟩
  rw [← hZ] at S l7 l9 ⊢
  clear hZ
  clear y
  have q0_0 := l7.cell (k := 0) rfl
  have q0_1 := l7.cell (k := 1) rfl
  have q0_2 := l7.cell (k := 2) rfl
  have q0_l := l7.lt
  go_wp2
  refine Mix.region_mixL (Mix.kinds [1, 5, 9] [2, 3, 6, 7, 10, 11] []) (by kernel_rfl) (by kernel_rfl) ?_
  repeat ((with_reducible refine Mix.atCons ?_); first | refine Mix.skipU (by rfl) rfl (by rfl) ?_ | (refine Mix.val rfl rfl (by rfl) (fun K hK => ?_); go_big_quiet_op; refine hK _ ?_; clear hK K))
  refine Mix.new rfl (by rfl) (fun b => .slice (some ⟨b, 0, none⟩) 4 4) (.cells #[.int .i64 2, .int .i64 1, .int .i64 1, .int .i64 1] 2) (fun w => by simp [go_sem]) (fun N1 x1 _ hx1 => ?_)
  have hn1 : Ints x1.w (.slice (some ⟨N1, 0, none⟩) 4 4) [2, 1, 1, 1] := Ints.block (T := 2) (xs := [2, 1, 1, 1]) hx1 (by decide)
  refine Mix.loud rfl (by rfl) (fun x2 K hK => ?_)
  go_wp2_with fail
  refine (longs_calls _ _ _ _).mono ?_
  rintro e w' ⟨rfl, hw⟩
  rw [hw]
  refine hK _ (Later.self _) ?_
  clear hK K hw w'
  simp only [Later.self_w]
  refine Mix.loud rfl (by rfl) (fun x3 K hK => ?_)
  go_wp2_with fail
  refine (CheckBlows_calls 2 2 _ _ exP [2, 1, 1, 1] _ ((((S.at (v := .slice (some ⟨L1, 0, none⟩) 4 4) (xs := exP) (by simp)).later x1).later x2).later x3) ((hn1.later x2).later x3)).mono ?_
  rintro e w' ⟨rfl, y3, rfl⟩
  rw [kn_blows.1]
  refine hK _ y3 ?_
  clear hK K
  repeat ((with_reducible refine Mix.atCons ?_); first | refine Mix.skipU (by rfl) rfl (by rfl) ?_ | (refine Mix.val rfl rfl (by rfl) (fun K hK => ?_); go_big_quiet_op; refine hK _ ?_; clear hK K))
  refine Mix.new rfl (by rfl) (fun b => .slice (some ⟨b, 0, none⟩) 4 4) (.cells #[.int .i64 0, .int .i64 1, .int .i64 1, .int .i64 1] 2) (fun w => by simp [go_sem]) (fun N4 x4 _ hx4 => ?_)
  have hn4 : Ints x4.w (.slice (some ⟨N4, 0, none⟩) 4 4) [0, 1, 1, 1] := Ints.block (T := 2) (xs := [0, 1, 1, 1]) hx4 (by decide)
  refine Mix.loud rfl (by rfl) (fun x5 K hK => ?_)
  go_wp2_with fail
  refine (longs_calls _ _ _ _).mono ?_
  rintro e w' ⟨rfl, hw⟩
  rw [hw]
  refine hK _ (Later.self _) ?_
  clear hK K hw w'
  simp only [Later.self_w]
  refine Mix.loud rfl (by rfl) (fun x6 K hK => ?_)
  go_wp2_with fail
  refine (CheckBlows_calls 2 2 _ _ exP [0, 1, 1, 1] _ ((((((((S.at (v := .slice (some ⟨L1, 0, none⟩) 4 4) (xs := exP) (by simp)).later x1).later x2).later x3).later y3).later x4).later x5).later x6) ((hn4.later x5).later x6)).mono ?_
  rintro e w' ⟨rfl, y6, rfl⟩
  rw [kn_blows.2.1]
  refine hK _ y6 ?_
  clear hK K
  repeat ((with_reducible refine Mix.atCons ?_); first | refine Mix.skipU (by rfl) rfl (by rfl) ?_ | (refine Mix.val rfl rfl (by rfl) (fun K hK => ?_); go_big_quiet_op; refine hK _ ?_; clear hK K))
  refine Mix.new rfl (by rfl) (fun b => .slice (some ⟨b, 0, none⟩) 3 3) (.cells #[.int .i64 1, .int .i64 1, .int .i64 1] 2) (fun w => by simp [go_sem]) (fun N7 x7 _ hx7 => ?_)
  have hn7 : Ints x7.w (.slice (some ⟨N7, 0, none⟩) 3 3) [1, 1, 1] := Ints.block (T := 2) (xs := [1, 1, 1]) hx7 (by decide)
  refine Mix.loud rfl (by rfl) (fun x8 K hK => ?_)
  go_wp2_with fail
  refine (longs_calls _ _ _ _).mono ?_
  rintro e w' ⟨rfl, hw⟩
  rw [hw]
  refine hK _ (Later.self _) ?_
  clear hK K hw w'
  simp only [Later.self_w]
  refine Mix.loud rfl (by rfl) (fun x9 K hK => ?_)
  go_wp2_with fail
  refine (CheckBlows_calls 2 2 _ _ exP [1, 1, 1] _ ((((((((((((S.at (v := .slice (some ⟨L1, 0, none⟩) 4 4) (xs := exP) (by simp)).later x1).later x2).later x3).later y3).later x4).later x5).later x6).later y6).later x7).later x8).later x9) ((hn7.later x8).later x9)).mono ?_
  rintro e w' ⟨rfl, y9, rfl⟩
  rw [kn_blows.2.2]
  refine hK _ y9 ?_
  clear hK K
  repeat ((with_reducible refine Mix.atCons ?_); first | refine Mix.skipU (by rfl) rfl (by rfl) ?_ | (refine Mix.val rfl rfl (by rfl) (fun K hK => ?_); go_big_quiet_op; refine hK _ ?_; clear hK K))
  refine Mix.done (fun x10 => ?_)
  clear q0_0 q0_1 q0_2 q0_l
  replace l7 := (((((((((((((l7.later x1).later x2).later x3).later y3).later x4).later x5).later x6).later y6).later x7).later x8).later x9).later y9).later x10)
  replace l9 := (((((((((((((l9.later x1).later x2).later x3).later y3).later x4).later x5).later x6).later y6).later x7).later x8).later x9).later y9).later x10)
  replace S := (((((((((((((S.later x1).later x2).later x3).later y3).later x4).later x5).later x6).later y6).later x7).later x8).later x9).later y9).later x10)
  obtain ⟨Y17, hZ⟩ : ∃ Z : Later W, Z.w = x10.w := ⟨Y16.step (x1.step (x2.step (x3.step (y3.step (x4.step (x5.step (x6.step (y6.step (x7.step (x8.step (x9.step (y9.step (x10))))))))))))), rfl⟩
  rw [← hZ] at S l7 l9 ⊢
  clear hZ
  go_wp2_with fail
  obtain ⟨L18, hb⟩ : ∃ b, b = Y17.w.heap.size := ⟨_, rfl⟩
  replace S : Ins (Y17.w.alloc (.cells #[.int .i64 0, .int .i64 1, .int .i64 1, .int .i64 0] 2)) [(.slice (some ⟨L18, 0, none⟩) 4 4, [0, 1, 1, 0]), (.slice a14 n14 c14, [1, 0, 0, 0]), (.slice a13 n13 c13, [0, 1, 1, 0]), (.slice a11 n11 c11, []), (.slice (some ⟨L4, 0, none⟩) 4 4, exR), (.slice (some ⟨L1, 0, none⟩) 4 4, exP)] := (S.later (Later.new _ _)).cons (Ints.lit _ [0, 1, 1, 0] 2 hb rfl rfl (by decide))
  replace l7 := l7.later (Later.new _ (.cells #[.int .i64 0, .int .i64 1, .int .i64 1, .int .i64 0] 2))
  rw [Later.new_w] at l7
  replace l9 := l9.later (Later.new _ (.cells #[.int .i64 0, .int .i64 1, .int .i64 1, .int .i64 0] 2))
  rw [Later.new_w] at l9
  obtain ⟨Y19, hZ⟩ : ∃ Z : Later W, Z.w = Y17.w.alloc (.cells #[.int .i64 0, .int .i64 1, .int .i64 1, .int .i64 0] 2) := ⟨Y17.step (Later.new _ _), rfl⟩
  rw [← hZ] at S l7 l9 ⊢
  clear hZ
  rw [← hb]
  clear hb
  refine (plate_calls 2 2 _ _ _ _).mono ?_
  rintro e w' ⟨rfl, y, rfl⟩
  replace l7 := l7.later y
  replace l9 := l9.later y
  replace S := S.later y
  obtain ⟨Y20, hZ⟩ : ∃ Z : Later W, Z.w = y.w := ⟨Y19.step (y), rfl⟩
  rw [← hZ] at S l7 l9 ⊢
  clear hZ
  clear y
  go_wp2_with fail
  refine (Burn_calls 2 2 _ [0, 1, 1, 0] _ (S.at (v := .slice (some ⟨L18, 0, none⟩) 4 4) (xs := [0, 1, 1, 0]) (by simp))).mono ?_
  rintro e w' ⟨v, y, rfl, rfl, hR⟩
  rw [kn_burn.1]
  rw [kn_burn.2.1] at hR
  replace l7 := l7.later y
  replace l9 := l9.later y
  replace S := S.later y
  obtain ⟨a21, n21, c21, rfl⟩ : ∃ a n c, v = .slice a n c := by obtain ⟨a, c, e⟩ := hR.form; exact ⟨a, _, c, e⟩
  replace S := S.cons hR
  obtain ⟨Y22, hZ⟩ : ∃ Z : Later W, Z.w = y.w := ⟨Y20.step (y), rfl⟩
  rw [← hZ] at S l7 l9 ⊢
  clear hZ
  clear y hR
  go_wp2_with fail
  obtain ⟨L23, hb⟩ : ∃ b, b = Y22.w.heap.size := ⟨_, rfl⟩
  replace S : Ins (Y22.w.alloc (.cells #[.int .i64 3, .int .i64 1, .int .i64 0, .int .i64 1] 2)) [(.slice (some ⟨L23, 0, none⟩) 4 4, [3, 1, 0, 1]), (.slice a21 n21 c21, []), (.slice (some ⟨L18, 0, none⟩) 4 4, [0, 1, 1, 0]), (.slice a14 n14 c14, [1, 0, 0, 0]), (.slice a13 n13 c13, [0, 1, 1, 0]), (.slice a11 n11 c11, []), (.slice (some ⟨L4, 0, none⟩) 4 4, exR), (.slice (some ⟨L1, 0, none⟩) 4 4, exP)] := (S.later (Later.new _ _)).cons (Ints.lit _ [3, 1, 0, 1] 2 hb rfl rfl (by decide))
  replace l7 := l7.later (Later.new _ (.cells #[.int .i64 3, .int .i64 1, .int .i64 0, .int .i64 1] 2))
  rw [Later.new_w] at l7
  replace l9 := l9.later (Later.new _ (.cells #[.int .i64 3, .int .i64 1, .int .i64 0, .int .i64 1] 2))
  rw [Later.new_w] at l9
  obtain ⟨Y24, hZ⟩ : ∃ Z : Later W, Z.w = Y22.w.alloc (.cells #[.int .i64 3, .int .i64 1, .int .i64 0, .int .i64 1] 2) := ⟨Y22.step (Later.new _ _), rfl⟩
  rw [← hZ] at S l7 l9 ⊢
  clear hZ
  rw [← hb]
  clear hb
  refine (plate_calls 2 2 _ _ _ _).mono ?_
  rintro e w' ⟨rfl, y, rfl⟩
  replace l7 := l7.later y
  replace l9 := l9.later y
  replace S := S.later y
  obtain ⟨Y25, hZ⟩ : ∃ Z : Later W, Z.w = y.w := ⟨Y24.step (y), rfl⟩
  rw [← hZ] at S l7 l9 ⊢
  clear hZ
  clear y
  go_wp2_with fail
  refine (Back_calls 2 2 _ [3, 1, 0, 1] _ (S.at (v := .slice (some ⟨L23, 0, none⟩) 4 4) (xs := [3, 1, 0, 1]) (by simp))).mono ?_
  rintro e w' ⟨rfl, y, rfl⟩
  rw [kn_burn.2.2.1, kn_burn.2.2.2]
  replace l7 := l7.later y
  replace l9 := l9.later y
  replace S := S.later y
  obtain ⟨Y26, hZ⟩ : ∃ Z : Later W, Z.w = y.w := ⟨Y25.step (y), rfl⟩
  rw [← hZ] at S l7 l9 ⊢
  clear hZ
  clear y
  go_wp2_with fail
  refine (Neutral_calls 1 1 _).mono ?_
  rintro e w' ⟨v, y, rfl, rfl, hR⟩
  rw [kn_neut.1]
  rw [kn_neut.2.1] at hR
  replace l7 := l7.later y
  replace l9 := l9.later y
  replace S := S.later y
  obtain ⟨a27, n27, c27, rfl⟩ : ∃ a n c, v = .slice a n c := by obtain ⟨a, c, e⟩ := hR.form; exact ⟨a, _, c, e⟩
  replace S := S.cons hR
  obtain ⟨Y28, hZ⟩ : ∃ Z : Later W, Z.w = y.w := ⟨Y26.step (y), rfl⟩
  rw [← hZ] at S l7 l9 ⊢
  clear hZ
  clear y hR
  go_wp2_with fail
  refine (Neutral_calls 7 1 _).mono ?_
  rintro e w' ⟨v, y, rfl, rfl, hR⟩
  rw [kn_neut.2.2]
  replace l7 := l7.later y
  replace l9 := l9.later y
  replace S := S.later y
  obtain ⟨a29, n29, c29, rfl⟩ : ∃ a n c, v = .slice a n c := by obtain ⟨a, c, e⟩ := hR.form; exact ⟨a, _, c, e⟩
  replace S := S.cons hR
  obtain ⟨Y30, hZ⟩ : ∃ Z : Later W, Z.w = y.w := ⟨Y28.step (y), rfl⟩
  rw [← hZ] at S l7 l9 ⊢
  clear hZ
  clear y hR
  have hln : n21 = 0 := by obtain ⟨a, c, e⟩ := (S.at (v := .slice a21 n21 c21) (xs := []) (by simp)).form; cases e; rfl
  go_wp2
  go_loopw [21, 22] (fun cs i wr => ∃ (k : Nat) (V : Later Y30.w) (a : Option Addr) (n c : Nat), wr = V.w ∧ k ≤ 4 ∧ i = .int .i64 ((k : Int) + 1) ∧ cs = .slice a n c ∧ IntsN Y30.w.heap.size V.w (.slice a n c) (knC.take k)) (fun _ i _ => 5 - (intOf i).toNat)
  case atStart => exact ⟨0, Later.self _, none, 0, 0, rfl, Nat.zero_le _, rfl, rfl, IntsN.nil _ _⟩
  case round =>
    obtain ⟨k, V, a, n, c, rfl, hk, rfl, rfl, hS⟩ := hrel
    by_cases hlt : k < 4
    · have hkc := Lib.hid (kn_cnt k hlt)
      go_wp2_with fail
      refine (Count_calls 1 _ _).mono ?_
      rintro e w' ⟨rfl, y, rfl⟩
      rw [hkc.out.1, hkc.out.2]
      obtain ⟨v3, q, hrun, hS3, _⟩ := app_int_stepN (V.step y).le (hS.later y) (nth knC k) (by rw [List.length_take]; omega) 22
      rw [take_snoc (show k < knC.length from hlt)] at hS3
      obtain ⟨a3, n3, c3, rfl⟩ := hS3.form'
      simp only [Later.step_w] at hrun
      have HR := Lib.hid hrun
      clear hrun hS
      go_wp2_with (at_builtin; (with_reducible show wpList _ _ _ (⟨some 93, _, _, _, _, _⟩ :: _) _ _); refine Lib.wpList_append_run_sl _ rfl _ _ 22 rfl _ _ rfl rfl HR.out ?_)
      go_roundw
      case rel => exact ⟨k + 1, q, _, _, _, rfl, by omega, by push_cast; rfl, rfl, hS3⟩
      case measure => simp [intOf]; omega
    · 
      have hC := (hS.ints (by rw [List.length_take]; omega))
      have hk4 : k = 4 := by omega
      subst hk4
      rw [show knC.take 4 = [4, 15, 56, 209] from rfl] at hC
      clear hS
      replace l7 := l7.later V
      replace l9 := l9.later V
      replace S := (S.later V).cons hC
      obtain ⟨Y31, hZ⟩ : ∃ Z : Later W, Z.w = V.w := ⟨Y30.step (V), rfl⟩
      rw [← hZ] at S l7 l9 ⊢
      clear hZ
      go_wp2_with fail
      refine (Count_calls 2 1 _).mono ?_
      rintro e w' ⟨rfl, y, rfl⟩
      rw [kn_cnt2.1, kn_cnt2.2]
      replace l7 := l7.later y
      replace l9 := l9.later y
      replace S := S.later y
      obtain ⟨Y32, hZ⟩ : ∃ Z : Later W, Z.w = y.w := ⟨Y31.step (y), rfl⟩
      rw [← hZ] at S l7 l9 ⊢
      clear hZ
      clear y
      go_wp2_with fail
      obtain ⟨L33, hb⟩ : ∃ b, b = Y32.w.heap.size := ⟨_, rfl⟩
      replace S : Ins (Y32.w.alloc (.cells #[.int .i64 0, .int .i64 1, .int .i64 1, .int .i64 0] 2)) [(.slice (some ⟨L33, 0, none⟩) 4 4, [0, 1, 1, 0]), (.slice a n c, [4, 15, 56, 209]), (.slice a29 n29 c29, (neutL 7 1)), (.slice a27 n27 c27, [0]), (.slice (some ⟨L23, 0, none⟩) 4 4, [3, 1, 0, 1]), (.slice a21 n21 c21, []), (.slice (some ⟨L18, 0, none⟩) 4 4, [0, 1, 1, 0]), (.slice a14 n14 c14, [1, 0, 0, 0]), (.slice a13 n13 c13, [0, 1, 1, 0]), (.slice a11 n11 c11, []), (.slice (some ⟨L4, 0, none⟩) 4 4, exR), (.slice (some ⟨L1, 0, none⟩) 4 4, exP)] := (S.later (Later.new _ _)).cons (Ints.lit _ [0, 1, 1, 0] 2 hb rfl rfl (by decide))
      replace l7 := l7.later (Later.new _ (.cells #[.int .i64 0, .int .i64 1, .int .i64 1, .int .i64 0] 2))
      rw [Later.new_w] at l7
      replace l9 := l9.later (Later.new _ (.cells #[.int .i64 0, .int .i64 1, .int .i64 1, .int .i64 0] 2))
      rw [Later.new_w] at l9
      obtain ⟨Y34, hZ⟩ : ∃ Z : Later W, Z.w = Y32.w.alloc (.cells #[.int .i64 0, .int .i64 1, .int .i64 1, .int .i64 0] 2) := ⟨Y32.step (Later.new _ _), rfl⟩
      rw [← hZ] at S l7 l9 ⊢
      clear hZ
      rw [← hb]
      clear hb
      refine (longs_calls _ _ _ _).mono ?_
      rintro e w' ⟨rfl, hw⟩
      rw [hw]
      clear hw w'
      go_wp2_with fail
      refine (Longs_calls _ _ [0, 1, 1, 0] [0, 1, 1, 0] _ (S.at (v := .slice a13 n13 c13) (xs := [0, 1, 1, 0]) (by simp)) (S.at (v := .slice (some ⟨L33, 0, none⟩) 4 4) (xs := [0, 1, 1, 0]) (by simp))).mono ?_
      rintro e w' ⟨rfl, y, rfl⟩
      rw [eqI_self]
      replace l7 := l7.later y
      replace l9 := l9.later y
      replace S := S.later y
      obtain ⟨Y35, hZ⟩ : ∃ Z : Later W, Z.w = y.w := ⟨Y34.step (y), rfl⟩
      rw [← hZ] at S l7 l9 ⊢
      clear hZ
      clear y
      go_wp2_with fail
      obtain ⟨L36, hb⟩ : ∃ b, b = Y35.w.heap.size := ⟨_, rfl⟩
      replace S : Ins (Y35.w.alloc (.cells #[.int .i64 1, .int .i64 0, .int .i64 0, .int .i64 0] 2)) [(.slice (some ⟨L36, 0, none⟩) 4 4, [1, 0, 0, 0]), (.slice (some ⟨L33, 0, none⟩) 4 4, [0, 1, 1, 0]), (.slice a n c, [4, 15, 56, 209]), (.slice a29 n29 c29, (neutL 7 1)), (.slice a27 n27 c27, [0]), (.slice (some ⟨L23, 0, none⟩) 4 4, [3, 1, 0, 1]), (.slice a21 n21 c21, []), (.slice (some ⟨L18, 0, none⟩) 4 4, [0, 1, 1, 0]), (.slice a14 n14 c14, [1, 0, 0, 0]), (.slice a13 n13 c13, [0, 1, 1, 0]), (.slice a11 n11 c11, []), (.slice (some ⟨L4, 0, none⟩) 4 4, exR), (.slice (some ⟨L1, 0, none⟩) 4 4, exP)] := (S.later (Later.new _ _)).cons (Ints.lit _ [1, 0, 0, 0] 2 hb rfl rfl (by decide))
      replace l7 := l7.later (Later.new _ (.cells #[.int .i64 1, .int .i64 0, .int .i64 0, .int .i64 0] 2))
      rw [Later.new_w] at l7
      replace l9 := l9.later (Later.new _ (.cells #[.int .i64 1, .int .i64 0, .int .i64 0, .int .i64 0] 2))
      rw [Later.new_w] at l9
      obtain ⟨Y37, hZ⟩ : ∃ Z : Later W, Z.w = Y35.w.alloc (.cells #[.int .i64 1, .int .i64 0, .int .i64 0, .int .i64 0] 2) := ⟨Y35.step (Later.new _ _), rfl⟩
      rw [← hZ] at S l7 l9 ⊢
      clear hZ
      rw [← hb]
      clear hb
      refine (longs_calls _ _ _ _).mono ?_
      rintro e w' ⟨rfl, hw⟩
      rw [hw]
      clear hw w'
      go_wp2_with fail
      refine (Longs_calls _ _ [1, 0, 0, 0] [1, 0, 0, 0] _ (S.at (v := .slice a14 n14 c14) (xs := [1, 0, 0, 0]) (by simp)) (S.at (v := .slice (some ⟨L36, 0, none⟩) 4 4) (xs := [1, 0, 0, 0]) (by simp))).mono ?_
      rintro e w' ⟨rfl, y, rfl⟩
      rw [eqI_self]
      replace l7 := l7.later y
      replace l9 := l9.later y
      replace S := S.later y
      obtain ⟨Y38, hZ⟩ : ∃ Z : Later W, Z.w = y.w := ⟨Y37.step (y), rfl⟩
      rw [← hZ] at S l7 l9 ⊢
      clear hZ
      clear y
      go_wp2_with fail
      obtain ⟨L39, hb⟩ : ∃ b, b = Y38.w.heap.size := ⟨_, rfl⟩
      replace S : Ins (Y38.w.alloc (.cells #[.int .i64 0] 2)) [(.slice (some ⟨L39, 0, none⟩) 1 1, [0]), (.slice (some ⟨L36, 0, none⟩) 4 4, [1, 0, 0, 0]), (.slice (some ⟨L33, 0, none⟩) 4 4, [0, 1, 1, 0]), (.slice a n c, [4, 15, 56, 209]), (.slice a29 n29 c29, (neutL 7 1)), (.slice a27 n27 c27, [0]), (.slice (some ⟨L23, 0, none⟩) 4 4, [3, 1, 0, 1]), (.slice a21 n21 c21, []), (.slice (some ⟨L18, 0, none⟩) 4 4, [0, 1, 1, 0]), (.slice a14 n14 c14, [1, 0, 0, 0]), (.slice a13 n13 c13, [0, 1, 1, 0]), (.slice a11 n11 c11, []), (.slice (some ⟨L4, 0, none⟩) 4 4, exR), (.slice (some ⟨L1, 0, none⟩) 4 4, exP)] := (S.later (Later.new _ _)).cons (Ints.lit _ [0] 2 hb rfl rfl (by decide))
      replace l7 := l7.later (Later.new _ (.cells #[.int .i64 0] 2))
      rw [Later.new_w] at l7
      replace l9 := l9.later (Later.new _ (.cells #[.int .i64 0] 2))
      rw [Later.new_w] at l9
      obtain ⟨Y40, hZ⟩ : ∃ Z : Later W, Z.w = Y38.w.alloc (.cells #[.int .i64 0] 2) := ⟨Y38.step (Later.new _ _), rfl⟩
      rw [← hZ] at S l7 l9 ⊢
      clear hZ
      rw [← hb]
      clear hb
      refine (longs_calls _ _ _ _).mono ?_
      rintro e w' ⟨rfl, hw⟩
      rw [hw]
      clear hw w'
      go_wp2_with fail
      refine (Longs_calls _ _ [0] [0] _ (S.at (v := .slice a27 n27 c27) (xs := [0]) (by simp)) (S.at (v := .slice (some ⟨L39, 0, none⟩) 1 1) (xs := [0]) (by simp))).mono ?_
      rintro e w' ⟨rfl, y, rfl⟩
      rw [eqI_self]
      replace l7 := l7.later y
      replace l9 := l9.later y
      replace S := S.later y
      obtain ⟨Y41, hZ⟩ : ∃ Z : Later W, Z.w = y.w := ⟨Y40.step (y), rfl⟩
      rw [← hZ] at S l7 l9 ⊢
      clear hZ
      clear y
      go_wp2_with fail
      obtain ⟨L42, hb⟩ : ∃ b, b = Y41.w.heap.size := ⟨_, rfl⟩
      replace S : Ins (Y41.w.alloc (.cells #[.int .i64 4, .int .i64 15, .int .i64 56, .int .i64 209] 2)) [(.slice (some ⟨L42, 0, none⟩) 4 4, [4, 15, 56, 209]), (.slice (some ⟨L39, 0, none⟩) 1 1, [0]), (.slice (some ⟨L36, 0, none⟩) 4 4, [1, 0, 0, 0]), (.slice (some ⟨L33, 0, none⟩) 4 4, [0, 1, 1, 0]), (.slice a n c, [4, 15, 56, 209]), (.slice a29 n29 c29, (neutL 7 1)), (.slice a27 n27 c27, [0]), (.slice (some ⟨L23, 0, none⟩) 4 4, [3, 1, 0, 1]), (.slice a21 n21 c21, []), (.slice (some ⟨L18, 0, none⟩) 4 4, [0, 1, 1, 0]), (.slice a14 n14 c14, [1, 0, 0, 0]), (.slice a13 n13 c13, [0, 1, 1, 0]), (.slice a11 n11 c11, []), (.slice (some ⟨L4, 0, none⟩) 4 4, exR), (.slice (some ⟨L1, 0, none⟩) 4 4, exP)] := (S.later (Later.new _ _)).cons (Ints.lit _ [4, 15, 56, 209] 2 hb rfl rfl (by decide))
      replace l7 := l7.later (Later.new _ (.cells #[.int .i64 4, .int .i64 15, .int .i64 56, .int .i64 209] 2))
      rw [Later.new_w] at l7
      replace l9 := l9.later (Later.new _ (.cells #[.int .i64 4, .int .i64 15, .int .i64 56, .int .i64 209] 2))
      rw [Later.new_w] at l9
      obtain ⟨Y43, hZ⟩ : ∃ Z : Later W, Z.w = Y41.w.alloc (.cells #[.int .i64 4, .int .i64 15, .int .i64 56, .int .i64 209] 2) := ⟨Y41.step (Later.new _ _), rfl⟩
      rw [← hZ] at S l7 l9 ⊢
      clear hZ
      rw [← hb]
      clear hb
      refine (longs_calls _ _ _ _).mono ?_
      rintro e w' ⟨rfl, hw⟩
      rw [hw]
      clear hw w'
      go_wp2_with fail
      refine (Longs_calls _ _ [4, 15, 56, 209] [4, 15, 56, 209] _ (S.at (v := .slice a n c) (xs := [4, 15, 56, 209]) (by simp)) (S.at (v := .slice (some ⟨L42, 0, none⟩) 4 4) (xs := [4, 15, 56, 209]) (by simp))).mono ?_
      rintro e w' ⟨rfl, y, rfl⟩
      rw [eqI_self]
      replace l7 := l7.later y
      replace l9 := l9.later y
      replace S := S.later y
      obtain ⟨Y44, hZ⟩ : ∃ Z : Later W, Z.w = y.w := ⟨Y43.step (y), rfl⟩
      rw [← hZ] at S l7 l9 ⊢
      clear hZ
      clear y
      go_wp2_with fail
      refine (Works_calls _).mono ?_
      rintro e w' ⟨rfl, y, rfl⟩
      go_wp2
      go_ret
      exact ⟨rfl, Y44.step y, rfl⟩

end Go.Proofs.Ytbjmfhlkmklmmaa
