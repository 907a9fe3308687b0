import Derived.Test.YtbjmfhlkmklmmaaWkP
/-  MendPlates, MendFlats. -/
namespace Go.Proofs.Ytbjmfhlkmklmmaa
open Go.RowKit
set_option maxRecDepth 100000 in
set_option maxHeartbeats 8000000 in
theorem Plates_calls (w h p : Int) (dv bv : Value) (d bl : List Int) (W : World) (hd : Ints W dv d) (hb : Ints W bv bl) :
    Calls Try.prog 3 #[.agg #[.int .i64 w, .int .i64 h, dv], .int .i64 p, bv] W (Gives (.bool true) W) := by
  have S : Ins W [] := Ins.nil _
  obtain ⟨a1, n1, c1, rfl⟩ : ∃ a n c, dv = .slice a n c := by obtain ⟨a, c, e⟩ := hd.form; exact ⟨a, _, c, e⟩
  have S := S.cons hd
  obtain ⟨a2, n2, c2, rfl⟩ : ∃ a n c, bv = .slice a n c := by obtain ⟨a, c, e⟩ := hb.form; exact ⟨a, _, c, e⟩
  have S := S.cons hb
  have hn2 : n2 = bl.length := by obtain ⟨a, c, e⟩ := hb.form; cases e; rfl
  have HN2 := Lib.hid hn2
  clear hn2
  go_enter Try.func3, Try.ntmps3
  go_wp2_with fail
  obtain ⟨B1, hb⟩ : ∃ b, b = W.heap.size := ⟨_, rfl⟩
  have l1 : Lin (W.alloc (.cells #[.int .i64 w, .int .i64 h, .slice a1 n1 c1] 24)) B1 24 [.int .i64 w, .int .i64 h, .slice a1 n1 c1] := by rw [hb]; exact Lin.new _ _ [.int .i64 w, .int .i64 h, .slice a1 n1 c1]
  replace S := S.later (Later.new _ (.cells #[.int .i64 w, .int .i64 h, .slice a1 n1 c1] 24))
  rw [Later.new_w] at S
  have hsz : (W.alloc (.cells #[.int .i64 w, .int .i64 h, .slice a1 n1 c1] 24)).heap.size = B1 + 1 := by rw [hb]; simp
  obtain ⟨Y2, hZ⟩ : ∃ Z : Later W, Z.w = W.alloc (.cells #[.int .i64 w, .int .i64 h, .slice a1 n1 c1] 24) := ⟨Later.new _ _, rfl⟩
  rw [← hZ] at S hsz l1 ⊢
  clear hZ
  rw [← hb]
  clear hb
  clear hsz
  refine (great_calls w h _ d _ (S.at (v := .slice a1 n1 c1) (xs := d) (by simp))).mono ?_
  rintro e w' ⟨rfl, y, rfl⟩
  replace l1 := l1.later y
  replace S := S.later y
  obtain ⟨Y3, hZ⟩ : ∃ Z : Later W, Z.w = y.w := ⟨Y2.step (y), rfl⟩
  rw [← hZ] at S l1 ⊢
  clear hZ
  clear y
  cases hg : greatB d
  · by_cases h50 : 50 < n2
    · have q0_0 := l1.cell (k := 0) rfl
      have q0_1 := l1.cell (k := 1) rfl
      have q0_2 := l1.cell (k := 2) rfl
      have q0_l := l1.lt
      go_wp2_with fail
      clear q0_0 q0_1 q0_2 q0_l
      refine (Works_calls _).mono ?_
      rintro e w' ⟨rfl, y, rfl⟩
      go_wp2
      go_ret
      exact ⟨rfl, Y3.step y, rfl⟩
    · have q0_0 := l1.cell (k := 0) rfl
      have q0_1 := l1.cell (k := 1) rfl
      have q0_2 := l1.cell (k := 2) rfl
      have q0_l := l1.lt
      go_wp2_with fail
      clear q0_0 q0_1 q0_2 q0_l
      refine (Blow_calls w h p _ d _ (S.at (v := .slice a1 n1 c1) (xs := d) (by simp))).mono ?_
      rintro e w' ⟨v, y, rfl, rfl, hR⟩
      replace l1 := l1.later y
      replace S := S.later y
      obtain ⟨a4, n4, c4, rfl⟩ : ∃ a n c, v = .slice a n c := by obtain ⟨a, c, e⟩ := hR.form; exact ⟨a, _, c, e⟩
      replace S := S.cons hR
      obtain ⟨Y5, hZ⟩ : ∃ Z : Later W, Z.w = y.w := ⟨Y3.step (y), rfl⟩
      rw [← hZ] at S l1 ⊢
      clear hZ
      clear y hR
      have q0_0 := l1.cell (k := 0) rfl
      have q0_1 := l1.cell (k := 1) rfl
      have q0_2 := l1.cell (k := 2) rfl
      have q0_l := l1.lt
      go_wp2_with fail
      clear q0_0 q0_1 q0_2 q0_l
      refine (refBlow_calls w h p _ d _ (S.at (v := .slice a1 n1 c1) (xs := d) (by simp))).mono ?_
      rintro e w' ⟨v, y, rfl, rfl, hR⟩
      replace l1 := l1.later y
      replace S := S.later y
      obtain ⟨a6, n6, c6, rfl⟩ : ∃ a n c, v = .slice a n c := by obtain ⟨a, c, e⟩ := hR.form; exact ⟨a, _, c, e⟩
      replace S := S.cons hR
      obtain ⟨Y7, hZ⟩ : ∃ Z : Later W, Z.w = y.w := ⟨Y5.step (y), rfl⟩
      rw [← hZ] at S l1 ⊢
      clear hZ
      clear y hR
      obtain ⟨E1, hE1⟩ : ∃ E, blowE w h d p = E := ⟨_, rfl⟩
      obtain ⟨E2, hE2⟩ : ∃ E, vplate w h d = E := ⟨_, rfl⟩
      obtain ⟨E3, hE3⟩ : ∃ E, blowsE w h d bl = E := ⟨_, rfl⟩
      rw [hE1]
      have q0_0 := l1.cell (k := 0) rfl
      have q0_1 := l1.cell (k := 1) rfl
      have q0_2 := l1.cell (k := 2) rfl
      have q0_l := l1.lt
      go_wp2
      refine Mix.region_mixL (Mix.kinds [] [1, 3, 8, 18, 21, 25] []) (by kernel_rfl) (by kernel_rfl) ?_
      repeat ((with_reducible refine Mix.atCons ?_); first | refine Mix.skipU (by rfl) rfl (by rfl) ?_ | (refine Mix.val rfl rfl (by rfl) (fun K hK => ?_); go_big_quiet_op; refine hK _ ?_; clear hK K))
      refine Mix.loud rfl (by rfl) (fun x1 K hK => ?_)
      go_wp2_with fail
      refine (CheckPlate_calls w h _ d _ ((S.at (v := .slice a1 n1 c1) (xs := d) (by simp)).later x1)).mono ?_
      rintro e w' ⟨rfl, y1, rfl⟩
      rw [hE2]
      refine hK _ y1 ?_
      clear hK K
      repeat ((with_reducible refine Mix.atCons ?_); first | refine Mix.skipU (by rfl) rfl (by rfl) ?_ | (refine Mix.val rfl rfl (by rfl) (fun K hK => ?_); go_big_quiet_op; refine hK _ ?_; clear hK K))
      refine Mix.loud rfl (by rfl) (fun x2 K hK => ?_)
      go_wp2_with fail
      refine (refCheckPlate_calls w h _ d _ ((((S.at (v := .slice a1 n1 c1) (xs := d) (by simp)).later x1).later y1).later x2)).mono ?_
      rintro e w' ⟨rfl, y2, rfl⟩
      rw [hE2]
      refine hK _ y2 ?_
      clear hK K
      repeat ((with_reducible refine Mix.atCons ?_); first | refine Mix.skipU (by rfl) rfl (by rfl) ?_ | (refine Mix.val rfl rfl (by rfl) (fun K hK => ?_); go_big_quiet_op; refine hK _ ?_; clear hK K))
      refine Mix.loud rfl (by rfl) (fun x3 K hK => ?_)
      go_wp2_with fail
      refine (Longs_calls _ _ _ _ _ ((((((S.at (v := .slice a4 n4 c4) (xs := (blowL w h d p)) (by simp)).later x1).later y1).later x2).later y2).later x3) ((((((S.at (v := .slice a6 n6 c6) (xs := (blowL w h d p)) (by simp)).later x1).later y1).later x2).later y2).later x3)).mono ?_
      rintro e w' ⟨rfl, y3, rfl⟩
      rw [eqI_self]
      refine hK _ y3 ?_
      clear hK K
      repeat ((with_reducible refine Mix.atCons ?_); first | refine Mix.skipU (by rfl) rfl (by rfl) ?_ | (refine Mix.val rfl rfl (by rfl) (fun K hK => ?_); go_big_quiet_op; refine hK _ ?_; clear hK K))
      refine Mix.loud rfl (by rfl) (fun x4 K hK => ?_)
      go_wp2_with fail
      refine (CheckBlows_calls w h _ _ d bl _ ((((((((S.at (v := .slice a1 n1 c1) (xs := d) (by simp)).later x1).later y1).later x2).later y2).later x3).later y3).later x4) ((((((((S.at (v := .slice a2 n2 c2) (xs := bl) (by simp)).later x1).later y1).later x2).later y2).later x3).later y3).later x4)).mono ?_
      rintro e w' ⟨rfl, y4, rfl⟩
      rw [hE3]
      refine hK _ y4 ?_
      clear hK K
      repeat ((with_reducible refine Mix.atCons ?_); first | refine Mix.skipU (by rfl) rfl (by rfl) ?_ | (refine Mix.val rfl rfl (by rfl) (fun K hK => ?_); go_big_quiet_op; refine hK _ ?_; clear hK K))
      refine Mix.loud rfl (by rfl) (fun x5 K hK => ?_)
      go_wp2_with fail
      refine (refCheckBlows_calls w h _ _ d bl _ ((((((((((S.at (v := .slice a1 n1 c1) (xs := d) (by simp)).later x1).later y1).later x2).later y2).later x3).later y3).later x4).later y4).later x5) ((((((((((S.at (v := .slice a2 n2 c2) (xs := bl) (by simp)).later x1).later y1).later x2).later y2).later x3).later y3).later x4).later y4).later x5)).mono ?_
      rintro e w' ⟨rfl, y5, rfl⟩
      rw [hE3]
      refine hK _ y5 ?_
      clear hK K
      repeat ((with_reducible refine Mix.atCons ?_); first | refine Mix.skipU (by rfl) rfl (by rfl) ?_ | (refine Mix.val rfl rfl (by rfl) (fun K hK => ?_); go_big_quiet_op; refine hK _ ?_; clear hK K))
      refine Mix.loud rfl (by rfl) (fun x6 K hK => ?_)
      go_wp2_with fail
      refine (Works_calls _).mono ?_
      rintro e w' ⟨rfl, y6, rfl⟩
      refine hK _ y6 ?_
      clear hK K
      repeat ((with_reducible refine Mix.atCons ?_); first | refine Mix.skipU (by rfl) rfl (by rfl) ?_ | (refine Mix.val rfl rfl (by rfl) (fun K hK => ?_); go_big_quiet_op; refine hK _ ?_; clear hK K))
      refine Mix.done (fun x7 => ?_)
      clear q0_0 q0_1 q0_2 q0_l
      replace l1 := (((((((((((((l1.later x1).later y1).later x2).later y2).later x3).later y3).later x4).later y4).later x5).later y5).later x6).later y6).later x7)
      replace S := (((((((((((((S.later x1).later y1).later x2).later y2).later x3).later y3).later x4).later y4).later x5).later y5).later x6).later y6).later x7)
      obtain ⟨Y8, hZ⟩ : ∃ Z : Later W, Z.w = x7.w := ⟨Y7.step (x1.step (y1.step (x2.step (y2.step (x3.step (y3.step (x4.step (y4.step (x5.step (y5.step (x6.step (y6.step (x7))))))))))))), rfl⟩
      rw [← hZ] at S l1 ⊢
      clear hZ
      go_wp2
      go_ret
      exact ⟨rfl, Y8, rfl⟩
  · have q0_0 := l1.cell (k := 0) rfl
    have q0_1 := l1.cell (k := 1) rfl
    have q0_2 := l1.cell (k := 2) rfl
    have q0_l := l1.lt
    go_wp2_with fail
    clear q0_0 q0_1 q0_2 q0_l
    refine (Works_calls _).mono ?_
    rintro e w' ⟨rfl, y, rfl⟩
    go_wp2
    go_ret
    exact ⟨rfl, Y3.step y, rfl⟩
end Go.Proofs.Ytbjmfhlkmklmmaa
