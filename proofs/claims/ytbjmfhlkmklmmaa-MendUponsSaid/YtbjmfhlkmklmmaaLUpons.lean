import Derived.Test.YtbjmfhlkmklmmaaWkP
/-  MendUpons. -/
namespace Go.Proofs.Ytbjmfhlkmklmmaa
open Go.RowKit
set_option maxRecDepth 100000 in
set_option maxHeartbeats 8000000 in
theorem Upons_calls (w h w2 h2 wi hi : Int) (dv qv : Value) (d q : List Int) (W : World) (hd : Ints W dv d) (hq : Ints W qv q) :
    Calls Try.prog 6 #[.agg #[.int .i64 w, .int .i64 h, dv], .agg #[.int .i64 w2, .int .i64 h2, qv], .int .i64 wi, .int .i64 hi] W (Gives (.bool true) W) := by
  have S : Ins W [] := Ins.nil _
  obtain ⟨a1, n1, c1, rfl⟩ : ∃ a n c, dv = .slice a n c := by obtain ⟨a, c, e⟩ := hd.form; exact ⟨a, _, c, e⟩
  have S := S.cons hd
  obtain ⟨a2, n2, c2, rfl⟩ : ∃ a n c, qv = .slice a n c := by obtain ⟨a, c, e⟩ := hq.form; exact ⟨a, _, c, e⟩
  have S := S.cons hq
  go_enter Try.func6, Try.ntmps6
  go_wp2_with fail
  obtain ⟨B1, hb⟩ : ∃ b, b = W.heap.size := ⟨_, rfl⟩
  have l1 : Lin (W.alloc (.cells #[.int .i64 w, .int .i64 h, .slice a1 n1 c1] 24)) B1 24 [.int .i64 w, .int .i64 h, .slice a1 n1 c1] := by rw [hb]; exact Lin.new _ _ [.int .i64 w, .int .i64 h, .slice a1 n1 c1]
  replace S := S.later (Later.new _ (.cells #[.int .i64 w, .int .i64 h, .slice a1 n1 c1] 24))
  rw [Later.new_w] at S
  have hsz : (W.alloc (.cells #[.int .i64 w, .int .i64 h, .slice a1 n1 c1] 24)).heap.size = B1 + 1 := by rw [hb]; simp
  obtain ⟨Y2, hZ⟩ : ∃ Z : Later W, Z.w = W.alloc (.cells #[.int .i64 w, .int .i64 h, .slice a1 n1 c1] 24) := ⟨Later.new _ _, rfl⟩
  rw [← hZ] at S hsz l1 ⊢
  clear hZ
  rw [← hb]
  clear hb
  have hs2 := hsz
  rw [← hsz]
  clear hsz
  obtain ⟨B3, hb⟩ : ∃ b, b = Y2.w.heap.size := ⟨_, rfl⟩
  have l3 : Lin (Y2.w.alloc (.cells #[.int .i64 w2, .int .i64 h2, .slice a2 n2 c2] 24)) B3 24 [.int .i64 w2, .int .i64 h2, .slice a2 n2 c2] := by rw [hb]; exact Lin.new _ _ [.int .i64 w2, .int .i64 h2, .slice a2 n2 c2]
  replace S := S.later (Later.new _ (.cells #[.int .i64 w2, .int .i64 h2, .slice a2 n2 c2] 24))
  rw [Later.new_w] at S
  replace l1 := l1.later (Later.new _ (.cells #[.int .i64 w2, .int .i64 h2, .slice a2 n2 c2] 24))
  rw [Later.new_w] at l1
  have hsz : (Y2.w.alloc (.cells #[.int .i64 w2, .int .i64 h2, .slice a2 n2 c2] 24)).heap.size = B3 + 1 := by rw [hb]; simp
  obtain ⟨Y4, hZ⟩ : ∃ Z : Later W, Z.w = Y2.w.alloc (.cells #[.int .i64 w2, .int .i64 h2, .slice a2 n2 c2] 24) := ⟨Y2.step (Later.new _ _), rfl⟩
  rw [← hZ] at S hsz l1 l3 ⊢
  clear hZ
  rw [← hb]
  clear hb
  clear hs2 hsz
  refine (great_calls w h _ d _ (S.at (v := .slice a1 n1 c1) (xs := d) (by simp))).mono ?_
  rintro e w' ⟨rfl, y, rfl⟩
  replace l1 := l1.later y
  replace l3 := l3.later y
  replace S := S.later y
  obtain ⟨Y5, hZ⟩ : ∃ Z : Later W, Z.w = y.w := ⟨Y4.step (y), rfl⟩
  rw [← hZ] at S l1 l3 ⊢
  clear hZ
  clear y
  cases hg : greatB d
  · have q0_0 := l1.cell (k := 0) rfl
    have q0_1 := l1.cell (k := 1) rfl
    have q0_2 := l1.cell (k := 2) rfl
    have q0_l := l1.lt
    have q1_0 := l3.cell (k := 0) rfl
    have q1_1 := l3.cell (k := 1) rfl
    have q1_2 := l3.cell (k := 2) rfl
    have q1_l := l3.lt
    go_wp2_with fail
    clear q0_0 q0_1 q0_2 q0_l
    clear q1_0 q1_1 q1_2 q1_l
    refine (great_calls w2 h2 _ q _ (S.at (v := .slice a2 n2 c2) (xs := q) (by simp))).mono ?_
    rintro e w' ⟨rfl, y, rfl⟩
    replace l1 := l1.later y
    replace l3 := l3.later y
    replace S := S.later y
    obtain ⟨Y6, hZ⟩ : ∃ Z : Later W, Z.w = y.w := ⟨Y5.step (y), rfl⟩
    rw [← hZ] at S l1 l3 ⊢
    clear hZ
    clear y
    cases hg2 : greatB q
    · have q0_0 := l1.cell (k := 0) rfl
      have q0_1 := l1.cell (k := 1) rfl
      have q0_2 := l1.cell (k := 2) rfl
      have q0_l := l1.lt
      have q1_0 := l3.cell (k := 0) rfl
      have q1_1 := l3.cell (k := 1) rfl
      have q1_2 := l3.cell (k := 2) rfl
      have q1_l := l3.lt
      go_wp2_with fail
      clear q0_0 q0_1 q0_2 q0_l
      clear q1_0 q1_1 q1_2 q1_l
      refine (Upon_calls w h w2 h2 _ _ d q _ (S.at (v := .slice a1 n1 c1) (xs := d) (by simp)) (S.at (v := .slice a2 n2 c2) (xs := q) (by simp))).mono ?_
      rintro e w' ⟨v, y, rfl, rfl, hR⟩
      replace l1 := l1.later y
      replace l3 := l3.later y
      replace S := S.later y
      obtain ⟨a7, n7, c7, rfl⟩ : ∃ a n c, v = .slice a n c := by obtain ⟨a, c, e⟩ := hR.form; exact ⟨a, _, c, e⟩
      replace S := S.cons hR
      obtain ⟨Y8, hZ⟩ : ∃ Z : Later W, Z.w = y.w := ⟨Y6.step (y), rfl⟩
      rw [← hZ] at S l1 l3 ⊢
      clear hZ
      clear y hR
      have q0_0 := l1.cell (k := 0) rfl
      have q0_1 := l1.cell (k := 1) rfl
      have q0_2 := l1.cell (k := 2) rfl
      have q0_l := l1.lt
      have q1_0 := l3.cell (k := 0) rfl
      have q1_1 := l3.cell (k := 1) rfl
      have q1_2 := l3.cell (k := 2) rfl
      have q1_l := l3.lt
      go_wp2_with fail
      clear q0_0 q0_1 q0_2 q0_l
      clear q1_0 q1_1 q1_2 q1_l
      refine (refUpon_calls w h w2 h2 _ _ d q _ (S.at (v := .slice a1 n1 c1) (xs := d) (by simp)) (S.at (v := .slice a2 n2 c2) (xs := q) (by simp))).mono ?_
      rintro e w' ⟨v, y, rfl, rfl, hR⟩
      replace l1 := l1.later y
      replace l3 := l3.later y
      replace S := S.later y
      obtain ⟨a9, n9, c9, rfl⟩ : ∃ a n c, v = .slice a n c := by obtain ⟨a, c, e⟩ := hR.form; exact ⟨a, _, c, e⟩
      replace S := S.cons hR
      obtain ⟨Y10, hZ⟩ : ∃ Z : Later W, Z.w = y.w := ⟨Y8.step (y), rfl⟩
      rw [← hZ] at S l1 l3 ⊢
      clear hZ
      clear y hR
      obtain ⟨E1, hE1⟩ : ∃ E, uponE w h d w2 h2 q = E := ⟨_, rfl⟩
      rw [hE1]
      go_wp2_with fail
      refine (Neutral_calls wi hi _).mono ?_
      rintro e w' ⟨v, y, rfl, rfl, hR⟩
      replace l1 := l1.later y
      replace l3 := l3.later y
      replace S := S.later y
      obtain ⟨a11, n11, c11, rfl⟩ : ∃ a n c, v = .slice a n c := by obtain ⟨a, c, e⟩ := hR.form; exact ⟨a, _, c, e⟩
      replace S := S.cons hR
      obtain ⟨Y12, hZ⟩ : ∃ Z : Later W, Z.w = y.w := ⟨Y10.step (y), rfl⟩
      rw [← hZ] at S l1 l3 ⊢
      clear hZ
      clear y hR
      go_wp2_with fail
      refine (refNeutral_calls wi hi _).mono ?_
      rintro e w' ⟨v, y, rfl, rfl, hR⟩
      replace l1 := l1.later y
      replace l3 := l3.later y
      replace S := S.later y
      obtain ⟨a13, n13, c13, rfl⟩ : ∃ a n c, v = .slice a n c := by obtain ⟨a, c, e⟩ := hR.form; exact ⟨a, _, c, e⟩
      replace S := S.cons hR
      obtain ⟨Y14, hZ⟩ : ∃ Z : Later W, Z.w = y.w := ⟨Y12.step (y), rfl⟩
      rw [← hZ] at S l1 l3 ⊢
      clear hZ
      clear y hR
      obtain ⟨E2, hE2⟩ : ∃ E, neutE wi hi = E := ⟨_, rfl⟩
      obtain ⟨E3, hE3⟩ : ∃ E, cntE wi hi = E := ⟨_, rfl⟩
      obtain ⟨E4, hE4⟩ : ∃ E, cntV wi hi = E := ⟨_, rfl⟩
      rw [hE2]
      go_wp2_with fail
      refine (Count_calls wi hi _).mono ?_
      rintro e w' ⟨rfl, y, rfl⟩
      rw [hE3, hE4]
      replace l1 := l1.later y
      replace l3 := l3.later y
      replace S := S.later y
      obtain ⟨Y15, hZ⟩ : ∃ Z : Later W, Z.w = y.w := ⟨Y14.step (y), rfl⟩
      rw [← hZ] at S l1 l3 ⊢
      clear hZ
      clear y
      go_wp2_with fail
      refine (refCountA_calls cnt_table wi hi _).mono ?_
      rintro e w' ⟨rfl, y, rfl⟩
      rw [hE3, hE4]
      replace l1 := l1.later y
      replace l3 := l3.later y
      replace S := S.later y
      obtain ⟨Y16, hZ⟩ : ∃ Z : Later W, Z.w = y.w := ⟨Y15.step (y), rfl⟩
      rw [← hZ] at S l1 l3 ⊢
      clear hZ
      clear y
      go_wp2_with fail
      refine (Longs_calls _ _ _ _ _ (S.at (v := .slice a7 n7 c7) (xs := (uponL w h d w2 h2 q)) (by simp)) (S.at (v := .slice a9 n9 c9) (xs := (uponL w h d w2 h2 q)) (by simp))).mono ?_
      rintro e w' ⟨rfl, y, rfl⟩
      rw [eqI_self]
      replace l1 := l1.later y
      replace l3 := l3.later y
      replace S := S.later y
      obtain ⟨Y17, hZ⟩ : ∃ Z : Later W, Z.w = y.w := ⟨Y16.step (y), rfl⟩
      rw [← hZ] at S l1 l3 ⊢
      clear hZ
      clear y
      go_wp2_with fail
      refine (Longs_calls _ _ _ _ _ (S.at (v := .slice a11 n11 c11) (xs := (neutL wi hi)) (by simp)) (S.at (v := .slice a13 n13 c13) (xs := (neutL wi hi)) (by simp))).mono ?_
      rintro e w' ⟨rfl, y, rfl⟩
      rw [eqI_self]
      replace l1 := l1.later y
      replace l3 := l3.later y
      replace S := S.later y
      obtain ⟨Y18, hZ⟩ : ∃ Z : Later W, Z.w = y.w := ⟨Y17.step (y), rfl⟩
      rw [← hZ] at S l1 l3 ⊢
      clear hZ
      clear y
      go_wp2_with fail
      refine (Works_calls _).mono ?_
      rintro e w' ⟨rfl, y, rfl⟩
      go_wp2
      go_ret
      exact ⟨rfl, Y18.step y, rfl⟩
    · have q0_0 := l1.cell (k := 0) rfl
      have q0_1 := l1.cell (k := 1) rfl
      have q0_2 := l1.cell (k := 2) rfl
      have q0_l := l1.lt
      have q1_0 := l3.cell (k := 0) rfl
      have q1_1 := l3.cell (k := 1) rfl
      have q1_2 := l3.cell (k := 2) rfl
      have q1_l := l3.lt
      go_wp2_with fail
      clear q0_0 q0_1 q0_2 q0_l
      clear q1_0 q1_1 q1_2 q1_l
      refine (Works_calls _).mono ?_
      rintro e w' ⟨rfl, y, rfl⟩
      go_wp2
      go_ret
      exact ⟨rfl, Y6.step y, rfl⟩
  · have q0_0 := l1.cell (k := 0) rfl
    have q0_1 := l1.cell (k := 1) rfl
    have q0_2 := l1.cell (k := 2) rfl
    have q0_l := l1.lt
    have q1_0 := l3.cell (k := 0) rfl
    have q1_1 := l3.cell (k := 1) rfl
    have q1_2 := l3.cell (k := 2) rfl
    have q1_l := l3.lt
    go_wp2_with fail
    clear q0_0 q0_1 q0_2 q0_l
    clear q1_0 q1_1 q1_2 q1_l
    refine (Works_calls _).mono ?_
    rintro e w' ⟨rfl, y, rfl⟩
    go_wp2
    go_ret
    exact ⟨rfl, Y5.step y, rfl⟩
end Go.Proofs.Ytbjmfhlkmklmmaa
