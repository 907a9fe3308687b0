import Derived.Test.YtdhdpbnlhnodjaaKWk
/-  The statements over whatever sheet: the brightest names. -/
namespace Go.Proofs.Ytdhdpbnlhnodjaa
open Go.RowKit
set_option maxRecDepth 100000 in
set_option maxHeartbeats 8000000 in
theorem NameBrights_calls (n : Int) (mv cv : Value) (one : Int) (ms : List (Int × Int)) (cs : List Int) (W : World) (hs : Sht W mv cv ms cs) :
    Calls Try.prog 7 #[.agg #[.int .i64 n, mv, cv], .int .i64 one] W (Gives (.bool true) W) := by
  have S : Ins W [] := Ins.nil _
  obtain ⟨am, lm, cm, rfl⟩ : ∃ a n c, mv = .slice a n c := by obtain ⟨a, c, e⟩ := hs.m.form; exact ⟨a, _, c, e⟩
  obtain ⟨ac, lc, cc, rfl⟩ : ∃ a n c, cv = .slice a n c := by obtain ⟨a, c, e⟩ := hs.c.form; exact ⟨a, _, c, e⟩
  obtain ⟨G, hG⟩ : ∃ G, greatB ms cs = G := ⟨_, rfl⟩
  have HG := Lib.hid hG
  clear hG
  cases G
  rotate_left
  · go_enter Try.func7, Try.ntmps7
    go_wp2_with fail
    obtain ⟨B1, hb⟩ : ∃ b, b = W.heap.size := ⟨_, rfl⟩
    have l1 : Lin (W.alloc (.cells #[.int .i64 n, .slice am lm cm, .slice ac lc cc] 25)) B1 25 [.int .i64 n, .slice am lm cm, .slice ac lc cc] := by rw [hb]; exact Lin.new _ _ [.int .i64 n, .slice am lm cm, .slice ac lc cc]
    replace S := S.later (Later.new _ (.cells #[.int .i64 n, .slice am lm cm, .slice ac lc cc] 25))
    rw [Later.new_w] at S
    replace hs := hs.later (Later.new _ (.cells #[.int .i64 n, .slice am lm cm, .slice ac lc cc] 25))
    rw [Later.new_w] at hs
    have hsz : (W.alloc (.cells #[.int .i64 n, .slice am lm cm, .slice ac lc cc] 25)).heap.size = B1 + 1 := by rw [hb]; simp
    obtain ⟨Y2, hZ⟩ : ∃ Z : Later W, Z.w = W.alloc (.cells #[.int .i64 n, .slice am lm cm, .slice ac lc cc] 25) := ⟨Later.new _ _, rfl⟩
    rw [← hZ] at S hsz hs l1 ⊢
    clear hZ
    rw [← hb]
    clear hb
    clear hsz
    refine (great_calls n _ _ ms cs _ hs).mono ?_
    rintro e w' ⟨rfl, y, rfl⟩
    rw [HG.out]
    replace hs := hs.later y
    replace l1 := l1.later y
    replace S := S.later y
    obtain ⟨Y3, hZ⟩ : ∃ Z : Later W, Z.w = y.w := ⟨Y2.step (y), rfl⟩
    rw [← hZ] at S hs l1 ⊢
    clear hZ
    clear y
    go_wp2_with fail
    refine (Works_calls _).mono ?_
    rintro e w' ⟨rfl, y, rfl⟩
    go_wp2
    go_ret
    exact ⟨rfl, Y3.step (y), rfl⟩
  obtain ⟨G, hG⟩ : ∃ G, wideB n ms cs = G := ⟨_, rfl⟩
  have HV := Lib.hid hG
  clear hG
  cases G
  rotate_left
  · go_enter Try.func7, Try.ntmps7
    go_wp2_with fail
    obtain ⟨B1, hb⟩ : ∃ b, b = W.heap.size := ⟨_, rfl⟩
    have l1 : Lin (W.alloc (.cells #[.int .i64 n, .slice am lm cm, .slice ac lc cc] 25)) B1 25 [.int .i64 n, .slice am lm cm, .slice ac lc cc] := by rw [hb]; exact Lin.new _ _ [.int .i64 n, .slice am lm cm, .slice ac lc cc]
    replace S := S.later (Later.new _ (.cells #[.int .i64 n, .slice am lm cm, .slice ac lc cc] 25))
    rw [Later.new_w] at S
    replace hs := hs.later (Later.new _ (.cells #[.int .i64 n, .slice am lm cm, .slice ac lc cc] 25))
    rw [Later.new_w] at hs
    have hsz : (W.alloc (.cells #[.int .i64 n, .slice am lm cm, .slice ac lc cc] 25)).heap.size = B1 + 1 := by rw [hb]; simp
    obtain ⟨Y2, hZ⟩ : ∃ Z : Later W, Z.w = W.alloc (.cells #[.int .i64 n, .slice am lm cm, .slice ac lc cc] 25) := ⟨Later.new _ _, rfl⟩
    rw [← hZ] at S hsz hs l1 ⊢
    clear hZ
    rw [← hb]
    clear hb
    clear hsz
    refine (great_calls n _ _ ms cs _ hs).mono ?_
    rintro e w' ⟨rfl, y, rfl⟩
    rw [HG.out]
    replace hs := hs.later y
    replace l1 := l1.later y
    replace S := S.later y
    obtain ⟨Y3, hZ⟩ : ∃ Z : Later W, Z.w = y.w := ⟨Y2.step (y), rfl⟩
    rw [← hZ] at S hs l1 ⊢
    clear hZ
    clear y
    have q0_0 := l1.cell (k := 0) rfl
    have q0_1 := l1.cell (k := 1) rfl
    have q0_2 := l1.cell (k := 2) rfl
    have q0_l := l1.lt
    go_wp2_with fail
    clear q0_0 q0_1 q0_2 q0_l
    refine (wide_calls n _ _ ms cs _ hs).mono ?_
    rintro e w' ⟨rfl, y, rfl⟩
    rw [HV.out]
    replace hs := hs.later y
    replace l1 := l1.later y
    replace S := S.later y
    obtain ⟨Y4, hZ⟩ : ∃ Z : Later W, Z.w = y.w := ⟨Y3.step (y), rfl⟩
    rw [← hZ] at S hs l1 ⊢
    clear hZ
    clear y
    go_wp2_with fail
    refine (Works_calls _).mono ?_
    rintro e w' ⟨rfl, y, rfl⟩
    go_wp2
    go_ret
    exact ⟨rfl, Y4.step (y), rfl⟩
  go_enter Try.func7, Try.ntmps7
  go_wp2_with fail
  obtain ⟨B1, hb⟩ : ∃ b, b = W.heap.size := ⟨_, rfl⟩
  have l1 : Lin (W.alloc (.cells #[.int .i64 n, .slice am lm cm, .slice ac lc cc] 25)) B1 25 [.int .i64 n, .slice am lm cm, .slice ac lc cc] := by rw [hb]; exact Lin.new _ _ [.int .i64 n, .slice am lm cm, .slice ac lc cc]
  replace S := S.later (Later.new _ (.cells #[.int .i64 n, .slice am lm cm, .slice ac lc cc] 25))
  rw [Later.new_w] at S
  replace hs := hs.later (Later.new _ (.cells #[.int .i64 n, .slice am lm cm, .slice ac lc cc] 25))
  rw [Later.new_w] at hs
  have hsz : (W.alloc (.cells #[.int .i64 n, .slice am lm cm, .slice ac lc cc] 25)).heap.size = B1 + 1 := by rw [hb]; simp
  obtain ⟨Y2, hZ⟩ : ∃ Z : Later W, Z.w = W.alloc (.cells #[.int .i64 n, .slice am lm cm, .slice ac lc cc] 25) := ⟨Later.new _ _, rfl⟩
  rw [← hZ] at S hsz hs l1 ⊢
  clear hZ
  rw [← hb]
  clear hb
  clear hsz
  refine (great_calls n _ _ ms cs _ hs).mono ?_
  rintro e w' ⟨rfl, y, rfl⟩
  rw [HG.out]
  replace hs := hs.later y
  replace l1 := l1.later y
  replace S := S.later y
  obtain ⟨Y3, hZ⟩ : ∃ Z : Later W, Z.w = y.w := ⟨Y2.step (y), rfl⟩
  rw [← hZ] at S hs l1 ⊢
  clear hZ
  clear y
  have q0_0 := l1.cell (k := 0) rfl
  have q0_1 := l1.cell (k := 1) rfl
  have q0_2 := l1.cell (k := 2) rfl
  have q0_l := l1.lt
  go_wp2_with fail
  clear q0_0 q0_1 q0_2 q0_l
  refine (wide_calls n _ _ ms cs _ hs).mono ?_
  rintro e w' ⟨rfl, y, rfl⟩
  rw [HV.out]
  replace hs := hs.later y
  replace l1 := l1.later y
  replace S := S.later y
  obtain ⟨Y4, hZ⟩ : ∃ Z : Later W, Z.w = y.w := ⟨Y3.step (y), rfl⟩
  rw [← hZ] at S hs l1 ⊢
  clear hZ
  clear y
  have q0_0 := l1.cell (k := 0) rfl
  have q0_1 := l1.cell (k := 1) rfl
  have q0_2 := l1.cell (k := 2) rfl
  have q0_l := l1.lt
  go_wp2_with fail
  clear q0_0 q0_1 q0_2 q0_l
  refine (Brightest_any n _ _ ms cs _ hs).mono ?_
  rintro e w' ⟨v, y, rfl, rfl, hR⟩
  replace hs := hs.later y
  replace l1 := l1.later y
  replace S := S.later y
  obtain ⟨a5, n5, c5, rfl⟩ : ∃ a n c, v = .slice a n c := by obtain ⟨a, c, e⟩ := hR.form; exact ⟨a, _, c, e⟩
  replace S := S.cons hR
  obtain ⟨Y6, hZ⟩ : ∃ Z : Later W, Z.w = y.w := ⟨Y4.step (y), rfl⟩
  rw [← hZ] at S hs l1 ⊢
  clear hZ
  clear y hR
  have q0_0 := l1.cell (k := 0) rfl
  have q0_1 := l1.cell (k := 1) rfl
  have q0_2 := l1.cell (k := 2) rfl
  have q0_l := l1.lt
  go_wp2_with fail
  clear q0_0 q0_1 q0_2 q0_l
  refine (refBrightest_any n _ _ ms cs _ hs).mono ?_
  rintro e w' ⟨v, y, rfl, rfl, hR⟩
  replace hs := hs.later y
  replace l1 := l1.later y
  replace S := S.later y
  obtain ⟨a7, n7, c7, rfl⟩ : ∃ a n c, v = .slice a n c := by obtain ⟨a, c, e⟩ := hR.form; exact ⟨a, _, c, e⟩
  replace S := S.cons hR
  obtain ⟨Y8, hZ⟩ : ∃ Z : Later W, Z.w = y.w := ⟨Y6.step (y), rfl⟩
  rw [← hZ] at S hs l1 ⊢
  clear hZ
  clear y hR
  have q0_0 := l1.cell (k := 0) rfl
  have q0_1 := l1.cell (k := 1) rfl
  have q0_2 := l1.cell (k := 2) rfl
  have q0_l := l1.lt
  go_wp2_with fail
  clear q0_0 q0_1 q0_2 q0_l
  refine (Most_any n _ _ ms cs _ hs).mono ?_
  rintro e w' ⟨rfl, y, rfl⟩
  replace hs := hs.later y
  replace l1 := l1.later y
  replace S := S.later y
  obtain ⟨Y9, hZ⟩ : ∃ Z : Later W, Z.w = y.w := ⟨Y8.step (y), rfl⟩
  rw [← hZ] at S hs l1 ⊢
  clear hZ
  clear y
  have q0_0 := l1.cell (k := 0) rfl
  have q0_1 := l1.cell (k := 1) rfl
  have q0_2 := l1.cell (k := 2) rfl
  have q0_l := l1.lt
  go_wp2_with fail
  clear q0_0 q0_1 q0_2 q0_l
  refine (refMost_any n _ _ ms cs _ hs).mono ?_
  rintro e w' ⟨rfl, y, rfl⟩
  replace hs := hs.later y
  replace l1 := l1.later y
  replace S := S.later y
  obtain ⟨Y10, hZ⟩ : ∃ Z : Later W, Z.w = y.w := ⟨Y9.step (y), rfl⟩
  rw [← hZ] at S hs l1 ⊢
  clear hZ
  clear y
  obtain ⟨E, hE⟩ : ∃ E, whyEI n ms cs one = E := ⟨_, rfl⟩
  have HE := Lib.hid hE
  clear hE
  have q0_0 := l1.cell (k := 0) rfl
  have q0_1 := l1.cell (k := 1) rfl
  have q0_2 := l1.cell (k := 2) rfl
  have q0_l := l1.lt
  go_wp2_with fail
  clear q0_0 q0_1 q0_2 q0_l
  refine (Why_any n _ _ ms cs _ hs one).mono ?_
  rintro e w' ⟨v, y, lq, rfl, rfl, hR, hC, hD⟩
  rw [HE.out] at hC hD ⊢
  have HC := Lib.hid hC
  have HD := Lib.hid hD
  clear hC hD
  replace hs := hs.later y
  replace l1 := l1.later y
  replace S := S.later y
  obtain ⟨a11, n11, c11, rfl⟩ : ∃ a n c, v = .slice a n c := by obtain ⟨a, c, e⟩ := hR.form; exact ⟨a, _, c, e⟩
  replace S := S.cons hR
  obtain ⟨Y12, hZ⟩ : ∃ Z : Later W, Z.w = y.w := ⟨Y10.step (y), rfl⟩
  rw [← hZ] at S hs l1 ⊢
  clear hZ
  clear y hR
  have q0_0 := l1.cell (k := 0) rfl
  have q0_1 := l1.cell (k := 1) rfl
  have q0_2 := l1.cell (k := 2) rfl
  have q0_l := l1.lt
  go_wp2_with fail
  clear q0_0 q0_1 q0_2 q0_l
  refine (WhyError_any n _ _ ms cs _ hs one).mono ?_
  rintro e w' ⟨v, y, rfl, rfl, hR⟩
  rw [HE.out]
  replace hs := hs.later y
  replace l1 := l1.later y
  replace S := S.later y
  obtain ⟨a13, n13, c13, rfl⟩ : ∃ a n c, v = .slice a n c := by obtain ⟨a, c, e⟩ := hR.form; exact ⟨a, _, c, e⟩
  replace S := S.cons hR
  obtain ⟨Y14, hZ⟩ : ∃ Z : Later W, Z.w = y.w := ⟨Y12.step (y), rfl⟩
  rw [← hZ] at S hs l1 ⊢
  clear hZ
  clear y hR
  go_wp2_with fail
  refine (IntsEq_calls _ _ (brtVI n ms cs) (brtVI n ms cs) _ (S.at (v := .slice a5 n5 c5) (xs := (brtVI n ms cs)) (by simp)) (S.at (v := .slice a7 n7 c7) (xs := (brtVI n ms cs)) (by simp))).mono ?_
  rintro e w' ⟨rfl, y, rfl⟩
  rw [eqI_self]
  replace hs := hs.later y
  replace l1 := l1.later y
  replace S := S.later y
  obtain ⟨Y15, hZ⟩ : ∃ Z : Later W, Z.w = y.w := ⟨Y14.step (y), rfl⟩
  rw [← hZ] at S hs l1 ⊢
  clear hZ
  clear y
  by_cases h0 : E = 0
  rotate_left
  · have hb : (E != 0) = true := by simpa using h0
    have HL := Lib.hid (HD.out h0)
    clear h0
    have hlen : n11 = 0 := by have := (S.at (v := .slice a11 n11 c11) (xs := lq) (by simp)).form; rw [HL.out] at this; obtain ⟨a, c, e⟩ := this; cases e; rfl
    go_wp2_with fail
    refine (Works_calls _).mono ?_
    rintro e w' ⟨rfl, y, rfl⟩
    go_wp2
    go_ret
    exact ⟨rfl, Y15.step y, rfl⟩
  subst h0
  have HK := Lib.hid (HC.out rfl).1
  have q0_0 := l1.cell (k := 0) rfl
  have q0_1 := l1.cell (k := 1) rfl
  have q0_2 := l1.cell (k := 2) rfl
  have q0_l := l1.lt
  go_wp2_with fail
  clear q0_0 q0_1 q0_2 q0_l
  refine (refCheckChain_any n _ _ _ ms cs (whyVI n ms cs one) _ hs (S.at (v := .slice a13 n13 c13) (xs := (whyVI n ms cs one)) (by simp)) _ lq (S.at (v := .slice a11 n11 c11) (xs := lq) (by simp))).mono ?_
  rintro e w' ⟨rfl, y, rfl⟩
  rw [HK.out]
  replace hs := hs.later y
  replace l1 := l1.later y
  replace S := S.later y
  obtain ⟨Y16, hZ⟩ : ∃ Z : Later W, Z.w = y.w := ⟨Y15.step (y), rfl⟩
  rw [← hZ] at S hs l1 ⊢
  clear hZ
  clear y
  go_wp2_with fail
  refine (Works_calls _).mono ?_
  rintro e w' ⟨rfl, y, rfl⟩
  replace hs := hs.later y
  replace l1 := l1.later y
  replace S := S.later y
  obtain ⟨Y17, hZ⟩ : ∃ Z : Later W, Z.w = y.w := ⟨Y16.step (y), rfl⟩
  rw [← hZ] at S hs l1 ⊢
  clear hZ
  clear y
  go_wp2
  go_ret
  exact ⟨rfl, Y17, rfl⟩
end Go.Proofs.Ytdhdpbnlhnodjaa
