import Derived.Test.YtdhdpbnlhnodjaaKWk
/-  The statements over whatever sheet: chains. -/
namespace Go.Proofs.Ytdhdpbnlhnodjaa
open Go.RowKit
set_option maxRecDepth 100000 in
set_option maxHeartbeats 8000000 in
theorem NameChains_calls (n : Int) (mv cv xsv chv : Value) (ms : List (Int × Int)) (cs xs ch : List Int) (W : World) (hs : Sht W mv cv ms cs) (hxs : Ints W xsv xs) (hch : Ints W chv ch) :
    Calls Try.prog 6 #[.agg #[.int .i64 n, mv, cv], xsv, chv] W (Gives (.bool true) W) := by
  have S : Ins W [] := Ins.nil _
  obtain ⟨am, lm, cm, rfl⟩ : ∃ a n c, mv = .slice a n c := by obtain ⟨a, c, e⟩ := hs.m.form; exact ⟨a, _, c, e⟩
  obtain ⟨ac, lc, cc, rfl⟩ : ∃ a n c, cv = .slice a n c := by obtain ⟨a, c, e⟩ := hs.c.form; exact ⟨a, _, c, e⟩
  obtain ⟨a1, n1, c1, rfl⟩ : ∃ a n c, xsv = .slice a n c := by obtain ⟨a, c, e⟩ := hxs.form; exact ⟨a, _, c, e⟩
  have HN1 := Lib.hid (show n1 = xs.length by obtain ⟨a, c, e⟩ := hxs.form; cases e; rfl)
  have S := S.cons hxs
  clear hxs
  obtain ⟨a2, n2, c2, rfl⟩ : ∃ a n c, chv = .slice a n c := by obtain ⟨a, c, e⟩ := hch.form; exact ⟨a, _, c, e⟩
  have HN2 := Lib.hid (show n2 = ch.length by obtain ⟨a, c, e⟩ := hch.form; cases e; rfl)
  have S := S.cons hch
  clear hch
  obtain ⟨G, hG⟩ : ∃ G, greatB ms cs = G := ⟨_, rfl⟩
  have HG := Lib.hid hG
  clear hG
  cases G
  rotate_left
  · go_enter Try.func6, Try.ntmps6
    go_wp2_with fail
    obtain ⟨B1, hb⟩ : ∃ b, b = W.heap.size := ⟨_, rfl⟩
    have l1 : Lin (W.alloc (.cells #[.int .i64 n, .slice am lm cm, .slice ac lc cc] 25)) B1 25 [.int .i64 n, .slice am lm cm, .slice ac lc cc] := by rw [hb]; exact Lin.new _ _ [.int .i64 n, .slice am lm cm, .slice ac lc cc]
    replace S := S.later (Later.new _ (.cells #[.int .i64 n, .slice am lm cm, .slice ac lc cc] 25))
    rw [Later.new_w] at S
    replace hs := hs.later (Later.new _ (.cells #[.int .i64 n, .slice am lm cm, .slice ac lc cc] 25))
    rw [Later.new_w] at hs
    have hsz : (W.alloc (.cells #[.int .i64 n, .slice am lm cm, .slice ac lc cc] 25)).heap.size = B1 + 1 := by rw [hb]; simp
    obtain ⟨Y2, hZ⟩ : ∃ Z : Later W, Z.w = W.alloc (.cells #[.int .i64 n, .slice am lm cm, .slice ac lc cc] 25) := ⟨Later.new _ _, rfl⟩
    rw [← hZ] at S hsz hs l1 ⊢
    clear hZ
    rw [← hb]
    clear hb
    clear hsz
    refine (great_calls n _ _ ms cs _ hs).mono ?_
    rintro e w' ⟨rfl, y, rfl⟩
    rw [HG.out]
    replace hs := hs.later y
    replace l1 := l1.later y
    replace S := S.later y
    obtain ⟨Y3, hZ⟩ : ∃ Z : Later W, Z.w = y.w := ⟨Y2.step (y), rfl⟩
    rw [← hZ] at S hs l1 ⊢
    clear hZ
    clear y
    go_wp2_with fail
    refine (Works_calls _).mono ?_
    rintro e w' ⟨rfl, y, rfl⟩
    go_wp2
    go_ret
    exact ⟨rfl, Y3.step (y), rfl⟩
  by_cases hg0 : 20 < n1
  · have d0 : decide ((20 : Int) < n1) = true := decide_eq_true (by omega)
    clear hg0
    go_enter Try.func6, Try.ntmps6
    go_wp2_with fail
    obtain ⟨B1, hb⟩ : ∃ b, b = W.heap.size := ⟨_, rfl⟩
    have l1 : Lin (W.alloc (.cells #[.int .i64 n, .slice am lm cm, .slice ac lc cc] 25)) B1 25 [.int .i64 n, .slice am lm cm, .slice ac lc cc] := by rw [hb]; exact Lin.new _ _ [.int .i64 n, .slice am lm cm, .slice ac lc cc]
    replace S := S.later (Later.new _ (.cells #[.int .i64 n, .slice am lm cm, .slice ac lc cc] 25))
    rw [Later.new_w] at S
    replace hs := hs.later (Later.new _ (.cells #[.int .i64 n, .slice am lm cm, .slice ac lc cc] 25))
    rw [Later.new_w] at hs
    have hsz : (W.alloc (.cells #[.int .i64 n, .slice am lm cm, .slice ac lc cc] 25)).heap.size = B1 + 1 := by rw [hb]; simp
    obtain ⟨Y2, hZ⟩ : ∃ Z : Later W, Z.w = W.alloc (.cells #[.int .i64 n, .slice am lm cm, .slice ac lc cc] 25) := ⟨Later.new _ _, rfl⟩
    rw [← hZ] at S hsz hs l1 ⊢
    clear hZ
    rw [← hb]
    clear hb
    clear hsz
    refine (great_calls n _ _ ms cs _ hs).mono ?_
    rintro e w' ⟨rfl, y, rfl⟩
    rw [HG.out]
    replace hs := hs.later y
    replace l1 := l1.later y
    replace S := S.later y
    obtain ⟨Y3, hZ⟩ : ∃ Z : Later W, Z.w = y.w := ⟨Y2.step (y), rfl⟩
    rw [← hZ] at S hs l1 ⊢
    clear hZ
    clear y
    go_wp2_with fail
    refine (Works_calls _).mono ?_
    rintro e w' ⟨rfl, y, rfl⟩
    go_wp2
    go_ret
    exact ⟨rfl, Y3.step (y), rfl⟩
  have d0 : decide ((20 : Int) < n1) = false := decide_eq_false (by omega)
  have HG0 := Lib.hid hg0
  clear hg0
  by_cases hg1 : 60 < n2
  · have d1 : decide ((60 : Int) < n2) = true := decide_eq_true (by omega)
    clear hg1
    go_enter Try.func6, Try.ntmps6
    go_wp2_with fail
    obtain ⟨B1, hb⟩ : ∃ b, b = W.heap.size := ⟨_, rfl⟩
    have l1 : Lin (W.alloc (.cells #[.int .i64 n, .slice am lm cm, .slice ac lc cc] 25)) B1 25 [.int .i64 n, .slice am lm cm, .slice ac lc cc] := by rw [hb]; exact Lin.new _ _ [.int .i64 n, .slice am lm cm, .slice ac lc cc]
    replace S := S.later (Later.new _ (.cells #[.int .i64 n, .slice am lm cm, .slice ac lc cc] 25))
    rw [Later.new_w] at S
    replace hs := hs.later (Later.new _ (.cells #[.int .i64 n, .slice am lm cm, .slice ac lc cc] 25))
    rw [Later.new_w] at hs
    have hsz : (W.alloc (.cells #[.int .i64 n, .slice am lm cm, .slice ac lc cc] 25)).heap.size = B1 + 1 := by rw [hb]; simp
    obtain ⟨Y2, hZ⟩ : ∃ Z : Later W, Z.w = W.alloc (.cells #[.int .i64 n, .slice am lm cm, .slice ac lc cc] 25) := ⟨Later.new _ _, rfl⟩
    rw [← hZ] at S hsz hs l1 ⊢
    clear hZ
    rw [← hb]
    clear hb
    clear hsz
    refine (great_calls n _ _ ms cs _ hs).mono ?_
    rintro e w' ⟨rfl, y, rfl⟩
    rw [HG.out]
    replace hs := hs.later y
    replace l1 := l1.later y
    replace S := S.later y
    obtain ⟨Y3, hZ⟩ : ∃ Z : Later W, Z.w = y.w := ⟨Y2.step (y), rfl⟩
    rw [← hZ] at S hs l1 ⊢
    clear hZ
    clear y
    go_wp2_with fail
    refine (Works_calls _).mono ?_
    rintro e w' ⟨rfl, y, rfl⟩
    go_wp2
    go_ret
    exact ⟨rfl, Y3.step (y), rfl⟩
  have d1 : decide ((60 : Int) < n2) = false := decide_eq_false (by omega)
  have HG1 := Lib.hid hg1
  clear hg1
  go_enter Try.func6, Try.ntmps6
  go_wp2_with fail
  obtain ⟨B1, hb⟩ : ∃ b, b = W.heap.size := ⟨_, rfl⟩
  have l1 : Lin (W.alloc (.cells #[.int .i64 n, .slice am lm cm, .slice ac lc cc] 25)) B1 25 [.int .i64 n, .slice am lm cm, .slice ac lc cc] := by rw [hb]; exact Lin.new _ _ [.int .i64 n, .slice am lm cm, .slice ac lc cc]
  replace S := S.later (Later.new _ (.cells #[.int .i64 n, .slice am lm cm, .slice ac lc cc] 25))
  rw [Later.new_w] at S
  replace hs := hs.later (Later.new _ (.cells #[.int .i64 n, .slice am lm cm, .slice ac lc cc] 25))
  rw [Later.new_w] at hs
  have hsz : (W.alloc (.cells #[.int .i64 n, .slice am lm cm, .slice ac lc cc] 25)).heap.size = B1 + 1 := by rw [hb]; simp
  obtain ⟨Y2, hZ⟩ : ∃ Z : Later W, Z.w = W.alloc (.cells #[.int .i64 n, .slice am lm cm, .slice ac lc cc] 25) := ⟨Later.new _ _, rfl⟩
  rw [← hZ] at S hsz hs l1 ⊢
  clear hZ
  rw [← hb]
  clear hb
  clear hsz
  refine (great_calls n _ _ ms cs _ hs).mono ?_
  rintro e w' ⟨rfl, y, rfl⟩
  rw [HG.out]
  replace hs := hs.later y
  replace l1 := l1.later y
  replace S := S.later y
  obtain ⟨Y3, hZ⟩ : ∃ Z : Later W, Z.w = y.w := ⟨Y2.step (y), rfl⟩
  rw [← hZ] at S hs l1 ⊢
  clear hZ
  clear y
  obtain ⟨E, hE⟩ : ∃ E, chnEI n ms cs xs = E := ⟨_, rfl⟩
  have HE := Lib.hid hE
  clear hE
  have q0_0 := l1.cell (k := 0) rfl
  have q0_1 := l1.cell (k := 1) rfl
  have q0_2 := l1.cell (k := 2) rfl
  have q0_l := l1.lt
  go_wp2_with fail
  clear q0_0 q0_1 q0_2 q0_l
  refine (Chain_any n _ _ _ ms cs xs _ hs (S.at (v := .slice a1 n1 c1) (xs := xs) (by simp))).mono ?_
  rintro e w' ⟨v, y, lq, rfl, rfl, hR, hC, hD⟩
  rw [HE.out] at hC hD ⊢
  have HC := Lib.hid hC
  have HD := Lib.hid hD
  clear hC hD
  replace hs := hs.later y
  replace l1 := l1.later y
  replace S := S.later y
  obtain ⟨a4, n4, c4, rfl⟩ : ∃ a n c, v = .slice a n c := by obtain ⟨a, c, e⟩ := hR.form; exact ⟨a, _, c, e⟩
  replace S := S.cons hR
  obtain ⟨Y5, hZ⟩ : ∃ Z : Later W, Z.w = y.w := ⟨Y3.step (y), rfl⟩
  rw [← hZ] at S hs l1 ⊢
  clear hZ
  clear y hR
  have q0_0 := l1.cell (k := 0) rfl
  have q0_1 := l1.cell (k := 1) rfl
  have q0_2 := l1.cell (k := 2) rfl
  have q0_l := l1.lt
  go_wp2_with fail
  clear q0_0 q0_1 q0_2 q0_l
  refine (ChainError_any n _ _ _ ms cs xs _ hs (S.at (v := .slice a1 n1 c1) (xs := xs) (by simp))).mono ?_
  rintro e w' ⟨rfl, y, rfl⟩
  rw [HE.out]
  replace hs := hs.later y
  replace l1 := l1.later y
  replace S := S.later y
  obtain ⟨Y6, hZ⟩ : ∃ Z : Later W, Z.w = y.w := ⟨Y5.step (y), rfl⟩
  rw [← hZ] at S hs l1 ⊢
  clear hZ
  clear y
  by_cases h0 : E = 0
  rotate_left
  · have hb : (E != 0) = true := by simpa using h0
    have HL := Lib.hid (HD.out h0)
    clear h0
    have q0_0 := l1.cell (k := 0) rfl
    have q0_1 := l1.cell (k := 1) rfl
    have q0_2 := l1.cell (k := 2) rfl
    have q0_l := l1.lt
    go_wp2
    refine Mix.region_mixL (Mix.kinds [] [7, 11] []) (by kernel_rfl) (by kernel_rfl) ?_
    repeat ((with_reducible refine Mix.atCons ?_); first | refine Mix.skipU (by rfl) rfl (by rfl) ?_ | (refine Mix.val rfl rfl (by rfl) (fun K hK => ?_); go_big_quiet_op; refine hK _ ?_; clear hK K) | (refine Mix.skip (by rfl) ?_; go_frame))
    refine Mix.loud rfl (by rfl) (fun x1 K hK => ?_)
    go_wp2_with fail
    refine (CheckChain_any n _ _ _ ms cs xs _ (hs.later x1) ((S.at (v := .slice a1 n1 c1) (xs := xs) (by simp)).later x1) _ ch ((S.at (v := .slice a2 n2 c2) (xs := ch) (by simp)).later x1)).mono ?_
    rintro e w' ⟨rfl, y1, rfl⟩
    refine hK _ y1 ?_
    clear hK K
    try go_frame
    repeat ((with_reducible refine Mix.atCons ?_); first | refine Mix.skipU (by rfl) rfl (by rfl) ?_ | (refine Mix.val rfl rfl (by rfl) (fun K hK => ?_); go_big_quiet_op; refine hK _ ?_; clear hK K) | (refine Mix.skip (by rfl) ?_; go_frame))
    refine Mix.loud rfl (by rfl) (fun x2 K hK => ?_)
    go_wp2_with fail
    refine (refCheckChain_any n _ _ _ ms cs xs _ (((hs.later x1).later y1).later x2) ((((S.at (v := .slice a1 n1 c1) (xs := xs) (by simp)).later x1).later y1).later x2) _ ch ((((S.at (v := .slice a2 n2 c2) (xs := ch) (by simp)).later x1).later y1).later x2)).mono ?_
    rintro e w' ⟨rfl, y2, rfl⟩
    refine hK _ y2 ?_
    clear hK K
    try go_frame
    repeat ((with_reducible refine Mix.atCons ?_); first | refine Mix.skipU (by rfl) rfl (by rfl) ?_ | (refine Mix.val rfl rfl (by rfl) (fun K hK => ?_); go_big_quiet_op; refine hK _ ?_; clear hK K) | (refine Mix.skip (by rfl) ?_; go_frame))
    refine Mix.done (fun x3 => ?_)
    clear q0_0 q0_1 q0_2 q0_l
    replace hs := (((((hs.later x1).later y1).later x2).later y2).later x3)
    replace l1 := (((((l1.later x1).later y1).later x2).later y2).later x3)
    replace S := (((((S.later x1).later y1).later x2).later y2).later x3)
    obtain ⟨Y7, hZ⟩ : ∃ Z : Later W, Z.w = x3.w := ⟨Y6.step (x1.step (y1.step (x2.step (y2.step (x3))))), rfl⟩
    rw [← hZ] at S hs l1 ⊢
    clear hZ
    have hlen : n4 = 0 := by have := (S.at (v := .slice a4 n4 c4) (xs := lq) (by simp)).form; rw [HL.out] at this; obtain ⟨a, c, e⟩ := this; cases e; rfl
    go_wp2_with fail
    refine (Works_calls _).mono ?_
    rintro e w' ⟨rfl, y, rfl⟩
    go_wp2
    go_ret
    exact ⟨rfl, Y7.step y, rfl⟩
  subst h0
  have HK := Lib.hid (HC.out rfl).1
  have q0_0 := l1.cell (k := 0) rfl
  have q0_1 := l1.cell (k := 1) rfl
  have q0_2 := l1.cell (k := 2) rfl
  have q0_l := l1.lt
  go_wp2
  refine Mix.region_mixL (Mix.kinds [] [7, 11] []) (by kernel_rfl) (by kernel_rfl) ?_
  repeat ((with_reducible refine Mix.atCons ?_); first | refine Mix.skipU (by rfl) rfl (by rfl) ?_ | (refine Mix.val rfl rfl (by rfl) (fun K hK => ?_); go_big_quiet_op; refine hK _ ?_; clear hK K) | (refine Mix.skip (by rfl) ?_; go_frame))
  refine Mix.loud rfl (by rfl) (fun x1 K hK => ?_)
  go_wp2_with fail
  refine (CheckChain_any n _ _ _ ms cs xs _ (hs.later x1) ((S.at (v := .slice a1 n1 c1) (xs := xs) (by simp)).later x1) _ ch ((S.at (v := .slice a2 n2 c2) (xs := ch) (by simp)).later x1)).mono ?_
  rintro e w' ⟨rfl, y1, rfl⟩
  refine hK _ y1 ?_
  clear hK K
  try go_frame
  repeat ((with_reducible refine Mix.atCons ?_); first | refine Mix.skipU (by rfl) rfl (by rfl) ?_ | (refine Mix.val rfl rfl (by rfl) (fun K hK => ?_); go_big_quiet_op; refine hK _ ?_; clear hK K) | (refine Mix.skip (by rfl) ?_; go_frame))
  refine Mix.loud rfl (by rfl) (fun x2 K hK => ?_)
  go_wp2_with fail
  refine (refCheckChain_any n _ _ _ ms cs xs _ (((hs.later x1).later y1).later x2) ((((S.at (v := .slice a1 n1 c1) (xs := xs) (by simp)).later x1).later y1).later x2) _ ch ((((S.at (v := .slice a2 n2 c2) (xs := ch) (by simp)).later x1).later y1).later x2)).mono ?_
  rintro e w' ⟨rfl, y2, rfl⟩
  refine hK _ y2 ?_
  clear hK K
  try go_frame
  repeat ((with_reducible refine Mix.atCons ?_); first | refine Mix.skipU (by rfl) rfl (by rfl) ?_ | (refine Mix.val rfl rfl (by rfl) (fun K hK => ?_); go_big_quiet_op; refine hK _ ?_; clear hK K) | (refine Mix.skip (by rfl) ?_; go_frame))
  refine Mix.done (fun x3 => ?_)
  clear q0_0 q0_1 q0_2 q0_l
  replace hs := (((((hs.later x1).later y1).later x2).later y2).later x3)
  replace l1 := (((((l1.later x1).later y1).later x2).later y2).later x3)
  replace S := (((((S.later x1).later y1).later x2).later y2).later x3)
  obtain ⟨Y7, hZ⟩ : ∃ Z : Later W, Z.w = x3.w := ⟨Y6.step (x1.step (y1.step (x2.step (y2.step (x3))))), rfl⟩
  rw [← hZ] at S hs l1 ⊢
  clear hZ
  have q0_0 := l1.cell (k := 0) rfl
  have q0_1 := l1.cell (k := 1) rfl
  have q0_2 := l1.cell (k := 2) rfl
  have q0_l := l1.lt
  go_wp2_with fail
  clear q0_0 q0_1 q0_2 q0_l
  refine (refCheckChain_any n _ _ _ ms cs xs _ hs (S.at (v := .slice a1 n1 c1) (xs := xs) (by simp)) _ lq (S.at (v := .slice a4 n4 c4) (xs := lq) (by simp))).mono ?_
  rintro e w' ⟨rfl, y, rfl⟩
  rw [HK.out]
  replace hs := hs.later y
  replace l1 := l1.later y
  replace S := S.later y
  obtain ⟨Y8, hZ⟩ : ∃ Z : Later W, Z.w = y.w := ⟨Y7.step (y), rfl⟩
  rw [← hZ] at S hs l1 ⊢
  clear hZ
  clear y
  go_wp2_with fail
  refine (Works_calls _).mono ?_
  rintro e w' ⟨rfl, y, rfl⟩
  replace hs := hs.later y
  replace l1 := l1.later y
  replace S := S.later y
  obtain ⟨Y9, hZ⟩ : ∃ Z : Later W, Z.w = y.w := ⟨Y8.step (y), rfl⟩
  rw [← hZ] at S hs l1 ⊢
  clear hZ
  clear y
  go_wp2
  go_ret
  exact ⟨rfl, Y9, rfl⟩
end Go.Proofs.Ytdhdpbnlhnodjaa
