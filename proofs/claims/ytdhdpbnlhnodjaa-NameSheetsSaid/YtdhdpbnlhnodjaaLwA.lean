import Derived.Test.YtdhdpbnlhnodjaaKWk
/-  The statements over whatever sheet. -/
namespace Go.Proofs.Ytdhdpbnlhnodjaa
open Go.RowKit
set_option maxRecDepth 100000 in
set_option maxHeartbeats 8000000 in
theorem NameSheets_calls (n : Int) (mv cv stv : Value) (ms : List (Int × Int)) (cs st : List Int) (W : World) (hs : Sht W mv cv ms cs) (hst : Ints W stv st) :
    Calls Try.prog 3 #[.agg #[.int .i64 n, mv, cv], stv] W (Gives (.bool true) W) := by
  have S : Ins W [] := Ins.nil _
  obtain ⟨am, lm, cm, rfl⟩ : ∃ a n c, mv = .slice a n c := by obtain ⟨a, c, e⟩ := hs.m.form; exact ⟨a, _, c, e⟩
  obtain ⟨ac, lc, cc, rfl⟩ : ∃ a n c, cv = .slice a n c := by obtain ⟨a, c, e⟩ := hs.c.form; exact ⟨a, _, c, e⟩
  obtain ⟨a1, n1, c1, rfl⟩ : ∃ a n c, stv = .slice a n c := by obtain ⟨a, c, e⟩ := hst.form; exact ⟨a, _, c, e⟩
  have HN1 := Lib.hid (show n1 = st.length by obtain ⟨a, c, e⟩ := hst.form; cases e; rfl)
  have S := S.cons hst
  clear hst
  obtain ⟨G, hG⟩ : ∃ G, greatB ms cs = G := ⟨_, rfl⟩
  have HG := Lib.hid hG
  clear hG
  cases G
  rotate_left
  · go_enter Try.func3, Try.ntmps3
    go_wp2_with fail
    obtain ⟨B1, hb⟩ : ∃ b, b = W.heap.size := ⟨_, rfl⟩
    have l1 : Lin (W.alloc (.cells #[.int .i64 n, .slice am lm cm, .slice ac lc cc] 25)) B1 25 [.int .i64 n, .slice am lm cm, .slice ac lc cc] := by rw [hb]; exact Lin.new _ _ [.int .i64 n, .slice am lm cm, .slice ac lc cc]
    replace S := S.later (Later.new _ (.cells #[.int .i64 n, .slice am lm cm, .slice ac lc cc] 25))
    rw [Later.new_w] at S
    replace hs := hs.later (Later.new _ (.cells #[.int .i64 n, .slice am lm cm, .slice ac lc cc] 25))
    rw [Later.new_w] at hs
    have hsz : (W.alloc (.cells #[.int .i64 n, .slice am lm cm, .slice ac lc cc] 25)).heap.size = B1 + 1 := by rw [hb]; simp
    obtain ⟨Y2, hZ⟩ : ∃ Z : Later W, Z.w = W.alloc (.cells #[.int .i64 n, .slice am lm cm, .slice ac lc cc] 25) := ⟨Later.new _ _, rfl⟩
    rw [← hZ] at S hsz hs l1 ⊢
    clear hZ
    rw [← hb]
    clear hb
    clear hsz
    refine (great_calls n _ _ ms cs _ hs).mono ?_
    rintro e w' ⟨rfl, y, rfl⟩
    rw [HG.out]
    replace hs := hs.later y
    replace l1 := l1.later y
    replace S := S.later y
    obtain ⟨Y3, hZ⟩ : ∃ Z : Later W, Z.w = y.w := ⟨Y2.step (y), rfl⟩
    rw [← hZ] at S hs l1 ⊢
    clear hZ
    clear y
    go_wp2_with fail
    refine (Works_calls _).mono ?_
    rintro e w' ⟨rfl, y, rfl⟩
    go_wp2
    go_ret
    exact ⟨rfl, Y3.step (y), rfl⟩
  by_cases hg0 : 20 < n1
  · have d0 : decide ((20 : Int) < n1) = true := decide_eq_true (by omega)
    clear hg0
    go_enter Try.func3, Try.ntmps3
    go_wp2_with fail
    obtain ⟨B1, hb⟩ : ∃ b, b = W.heap.size := ⟨_, rfl⟩
    have l1 : Lin (W.alloc (.cells #[.int .i64 n, .slice am lm cm, .slice ac lc cc] 25)) B1 25 [.int .i64 n, .slice am lm cm, .slice ac lc cc] := by rw [hb]; exact Lin.new _ _ [.int .i64 n, .slice am lm cm, .slice ac lc cc]
    replace S := S.later (Later.new _ (.cells #[.int .i64 n, .slice am lm cm, .slice ac lc cc] 25))
    rw [Later.new_w] at S
    replace hs := hs.later (Later.new _ (.cells #[.int .i64 n, .slice am lm cm, .slice ac lc cc] 25))
    rw [Later.new_w] at hs
    have hsz : (W.alloc (.cells #[.int .i64 n, .slice am lm cm, .slice ac lc cc] 25)).heap.size = B1 + 1 := by rw [hb]; simp
    obtain ⟨Y2, hZ⟩ : ∃ Z : Later W, Z.w = W.alloc (.cells #[.int .i64 n, .slice am lm cm, .slice ac lc cc] 25) := ⟨Later.new _ _, rfl⟩
    rw [← hZ] at S hsz hs l1 ⊢
    clear hZ
    rw [← hb]
    clear hb
    clear hsz
    refine (great_calls n _ _ ms cs _ hs).mono ?_
    rintro e w' ⟨rfl, y, rfl⟩
    rw [HG.out]
    replace hs := hs.later y
    replace l1 := l1.later y
    replace S := S.later y
    obtain ⟨Y3, hZ⟩ : ∃ Z : Later W, Z.w = y.w := ⟨Y2.step (y), rfl⟩
    rw [← hZ] at S hs l1 ⊢
    clear hZ
    clear y
    go_wp2_with fail
    refine (Works_calls _).mono ?_
    rintro e w' ⟨rfl, y, rfl⟩
    go_wp2
    go_ret
    exact ⟨rfl, Y3.step (y), rfl⟩
  have d0 : decide ((20 : Int) < n1) = false := decide_eq_false (by omega)
  have HG0 := Lib.hid hg0
  clear hg0
  go_enter Try.func3, Try.ntmps3
  go_wp2_with fail
  obtain ⟨B1, hb⟩ : ∃ b, b = W.heap.size := ⟨_, rfl⟩
  have l1 : Lin (W.alloc (.cells #[.int .i64 n, .slice am lm cm, .slice ac lc cc] 25)) B1 25 [.int .i64 n, .slice am lm cm, .slice ac lc cc] := by rw [hb]; exact Lin.new _ _ [.int .i64 n, .slice am lm cm, .slice ac lc cc]
  replace S := S.later (Later.new _ (.cells #[.int .i64 n, .slice am lm cm, .slice ac lc cc] 25))
  rw [Later.new_w] at S
  replace hs := hs.later (Later.new _ (.cells #[.int .i64 n, .slice am lm cm, .slice ac lc cc] 25))
  rw [Later.new_w] at hs
  have hsz : (W.alloc (.cells #[.int .i64 n, .slice am lm cm, .slice ac lc cc] 25)).heap.size = B1 + 1 := by rw [hb]; simp
  obtain ⟨Y2, hZ⟩ : ∃ Z : Later W, Z.w = W.alloc (.cells #[.int .i64 n, .slice am lm cm, .slice ac lc cc] 25) := ⟨Later.new _ _, rfl⟩
  rw [← hZ] at S hsz hs l1 ⊢
  clear hZ
  rw [← hb]
  clear hb
  clear hsz
  refine (great_calls n _ _ ms cs _ hs).mono ?_
  rintro e w' ⟨rfl, y, rfl⟩
  rw [HG.out]
  replace hs := hs.later y
  replace l1 := l1.later y
  replace S := S.later y
  obtain ⟨Y3, hZ⟩ : ∃ Z : Later W, Z.w = y.w := ⟨Y2.step (y), rfl⟩
  rw [← hZ] at S hs l1 ⊢
  clear hZ
  clear y
  have q0_0 := l1.cell (k := 0) rfl
  have q0_1 := l1.cell (k := 1) rfl
  have q0_2 := l1.cell (k := 2) rfl
  have q0_l := l1.lt
  go_wp2_with fail
  clear q0_0 q0_1 q0_2 q0_l
  refine (CheckSetting_any n _ _ ms cs _ hs _ st (S.at (v := .slice a1 n1 c1) (xs := st) (by simp))).mono ?_
  rintro e w' ⟨rfl, y, rfl⟩
  replace hs := hs.later y
  replace l1 := l1.later y
  replace S := S.later y
  obtain ⟨Y4, hZ⟩ : ∃ Z : Later W, Z.w = y.w := ⟨Y3.step (y), rfl⟩
  rw [← hZ] at S hs l1 ⊢
  clear hZ
  clear y
  have q0_0 := l1.cell (k := 0) rfl
  have q0_1 := l1.cell (k := 1) rfl
  have q0_2 := l1.cell (k := 2) rfl
  have q0_l := l1.lt
  go_wp2_with fail
  clear q0_0 q0_1 q0_2 q0_l
  refine (refCheckSetting_calls n _ _ _ ms cs st _ hs (S.at (v := .slice a1 n1 c1) (xs := st) (by simp))).mono ?_
  rintro e w' ⟨rfl, y, rfl⟩
  replace hs := hs.later y
  replace l1 := l1.later y
  replace S := S.later y
  obtain ⟨Y5, hZ⟩ : ∃ Z : Later W, Z.w = y.w := ⟨Y4.step (y), rfl⟩
  rw [← hZ] at S hs l1 ⊢
  clear hZ
  clear y
  have q0_0 := l1.cell (k := 0) rfl
  have q0_1 := l1.cell (k := 1) rfl
  have q0_2 := l1.cell (k := 2) rfl
  have q0_l := l1.lt
  go_wp2
  refine Mix.region_mixL (Mix.kinds [] [1, 3, 16] []) (by kernel_rfl) (by kernel_rfl) ?_
  repeat ((with_reducible refine Mix.atCons ?_); first | refine Mix.skipU (by rfl) rfl (by rfl) ?_ | (refine Mix.val rfl rfl (by rfl) (fun K hK => ?_); go_big_quiet_op; refine hK _ ?_; clear hK K) | (refine Mix.skip (by rfl) ?_; go_frame))
  refine Mix.loud rfl (by rfl) (fun x1 K hK => ?_)
  go_wp2_with fail
  refine (CheckSheet_calls n _ _ ms cs _ (hs.later x1)).mono ?_
  rintro e w' ⟨rfl, y1, rfl⟩
  refine hK _ y1 ?_
  clear hK K
  try go_frame
  repeat ((with_reducible refine Mix.atCons ?_); first | refine Mix.skipU (by rfl) rfl (by rfl) ?_ | (refine Mix.val rfl rfl (by rfl) (fun K hK => ?_); go_big_quiet_op; refine hK _ ?_; clear hK K) | (refine Mix.skip (by rfl) ?_; go_frame))
  refine Mix.loud rfl (by rfl) (fun x2 K hK => ?_)
  go_wp2_with fail
  refine (refCheckSheet_calls n _ _ ms cs _ (((hs.later x1).later y1).later x2)).mono ?_
  rintro e w' ⟨rfl, y2, rfl⟩
  refine hK _ y2 ?_
  clear hK K
  try go_frame
  repeat ((with_reducible refine Mix.atCons ?_); first | refine Mix.skipU (by rfl) rfl (by rfl) ?_ | (refine Mix.val rfl rfl (by rfl) (fun K hK => ?_); go_big_quiet_op; refine hK _ ?_; clear hK K) | (refine Mix.skip (by rfl) ?_; go_frame))
  refine Mix.loud rfl (by rfl) (fun x3 K hK => ?_)
  go_wp2_with fail
  refine (Works_calls _).mono ?_
  rintro e w' ⟨rfl, y3, rfl⟩
  refine hK _ y3 ?_
  clear hK K
  try go_frame
  repeat ((with_reducible refine Mix.atCons ?_); first | refine Mix.skipU (by rfl) rfl (by rfl) ?_ | (refine Mix.val rfl rfl (by rfl) (fun K hK => ?_); go_big_quiet_op; refine hK _ ?_; clear hK K) | (refine Mix.skip (by rfl) ?_; go_frame))
  refine Mix.done (fun x4 => ?_)
  clear q0_0 q0_1 q0_2 q0_l
  replace hs := (((((((hs.later x1).later y1).later x2).later y2).later x3).later y3).later x4)
  replace l1 := (((((((l1.later x1).later y1).later x2).later y2).later x3).later y3).later x4)
  replace S := (((((((S.later x1).later y1).later x2).later y2).later x3).later y3).later x4)
  obtain ⟨Y6, hZ⟩ : ∃ Z : Later W, Z.w = x4.w := ⟨Y5.step (x1.step (y1.step (x2.step (y2.step (x3.step (y3.step (x4))))))), rfl⟩
  rw [← hZ] at S hs l1 ⊢
  clear hZ
  go_wp2
  go_ret
  exact ⟨rfl, Y6, rfl⟩
end Go.Proofs.Ytdhdpbnlhnodjaa
