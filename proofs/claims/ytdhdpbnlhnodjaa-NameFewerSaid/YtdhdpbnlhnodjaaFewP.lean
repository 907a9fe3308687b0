import Derived.Test.YtdhdpbnlhnodjaaLodS
import Derived.Test.YtdhdpbnlhnodjaaFewS
/-  NameFewer. -/
namespace Go.Proofs.Ytdhdpbnlhnodjaa
open Go.RowKit
set_option maxRecDepth 100000 in
set_option maxHeartbeats 8000000 in
theorem NameFewer_calls (ni : Int) (mv cv : Value) (ms : List (Int × Int)) (cs : List Int) (b : Nat) (ls : Nat) (m0 m1 : Nat) (cv8 : Nat) (W : World) (hs : Sht W mv cv ms cs) (hb : b ≤ 65535) (hls : ls ≤ 65535) (hm0 : m0 ≤ 255) (hm1 : m1 ≤ 255) (hcv8 : cv8 ≤ 255) :
    Calls Try.prog 10 #[.agg #[.int .i64 ni, mv, cv], .int .u16 (b : Int), .int .u16 (ls : Int), .agg #[.int .u8 (m0 : Int), .int .u8 (m1 : Int)], .int .u8 (cv8 : Int)] W (Gives (.bool true) W) := by
  have S : Ins W [] := Ins.nil _
  obtain ⟨am, lm, cm, rfl⟩ : ∃ a n c, mv = .slice a n c := by obtain ⟨a, c, e⟩ := hs.m.form; exact ⟨a, _, c, e⟩
  obtain ⟨ac, lc, cc, rfl⟩ : ∃ a n c, cv = .slice a n c := by obtain ⟨a, c, e⟩ := hs.c.form; exact ⟨a, _, c, e⟩
  by_cases hv : vsheet ni ms cs = 0
  rotate_left
  · have HF := Lib.hid (show fineB ni ms cs = false from decide_eq_false hv)
    clear hv
    go_enter Try.func10, Try.ntmps10
    go_wp2_with fail
    obtain ⟨B1, hb⟩ : ∃ b, b = W.heap.size := ⟨_, rfl⟩
    have l1 : Lin (W.alloc (.cells #[.int .i64 ni, .slice am lm cm, .slice ac lc cc] 25)) B1 25 [.int .i64 ni, .slice am lm cm, .slice ac lc cc] := by rw [hb]; exact Lin.new _ _ [.int .i64 ni, .slice am lm cm, .slice ac lc cc]
    replace S := S.later (Later.new _ (.cells #[.int .i64 ni, .slice am lm cm, .slice ac lc cc] 25))
    rw [Later.new_w] at S
    replace hs := hs.later (Later.new _ (.cells #[.int .i64 ni, .slice am lm cm, .slice ac lc cc] 25))
    rw [Later.new_w] at hs
    have hsz : (W.alloc (.cells #[.int .i64 ni, .slice am lm cm, .slice ac lc cc] 25)).heap.size = B1 + 1 := by rw [hb]; simp
    obtain ⟨Y2, hZ⟩ : ∃ Z : Later W, Z.w = W.alloc (.cells #[.int .i64 ni, .slice am lm cm, .slice ac lc cc] 25) := ⟨Later.new _ _, rfl⟩
    rw [← hZ] at S hsz hs l1 ⊢
    clear hZ
    rw [← hb]
    clear hb
    have hs2 := hsz
    rw [← hsz]
    clear hsz
    obtain ⟨B3, hb⟩ : ∃ b, b = Y2.w.heap.size := ⟨_, rfl⟩
    have l3 : Lin (Y2.w.alloc (.cells #[.int .u8 m0, .int .u8 m1] 54)) B3 54 [.int .u8 m0, .int .u8 m1] := by rw [hb]; exact Lin.new _ _ [.int .u8 m0, .int .u8 m1]
    replace S := S.later (Later.new _ (.cells #[.int .u8 m0, .int .u8 m1] 54))
    rw [Later.new_w] at S
    replace hs := hs.later (Later.new _ (.cells #[.int .u8 m0, .int .u8 m1] 54))
    rw [Later.new_w] at hs
    replace l1 := l1.later (Later.new _ (.cells #[.int .u8 m0, .int .u8 m1] 54))
    rw [Later.new_w] at l1
    have hsz : (Y2.w.alloc (.cells #[.int .u8 m0, .int .u8 m1] 54)).heap.size = B3 + 1 := by rw [hb]; simp
    obtain ⟨Y4, hZ⟩ : ∃ Z : Later W, Z.w = Y2.w.alloc (.cells #[.int .u8 m0, .int .u8 m1] 54) := ⟨Y2.step (Later.new _ _), rfl⟩
    rw [← hZ] at S hsz hs l1 l3 ⊢
    clear hZ
    rw [← hb]
    clear hb
    clear hs2
    clear hsz
    refine (fine_calls ni _ _ ms cs _ hs).mono ?_
    rintro e w' ⟨rfl, y, rfl⟩
    rw [HF.out]
    replace hs := hs.later y
    replace l1 := l1.later y
    replace l3 := l3.later y
    replace S := S.later y
    obtain ⟨Y5, hZ⟩ : ∃ Z : Later W, Z.w = y.w := ⟨Y4.step (y), rfl⟩
    rw [← hZ] at S hs l1 l3 ⊢
    clear hZ
    clear y
    go_wp2_with fail
    refine (Works_calls _).mono ?_
    rintro e w' ⟨rfl, y, rfl⟩
    go_wp2
    go_ret
    exact ⟨rfl, Y5.step (y), rfl⟩
  obtain ⟨n, mn, cn, rfl, hms, hcs, hS⟩ := vsheet_nat hv
  have HF := Lib.hid (show fineB n ms cs = true from decide_eq_true hv)
  have HS := Lib.hid hS
  have HMS := Lib.hid hms
  have HCS := Lib.hid hcs
  have h1 := hS.n1
  have h10 := hS.n10
  have HML := Lib.hid (show lm = ms.length by obtain ⟨a, c, e⟩ := hs.m.form; cases e; rfl)
  have HCL := Lib.hid (show lc = cs.length by obtain ⟨a, c, e⟩ := hs.c.form; cases e; rfl)
  clear hv hms hcs hS
  by_cases hg0 : 40 ≤ lm
  · have d0 : decide ((40 : Int) ≤ lm) = true := decide_eq_true (by omega)
    clear hg0
    go_enter Try.func10, Try.ntmps10
    go_wp2_with fail
    obtain ⟨B1, hb⟩ : ∃ b, b = W.heap.size := ⟨_, rfl⟩
    have l1 : Lin (W.alloc (.cells #[.int .i64 n, .slice am lm cm, .slice ac lc cc] 25)) B1 25 [.int .i64 n, .slice am lm cm, .slice ac lc cc] := by rw [hb]; exact Lin.new _ _ [.int .i64 n, .slice am lm cm, .slice ac lc cc]
    replace S := S.later (Later.new _ (.cells #[.int .i64 n, .slice am lm cm, .slice ac lc cc] 25))
    rw [Later.new_w] at S
    replace hs := hs.later (Later.new _ (.cells #[.int .i64 n, .slice am lm cm, .slice ac lc cc] 25))
    rw [Later.new_w] at hs
    have hsz : (W.alloc (.cells #[.int .i64 n, .slice am lm cm, .slice ac lc cc] 25)).heap.size = B1 + 1 := by rw [hb]; simp
    obtain ⟨Y2, hZ⟩ : ∃ Z : Later W, Z.w = W.alloc (.cells #[.int .i64 n, .slice am lm cm, .slice ac lc cc] 25) := ⟨Later.new _ _, rfl⟩
    rw [← hZ] at S hsz hs l1 ⊢
    clear hZ
    rw [← hb]
    clear hb
    have hs2 := hsz
    rw [← hsz]
    clear hsz
    obtain ⟨B3, hb⟩ : ∃ b, b = Y2.w.heap.size := ⟨_, rfl⟩
    have l3 : Lin (Y2.w.alloc (.cells #[.int .u8 m0, .int .u8 m1] 54)) B3 54 [.int .u8 m0, .int .u8 m1] := by rw [hb]; exact Lin.new _ _ [.int .u8 m0, .int .u8 m1]
    replace S := S.later (Later.new _ (.cells #[.int .u8 m0, .int .u8 m1] 54))
    rw [Later.new_w] at S
    replace hs := hs.later (Later.new _ (.cells #[.int .u8 m0, .int .u8 m1] 54))
    rw [Later.new_w] at hs
    replace l1 := l1.later (Later.new _ (.cells #[.int .u8 m0, .int .u8 m1] 54))
    rw [Later.new_w] at l1
    have hsz : (Y2.w.alloc (.cells #[.int .u8 m0, .int .u8 m1] 54)).heap.size = B3 + 1 := by rw [hb]; simp
    obtain ⟨Y4, hZ⟩ : ∃ Z : Later W, Z.w = Y2.w.alloc (.cells #[.int .u8 m0, .int .u8 m1] 54) := ⟨Y2.step (Later.new _ _), rfl⟩
    rw [← hZ] at S hsz hs l1 l3 ⊢
    clear hZ
    rw [← hb]
    clear hb
    clear hs2
    clear hsz
    refine (fine_calls n _ _ ms cs _ hs).mono ?_
    rintro e w' ⟨rfl, y, rfl⟩
    rw [HF.out]
    replace hs := hs.later y
    replace l1 := l1.later y
    replace l3 := l3.later y
    replace S := S.later y
    obtain ⟨Y5, hZ⟩ : ∃ Z : Later W, Z.w = y.w := ⟨Y4.step (y), rfl⟩
    rw [← hZ] at S hs l1 l3 ⊢
    clear hZ
    clear y
    have q0_0 := l1.cell (k := 0) rfl
    have q0_1 := l1.cell (k := 1) rfl
    have q0_2 := l1.cell (k := 2) rfl
    have q0_l := l1.lt
    go_wp2_with fail
    clear q0_0 q0_1 q0_2 q0_l
    refine (Works_calls _).mono ?_
    rintro e w' ⟨rfl, y, rfl⟩
    go_wp2
    go_ret
    exact ⟨rfl, Y5.step (y), rfl⟩
  have d0 : decide ((40 : Int) ≤ lm) = false := decide_eq_false (by omega)
  have HG0 := Lib.hid hg0
  clear hg0
  by_cases hg1 : 20 ≤ lc
  · have d1 : decide ((20 : Int) ≤ lc) = true := decide_eq_true (by omega)
    clear hg1
    go_enter Try.func10, Try.ntmps10
    go_wp2_with fail
    obtain ⟨B1, hb⟩ : ∃ b, b = W.heap.size := ⟨_, rfl⟩
    have l1 : Lin (W.alloc (.cells #[.int .i64 n, .slice am lm cm, .slice ac lc cc] 25)) B1 25 [.int .i64 n, .slice am lm cm, .slice ac lc cc] := by rw [hb]; exact Lin.new _ _ [.int .i64 n, .slice am lm cm, .slice ac lc cc]
    replace S := S.later (Later.new _ (.cells #[.int .i64 n, .slice am lm cm, .slice ac lc cc] 25))
    rw [Later.new_w] at S
    replace hs := hs.later (Later.new _ (.cells #[.int .i64 n, .slice am lm cm, .slice ac lc cc] 25))
    rw [Later.new_w] at hs
    have hsz : (W.alloc (.cells #[.int .i64 n, .slice am lm cm, .slice ac lc cc] 25)).heap.size = B1 + 1 := by rw [hb]; simp
    obtain ⟨Y2, hZ⟩ : ∃ Z : Later W, Z.w = W.alloc (.cells #[.int .i64 n, .slice am lm cm, .slice ac lc cc] 25) := ⟨Later.new _ _, rfl⟩
    rw [← hZ] at S hsz hs l1 ⊢
    clear hZ
    rw [← hb]
    clear hb
    have hs2 := hsz
    rw [← hsz]
    clear hsz
    obtain ⟨B3, hb⟩ : ∃ b, b = Y2.w.heap.size := ⟨_, rfl⟩
    have l3 : Lin (Y2.w.alloc (.cells #[.int .u8 m0, .int .u8 m1] 54)) B3 54 [.int .u8 m0, .int .u8 m1] := by rw [hb]; exact Lin.new _ _ [.int .u8 m0, .int .u8 m1]
    replace S := S.later (Later.new _ (.cells #[.int .u8 m0, .int .u8 m1] 54))
    rw [Later.new_w] at S
    replace hs := hs.later (Later.new _ (.cells #[.int .u8 m0, .int .u8 m1] 54))
    rw [Later.new_w] at hs
    replace l1 := l1.later (Later.new _ (.cells #[.int .u8 m0, .int .u8 m1] 54))
    rw [Later.new_w] at l1
    have hsz : (Y2.w.alloc (.cells #[.int .u8 m0, .int .u8 m1] 54)).heap.size = B3 + 1 := by rw [hb]; simp
    obtain ⟨Y4, hZ⟩ : ∃ Z : Later W, Z.w = Y2.w.alloc (.cells #[.int .u8 m0, .int .u8 m1] 54) := ⟨Y2.step (Later.new _ _), rfl⟩
    rw [← hZ] at S hsz hs l1 l3 ⊢
    clear hZ
    rw [← hb]
    clear hb
    clear hs2
    clear hsz
    refine (fine_calls n _ _ ms cs _ hs).mono ?_
    rintro e w' ⟨rfl, y, rfl⟩
    rw [HF.out]
    replace hs := hs.later y
    replace l1 := l1.later y
    replace l3 := l3.later y
    replace S := S.later y
    obtain ⟨Y5, hZ⟩ : ∃ Z : Later W, Z.w = y.w := ⟨Y4.step (y), rfl⟩
    rw [← hZ] at S hs l1 l3 ⊢
    clear hZ
    clear y
    have q0_0 := l1.cell (k := 0) rfl
    have q0_1 := l1.cell (k := 1) rfl
    have q0_2 := l1.cell (k := 2) rfl
    have q0_l := l1.lt
    go_wp2_with fail
    clear q0_0 q0_1 q0_2 q0_l
    refine (Works_calls _).mono ?_
    rintro e w' ⟨rfl, y, rfl⟩
    go_wp2
    go_ret
    exact ⟨rfl, Y5.step (y), rfl⟩
  have d1 : decide ((20 : Int) ≤ lc) = false := decide_eq_false (by omega)
  have HG1 := Lib.hid hg1
  clear hg1
  obtain ⟨fb, hfb⟩ : ∃ k, b &&& ls = k := ⟨_, rfl⟩
  have hand := u16_and b ls hb hls
  rw [hfb] at hand
  obtain ⟨N, hNd⟩ : ∃ N, someN n b = N := ⟨_, rfl⟩
  obtain ⟨F, hFd⟩ : ∃ F, someN n fb = F := ⟨_, rfl⟩
  have HN := Lib.hid (show Nms n N from hNd ▸ someN_nms n b)
  have HF0 := Lib.hid (show Nms n F from hFd ▸ someN_nms n fb)
  have HFN := Lib.hid (show ∀ x ∈ F, x ∈ N from fun x hx => by rw [← hNd]; rw [← hFd, ← hfb] at hx; exact some_and hx)
  have HND := Lib.hid hNd
  have HFD := Lib.hid hFd
  clear hNd hFd hfb
  obtain ⟨a, ha⟩ : ∃ a, m0 % (2 * n) = a := ⟨_, rfl⟩
  obtain ⟨b2, hb2⟩ : ∃ a, m1 % (2 * n) = a := ⟨_, rfl⟩
  obtain ⟨c, hc⟩ : ∃ a, cv8 % (2 * n) = a := ⟨_, rfl⟩
  have han : a < 2 * n := by rw [← ha]; exact Nat.mod_lt _ (by omega)
  have hbn : b2 < 2 * n := by rw [← hb2]; exact Nat.mod_lt _ (by omega)
  have hcn : c < 2 * n := by rw [← hc]; exact Nat.mod_lt _ (by omega)
  have hav : (m0 : Int) % (2 * (n : Int)) = (a : Int) := by rw [← ha]; push_cast; rfl
  have hbv : (m1 : Int) % (2 * (n : Int)) = (b2 : Int) := by rw [← hb2]; push_cast; rfl
  have hcv : (cv8 : Int) % (2 * (n : Int)) = (c : Int) := by rw [← hc]; push_cast; rfl
  clear ha hb2 hc
  have hz : ((2 * (n : Int)) == 0) = false := by simp; omega
  have hcn20 : cn.length < 20 := by have h1 := HCL.out; have h2 := HG1.out; rw [HCS.out, List.length_map] at h1; omega
  have hmn40 : mn.length < 40 := by have h1 := HML.out; have h2 := HG0.out; rw [HMS.out, List.length_map] at h1; omega
  have hml : ms.length ≤ 40 := by have := HML.out; have := HG0.out; omega
  have hcl : cs.length ≤ 20 := by have := HCL.out; have := HG1.out; omega
  go_enter Try.func10, Try.ntmps10
  go_wp2_with fail
  obtain ⟨B1, hb⟩ : ∃ b, b = W.heap.size := ⟨_, rfl⟩
  have l1 : Lin (W.alloc (.cells #[.int .i64 n, .slice am lm cm, .slice ac lc cc] 25)) B1 25 [.int .i64 n, .slice am lm cm, .slice ac lc cc] := by rw [hb]; exact Lin.new _ _ [.int .i64 n, .slice am lm cm, .slice ac lc cc]
  replace S := S.later (Later.new _ (.cells #[.int .i64 n, .slice am lm cm, .slice ac lc cc] 25))
  rw [Later.new_w] at S
  replace hs := hs.later (Later.new _ (.cells #[.int .i64 n, .slice am lm cm, .slice ac lc cc] 25))
  rw [Later.new_w] at hs
  have hsz : (W.alloc (.cells #[.int .i64 n, .slice am lm cm, .slice ac lc cc] 25)).heap.size = B1 + 1 := by rw [hb]; simp
  obtain ⟨Y2, hZ⟩ : ∃ Z : Later W, Z.w = W.alloc (.cells #[.int .i64 n, .slice am lm cm, .slice ac lc cc] 25) := ⟨Later.new _ _, rfl⟩
  rw [← hZ] at S hsz hs l1 ⊢
  clear hZ
  rw [← hb]
  clear hb
  have hs2 := hsz
  rw [← hsz]
  clear hsz
  obtain ⟨B3, hb⟩ : ∃ b, b = Y2.w.heap.size := ⟨_, rfl⟩
  have l3 : Lin (Y2.w.alloc (.cells #[.int .u8 m0, .int .u8 m1] 54)) B3 54 [.int .u8 m0, .int .u8 m1] := by rw [hb]; exact Lin.new _ _ [.int .u8 m0, .int .u8 m1]
  replace S := S.later (Later.new _ (.cells #[.int .u8 m0, .int .u8 m1] 54))
  rw [Later.new_w] at S
  replace hs := hs.later (Later.new _ (.cells #[.int .u8 m0, .int .u8 m1] 54))
  rw [Later.new_w] at hs
  replace l1 := l1.later (Later.new _ (.cells #[.int .u8 m0, .int .u8 m1] 54))
  rw [Later.new_w] at l1
  have hsz : (Y2.w.alloc (.cells #[.int .u8 m0, .int .u8 m1] 54)).heap.size = B3 + 1 := by rw [hb]; simp
  obtain ⟨Y4, hZ⟩ : ∃ Z : Later W, Z.w = Y2.w.alloc (.cells #[.int .u8 m0, .int .u8 m1] 54) := ⟨Y2.step (Later.new _ _), rfl⟩
  rw [← hZ] at S hsz hs l1 l3 ⊢
  clear hZ
  rw [← hb]
  clear hb
  clear hs2
  clear hsz
  refine (fine_calls n _ _ ms cs _ hs).mono ?_
  rintro e w' ⟨rfl, y, rfl⟩
  rw [HF.out]
  replace hs := hs.later y
  replace l1 := l1.later y
  replace l3 := l3.later y
  replace S := S.later y
  obtain ⟨Y5, hZ⟩ : ∃ Z : Later W, Z.w = y.w := ⟨Y4.step (y), rfl⟩
  rw [← hZ] at S hs l1 l3 ⊢
  clear hZ
  clear y
  have q0_0 := l1.cell (k := 0) rfl
  have q0_1 := l1.cell (k := 1) rfl
  have q0_2 := l1.cell (k := 2) rfl
  have q0_l := l1.lt
  go_wp2
  refine Mix.region_mixL (Mix.kinds [] [2, 7] []) (by kernel_rfl) (by kernel_rfl) ?_
  repeat ((with_reducible refine Mix.atCons ?_); first | refine Mix.skipU (by rfl) rfl (by rfl) ?_ | (refine Mix.val rfl rfl (by rfl) (fun K hK => ?_); go_big_quiet_op; refine hK _ ?_; clear hK K) | (refine Mix.skip (by rfl) ?_; go_frame))
  refine Mix.loud rfl (by rfl) (fun x1 K hK => ?_)
  go_wp2_with fail
  refine (Some_calls n b _ _ ms cs h10 _ (hs.later x1)).mono ?_
  rintro e w' ⟨v, y1, rfl, rfl, hR1⟩
  rw [HND.out] at hR1
  obtain ⟨an1, nn1, cn1, rfl⟩ : ∃ a n c, v = .slice a n c := by obtain ⟨a, c, e⟩ := hR1.form; exact ⟨a, _, c, e⟩
  refine hK _ y1 ?_
  clear hK K
  try go_frame
  repeat ((with_reducible refine Mix.atCons ?_); first | refine Mix.skipU (by rfl) rfl (by rfl) ?_ | (refine Mix.val rfl rfl (by rfl) (fun K hK => ?_); go_big_quiet_op; refine hK _ ?_; clear hK K) | (refine Mix.skip (by rfl) ?_; go_frame))
  refine Mix.loud rfl (by rfl) (fun x2 K hK => ?_)
  go_wp2_with fail
  refine (Some_calls n fb _ _ ms cs h10 _ (((hs.later x1).later y1).later x2)).mono ?_
  rintro e w' ⟨v, y2, rfl, rfl, hR2⟩
  rw [HFD.out] at hR2
  obtain ⟨an2, nn2, cn2, rfl⟩ : ∃ a n c, v = .slice a n c := by obtain ⟨a, c, e⟩ := hR2.form; exact ⟨a, _, c, e⟩
  refine hK _ y2 ?_
  clear hK K
  try go_frame
  repeat ((with_reducible refine Mix.atCons ?_); first | refine Mix.skipU (by rfl) rfl (by rfl) ?_ | (refine Mix.val rfl rfl (by rfl) (fun K hK => ?_); go_big_quiet_op; refine hK _ ?_; clear hK K) | (refine Mix.skip (by rfl) ?_; go_frame))
  refine Mix.done (fun x3 => ?_)
  clear q0_0 q0_1 q0_2 q0_l
  replace hs := (((((hs.later x1).later y1).later x2).later y2).later x3)
  replace l1 := (((((l1.later x1).later y1).later x2).later y2).later x3)
  replace l3 := (((((l3.later x1).later y1).later x2).later y2).later x3)
  replace S := (((((S.later x1).later y1).later x2).later y2).later x3)
  replace hR1 := (((hR1.later x2).later y2).later x3)
  replace S := S.cons hR1
  replace hR2 := (hR2.later x3)
  replace S := S.cons hR2
  obtain ⟨Y6, hZ⟩ : ∃ Z : Later W, Z.w = x3.w := ⟨Y5.step (x1.step (y1.step (x2.step (y2.step (x3))))), rfl⟩
  rw [← hZ] at S hs l1 l3 ⊢
  clear hZ
  clear hand
  have q0_0 := l1.cell (k := 0) rfl
  have q0_1 := l1.cell (k := 1) rfl
  have q0_2 := l1.cell (k := 2) rfl
  have q0_l := l1.lt
  go_wp2
  clear q0_0 q0_1 q0_2 q0_l
  apply joinK (A := Later Y6.w) (H := fun V T1 T2 => Lin V.w T1 25 [.int .i64 n, .slice am lm cm, .slice ac lc cc] ∧ Lin V.w T2 25 [.int .i64 n, .slice am lm cm, .slice ac lc cc] ∧ Y6.w.heap.size ≤ T1 ∧ Y6.w.heap.size ≤ T2 ∧ T1 ≠ T2 ∧ B1 ≠ T1 ∧ B1 ≠ T2)
  · intro key
    refine wp_region_held (S := fun w' => Lin w' B1 25 [.int .i64 n, .slice am lm cm, .slice ac lc cc]) (by kernel_rfl) ?_
    show wpAnyH _ _ _ _ _ _ _ _ Y6.w.drew
    obtain ⟨V9, hV9⟩ : ∃ V : Later Y6.w, V.w = Y6.w.drew := ⟨Later.draw Y6.w, rfl⟩
    have lE := l1.later V9
    rw [← hV9]
    clear hV9
    refine wpAnyH_take (i := 0) (v := .agg #[.int .i64 n, .slice am lm cm, .slice ac lc cc]) rfl (by kernel_rfl) (by kernel_rfl) (by kernel_rfl) (fun _ _ _ h => h) (.inl ⟨by rfl, fun w' hw' => exec_loadS rfl rfl hw'⟩) lE ?_
    simp only [List.getElem_toArray, List.getElem_cons_zero, Act.put, List.setIfInBounds_toArray, List.set]
    refine wpAnyH_take (i := 1) (v := .agg #[.int .i64 n, .slice am lm cm, .slice ac lc cc]) rfl (by kernel_rfl) (by kernel_rfl) (by kernel_rfl) (fun _ _ _ h => h) (.inl ⟨by rfl, fun w' hw' => exec_loadS rfl rfl hw'⟩) lE ?_
    simp only [List.getElem_toArray, List.getElem_cons_succ, List.getElem_cons_zero, Act.put, List.setIfInBounds_toArray, List.set]
    refine wpAnyH_all (rs := [2, 3]) (by kernel_rfl) (by simp) (fun i hi => ?_)
    have hi2 : i = 2 ∨ i = 3 := by simpa using hi
    clear hi
    rcases hi2 with rfl | rfl
    · refine wpOp_some rfl (by rfl) (fun K hK => ?_)
      simp only [List.getElem_toArray, List.getElem_cons_succ, List.getElem_cons_zero]
      go_wp2_with fail
      obtain ⟨T1, hTae⟩ : ∃ T, T = V9.w.heap.size := ⟨_, rfl⟩
      obtain ⟨A1, hA1⟩ : ∃ A : Later V9.w, A.w = V9.w.alloc (.cells #[.int .i64 0, .slice none 0 0, .slice none 0 0] 25) := ⟨Later.new _ _, rfl⟩
      have k1 : Lin A1.w T1 25 [.int .i64 0, .slice none 0 0, .slice none 0 0] := by rw [hA1, hTae]; exact Lin.new _ _ [.int .i64 0, .slice none 0 0, .slice none 0 0]
      have lE1 := lE.later A1
      rw [← hA1, ← hTae]
      refine ⟨lE1, ?_⟩
      have hT1 : Y6.w.heap.size ≤ T1 := by rw [hTae]; exact V9.size
      clear hA1 hTae
      obtain ⟨T2, hTbe⟩ : ∃ T, T = A1.w.heap.size := ⟨_, rfl⟩
      obtain ⟨A2, hA2⟩ : ∃ A : Later A1.w, A.w = A1.w.alloc (.cells #[.int .i64 0, .slice none 0 0, .slice none 0 0] 25) := ⟨Later.new _ _, rfl⟩
      have k2 : Lin A2.w T2 25 [.int .i64 0, .slice none 0 0, .slice none 0 0] := by rw [hA2, hTbe]; exact Lin.new _ _ [.int .i64 0, .slice none 0 0, .slice none 0 0]
      have lE2 := lE1.later A2
      have HA2 := Lib.hid hA2
      have HTbe := Lib.hid hTbe
      clear hA2 hTbe
      refine wpAnyH_all (rs := [3]) (by kernel_rfl) (by simp) (fun i hi => ?_)
      obtain rfl : i = 3 := by simpa using hi
      clear hi
      refine wpOp_some rfl (by rfl) (fun K hK => ?_)
      simp only [List.getElem_toArray, List.getElem_cons_succ, List.getElem_cons_zero]
      go_wp2_with fail
      rw [← HA2.out, ← HTbe.out]
      refine ⟨lE2, ?_⟩
      have hT2 : Y6.w.heap.size ≤ T2 := by rw [HTbe.out]; exact Nat.le_trans V9.size A1.size
      have hT12 : T1 ≠ T2 := by have := k1.lt; have := HTbe.out; omega
      have hb1 : B1 ≠ T1 := by have := l1.lt; omega
      have hb2 : B1 ≠ T2 := by have := l1.lt; omega
      replace k1 := k1.later A2
      have hB4 : Below Y6.w.heap.size Y6.w A2.w := ((V9.step A1).step A2).le
      have t0 := k1.cell (k := 0) rfl
      have t1' := k1.cell (k := 1) rfl
      have t2' := k1.cell (k := 2) rfl
      have f0 := k1.frozen 0
      have f1 := k1.frozen 1
      have f2 := k1.frozen 2
      have tl := k1.lt
      have HB := Lib.hid (((hB4.setCell (p := ⟨T1, 0, none⟩) hT1 (.int .i64 n)).setCell (p := ⟨T1, 1, none⟩) hT1 (.slice am lm cm)).setCell (p := ⟨T1, 2, none⟩) hT1 (.slice ac lc cc))
      have HK1 := Lib.hid (((k1.set 0 (.int .i64 n)).set 1 (.slice am lm cm)).set 2 (.slice ac lc cc))
      have HK2 := Lib.hid (((k2.other (b := T1) (k := 0) hT12.symm (.int .i64 n)).other (b := T1) (k := 1) hT12.symm (.slice am lm cm)).other (b := T1) (k := 2) hT12.symm (.slice ac lc cc))
      have HE4 := Lib.hid (((lE2.other (b := T1) (k := 0) hb1 (.int .i64 n)).other (b := T1) (k := 1) hb1 (.slice am lm cm)).other (b := T1) (k := 2) hb1 (.slice ac lc cc))
      clear k1 k2 hB4 lE lE1 lE2 HTbe HA2
      refine wpAnyH_all (rs := [4]) (by kernel_rfl) (by simp) (fun i hi => ?_)
      obtain rfl : i = 4 := by simpa using hi
      clear hi
      refine wpOp_some rfl (by rfl) (fun K hK => ?_)
      simp only [List.getElem_toArray, List.getElem_cons_succ, List.getElem_cons_zero]
      go_wp2_with fail
      clear t0 t1' t2' f0 f1 f2 tl
      obtain ⟨U4, hU4⟩ : ∃ U, ((A2.w.setCell ⟨T1, 0, none⟩ (.int .i64 n)).setCell ⟨T1, 1, none⟩ (.slice am lm cm)).setCell ⟨T1, 2, none⟩ (.slice ac lc cc) = U := ⟨_, rfl⟩
      rw [hU4] at HB HK1 HK2 HE4 ⊢
      clear hU4
      refine ⟨HE4.out, ?_⟩
      have k2 := HK2.out
      have t0 := k2.cell (k := 0) rfl
      have t1' := k2.cell (k := 1) rfl
      have t2' := k2.cell (k := 2) rfl
      have f0 := k2.frozen 0
      have f1 := k2.frozen 1
      have f2 := k2.frozen 2
      have tl := k2.lt
      have HB2 := Lib.hid (((HB.out.setCell (p := ⟨T2, 0, none⟩) hT2 (.int .i64 n)).setCell (p := ⟨T2, 1, none⟩) hT2 (.slice am lm cm)).setCell (p := ⟨T2, 2, none⟩) hT2 (.slice ac lc cc))
      have HL1 := Lib.hid (((HK1.out.other (b := T2) (k := 0) hT12 (.int .i64 n)).other (b := T2) (k := 1) hT12 (.slice am lm cm)).other (b := T2) (k := 2) hT12 (.slice ac lc cc))
      have HL2 := Lib.hid (((k2.set 0 (.int .i64 n)).set 1 (.slice am lm cm)).set 2 (.slice ac lc cc))
      have HE5 := Lib.hid (((HE4.out.other (b := T2) (k := 0) hb2 (.int .i64 n)).other (b := T2) (k := 1) hb2 (.slice am lm cm)).other (b := T2) (k := 2) hb2 (.slice ac lc cc))
      clear k2 HK1 HK2 HB HE4
      refine wpAnyH_all (rs := [5]) (by kernel_rfl) (by simp) (fun i hi => ?_)
      obtain rfl : i = 5 := by simpa using hi
      clear hi
      refine wpOp_some rfl (by rfl) (fun K hK => ?_)
      simp only [List.getElem_toArray, List.getElem_cons_succ, List.getElem_cons_zero]
      go_wp2_with fail
      clear t0 t1' t2' f0 f1 f2 tl
      refine ⟨HE5.out, ?_⟩
      refine wpAnyH_done (by kernel_rfl) ?_ _
      obtain ⟨V1, hV1⟩ : ∃ V1 : Later Y6.w, V1.w = ((U4.setCell ⟨T2, 0, none⟩ (.int .i64 n)).setCell ⟨T2, 1, none⟩ (.slice am lm cm)).setCell ⟨T2, 2, none⟩ (.slice ac lc cc) := ⟨⟨_, HB2.out⟩, rfl⟩
      have lq : Lin V1.w T1 25 [.int .i64 n, .slice am lm cm, .slice ac lc cc] := by rw [hV1]; exact HL1.out
      have lr : Lin V1.w T2 25 [.int .i64 n, .slice am lm cm, .slice ac lc cc] := by rw [hV1]; exact HL2.out
      rw [← hV1]
      clear hV1 HL1 HL2 HB2 HE5
      exact key V1 T1 T2 ⟨lq, lr, hT1, hT2, hT12, hb1, hb2⟩
    · refine wpOp_some rfl (by rfl) (fun K hK => ?_)
      simp only [List.getElem_toArray, List.getElem_cons_succ, List.getElem_cons_zero]
      go_wp2_with fail
      obtain ⟨T2, hTae⟩ : ∃ T, T = V9.w.heap.size := ⟨_, rfl⟩
      obtain ⟨A1, hA1⟩ : ∃ A : Later V9.w, A.w = V9.w.alloc (.cells #[.int .i64 0, .slice none 0 0, .slice none 0 0] 25) := ⟨Later.new _ _, rfl⟩
      have k2 : Lin A1.w T2 25 [.int .i64 0, .slice none 0 0, .slice none 0 0] := by rw [hA1, hTae]; exact Lin.new _ _ [.int .i64 0, .slice none 0 0, .slice none 0 0]
      have lE1 := lE.later A1
      rw [← hA1, ← hTae]
      refine ⟨lE1, ?_⟩
      have hT2 : Y6.w.heap.size ≤ T2 := by rw [hTae]; exact V9.size
      clear hA1 hTae
      obtain ⟨T1, hTbe⟩ : ∃ T, T = A1.w.heap.size := ⟨_, rfl⟩
      obtain ⟨A2, hA2⟩ : ∃ A : Later A1.w, A.w = A1.w.alloc (.cells #[.int .i64 0, .slice none 0 0, .slice none 0 0] 25) := ⟨Later.new _ _, rfl⟩
      have k1 : Lin A2.w T1 25 [.int .i64 0, .slice none 0 0, .slice none 0 0] := by rw [hA2, hTbe]; exact Lin.new _ _ [.int .i64 0, .slice none 0 0, .slice none 0 0]
      have lE2 := lE1.later A2
      have HA2 := Lib.hid hA2
      have HTbe := Lib.hid hTbe
      clear hA2 hTbe
      refine wpAnyH_all (rs := [2]) (by kernel_rfl) (by simp) (fun i hi => ?_)
      obtain rfl : i = 2 := by simpa using hi
      clear hi
      refine wpOp_some rfl (by rfl) (fun K hK => ?_)
      simp only [List.getElem_toArray, List.getElem_cons_succ, List.getElem_cons_zero]
      go_wp2_with fail
      rw [← HA2.out, ← HTbe.out]
      refine ⟨lE2, ?_⟩
      have hT1 : Y6.w.heap.size ≤ T1 := by rw [HTbe.out]; exact Nat.le_trans V9.size A1.size
      have hT12 : T1 ≠ T2 := by have := k2.lt; have := HTbe.out; omega
      have hb1 : B1 ≠ T1 := by have := l1.lt; omega
      have hb2 : B1 ≠ T2 := by have := l1.lt; omega
      replace k2 := k2.later A2
      have hB4 : Below Y6.w.heap.size Y6.w A2.w := ((V9.step A1).step A2).le
      have t0 := k1.cell (k := 0) rfl
      have t1' := k1.cell (k := 1) rfl
      have t2' := k1.cell (k := 2) rfl
      have f0 := k1.frozen 0
      have f1 := k1.frozen 1
      have f2 := k1.frozen 2
      have tl := k1.lt
      have HB := Lib.hid (((hB4.setCell (p := ⟨T1, 0, none⟩) hT1 (.int .i64 n)).setCell (p := ⟨T1, 1, none⟩) hT1 (.slice am lm cm)).setCell (p := ⟨T1, 2, none⟩) hT1 (.slice ac lc cc))
      have HK1 := Lib.hid (((k1.set 0 (.int .i64 n)).set 1 (.slice am lm cm)).set 2 (.slice ac lc cc))
      have HK2 := Lib.hid (((k2.other (b := T1) (k := 0) hT12.symm (.int .i64 n)).other (b := T1) (k := 1) hT12.symm (.slice am lm cm)).other (b := T1) (k := 2) hT12.symm (.slice ac lc cc))
      have HE4 := Lib.hid (((lE2.other (b := T1) (k := 0) hb1 (.int .i64 n)).other (b := T1) (k := 1) hb1 (.slice am lm cm)).other (b := T1) (k := 2) hb1 (.slice ac lc cc))
      clear k1 k2 hB4 lE lE1 lE2 HTbe HA2
      refine wpAnyH_all (rs := [4]) (by kernel_rfl) (by simp) (fun i hi => ?_)
      obtain rfl : i = 4 := by simpa using hi
      clear hi
      refine wpOp_some rfl (by rfl) (fun K hK => ?_)
      simp only [List.getElem_toArray, List.getElem_cons_succ, List.getElem_cons_zero]
      go_wp2_with fail
      clear t0 t1' t2' f0 f1 f2 tl
      obtain ⟨U4, hU4⟩ : ∃ U, ((A2.w.setCell ⟨T1, 0, none⟩ (.int .i64 n)).setCell ⟨T1, 1, none⟩ (.slice am lm cm)).setCell ⟨T1, 2, none⟩ (.slice ac lc cc) = U := ⟨_, rfl⟩
      rw [hU4] at HB HK1 HK2 HE4 ⊢
      clear hU4
      refine ⟨HE4.out, ?_⟩
      have k2 := HK2.out
      have t0 := k2.cell (k := 0) rfl
      have t1' := k2.cell (k := 1) rfl
      have t2' := k2.cell (k := 2) rfl
      have f0 := k2.frozen 0
      have f1 := k2.frozen 1
      have f2 := k2.frozen 2
      have tl := k2.lt
      have HB2 := Lib.hid (((HB.out.setCell (p := ⟨T2, 0, none⟩) hT2 (.int .i64 n)).setCell (p := ⟨T2, 1, none⟩) hT2 (.slice am lm cm)).setCell (p := ⟨T2, 2, none⟩) hT2 (.slice ac lc cc))
      have HL1 := Lib.hid (((HK1.out.other (b := T2) (k := 0) hT12 (.int .i64 n)).other (b := T2) (k := 1) hT12 (.slice am lm cm)).other (b := T2) (k := 2) hT12 (.slice ac lc cc))
      have HL2 := Lib.hid (((k2.set 0 (.int .i64 n)).set 1 (.slice am lm cm)).set 2 (.slice ac lc cc))
      have HE5 := Lib.hid (((HE4.out.other (b := T2) (k := 0) hb2 (.int .i64 n)).other (b := T2) (k := 1) hb2 (.slice am lm cm)).other (b := T2) (k := 2) hb2 (.slice ac lc cc))
      clear k2 HK1 HK2 HB HE4
      refine wpAnyH_all (rs := [5]) (by kernel_rfl) (by simp) (fun i hi => ?_)
      obtain rfl : i = 5 := by simpa using hi
      clear hi
      refine wpOp_some rfl (by rfl) (fun K hK => ?_)
      simp only [List.getElem_toArray, List.getElem_cons_succ, List.getElem_cons_zero]
      go_wp2_with fail
      clear t0 t1' t2' f0 f1 f2 tl
      refine ⟨HE5.out, ?_⟩
      refine wpAnyH_done (by kernel_rfl) ?_ _
      obtain ⟨V1, hV1⟩ : ∃ V1 : Later Y6.w, V1.w = ((U4.setCell ⟨T2, 0, none⟩ (.int .i64 n)).setCell ⟨T2, 1, none⟩ (.slice am lm cm)).setCell ⟨T2, 2, none⟩ (.slice ac lc cc) := ⟨⟨_, HB2.out⟩, rfl⟩
      have lq : Lin V1.w T1 25 [.int .i64 n, .slice am lm cm, .slice ac lc cc] := by rw [hV1]; exact HL1.out
      have lr : Lin V1.w T2 25 [.int .i64 n, .slice am lm cm, .slice ac lc cc] := by rw [hV1]; exact HL2.out
      rw [← hV1]
      clear hV1 HL1 HL2 HB2 HE5
      exact key V1 T1 T2 ⟨lq, lr, hT1, hT2, hT12, hb1, hb2⟩
  · intro V1 T1 T2 hall
    obtain ⟨lq, lr, hT1, hT2, hT12, hb1, hb2⟩ := hall
    have lB := l1.later V1
    have lP := l3.later V1
    have p0 := lB.cell (k := 0) rfl
    have pB := lB.lt
    have m0_ := lP.cell (k := 0) rfl
    have m1_ := lP.cell (k := 1) rfl
    have mB := lP.lt
    go_wp2
    refine Mix.region_mixL (Mix.kinds [] [] []) (by kernel_rfl) (by kernel_rfl) ?_
    repeat ((with_reducible refine Mix.atCons ?_); first | refine Mix.skipU (by rfl) rfl (by rfl) ?_ | (refine Mix.val rfl rfl (by rfl) (fun K hK => ?_); go_big_quiet_op; refine hK _ ?_; clear hK K) | (refine Mix.skip (by rfl) ?_; go_frame))
    refine Mix.done (fun x0 => ?_)
    obtain ⟨V2, hV2⟩ : ∃ V : Later Y6.w, V.w = x0.w := ⟨V1.step x0, rfl⟩
    replace lq := lq.later x0
    replace lr := lr.later x0
    rw [← hV2] at lq lr ⊢
    simp only [hav, hbv]
    clear hV2 x0 lB lP p0 pB m0_ m1_ mB
    by_cases hab : a / 2 = b2 / 2
    · have hne : ((a : Int) / 2 != (b2 : Int) / 2) = false := by simp; omega
      have habI : (a : Int) / 2 = (b2 : Int) / 2 := by omega
      clear hml hmn40 han hbn
      obtain ⟨V3, hV3⟩ : ∃ V : Later Y6.w, V.w = V2.w := ⟨V2, rfl⟩
      rw [← hV3] at lq lr ⊢
      clear hV3 V2
      go_wp2
      have lB := l1.later V3
      have p0 := lB.cell (k := 0) rfl
      have p2 := lB.cell (k := 2) rfl
      have pB := lB.lt
      refine Mix.region_mixL (Mix.kinds [0, 10] [3] [11, 12, 13]) (by kernel_rfl) (by kernel_rfl) ?_
      refine Mix.new rfl (by rfl) (fun b => .slice (some ⟨b, 0, none⟩) 0 0) (.cells #[] 3) (fun w => by simp [go_sem]) (fun E0 x1 hE0 hx1 => ?_)
      try go_frame
      repeat ((with_reducible refine Mix.atCons ?_); first | refine Mix.skipU (by rfl) rfl (by rfl) ?_ | (refine Mix.val rfl rfl (by rfl) (fun K hK => ?_); go_big_quiet_op; refine hK _ ?_; clear hK K) | (refine Mix.skip (by rfl) ?_; go_frame))
      refine Mix.loud rfl (by rfl) (fun x2 K2 hK2 => ?_)
      have hE2 : IntsM V3.w.heap.size x2.w (.slice (some ⟨E0, 0, none⟩) 0 0) [] := (IntsM.of_block hE0 hx1).later x2
      obtain ⟨a3, n3, c3, q3, hr3, hA3⟩ := app_emptyM hE2 (((hs.c.later V3).later x1).later x2) (Nat.le_trans x1.size x2.size) (by omega) 23
      refine Lib.wp_append_run_sl _ _ _ 23 rfl _ _ rfl rfl hr3 ?_
      refine hK2 _ q3 ?_
      clear hK2 K2 hr3 hE2
      try go_frame
      repeat ((with_reducible refine Mix.atCons ?_); first | refine Mix.skipU (by rfl) rfl (by rfl) ?_ | (refine Mix.val rfl rfl (by rfl) (fun K hK => ?_); go_big_quiet_op; refine hK _ ?_; clear hK K) | (refine Mix.skip (by rfl) ?_; go_frame))
      simp only [hcv]
      refine Mix.new rfl (by rfl) (fun b => .slice (some ⟨b, 0, none⟩) 1 1) (.cells #[.int .i64 c] 3) (fun w => by simp [go_sem]) (fun E4 x4 hE4 hx4 => ?_)
      try go_frame
      repeat ((with_reducible refine Mix.atCons ?_); first | refine Mix.skipU (by rfl) rfl (by rfl) ?_ | (refine Mix.val rfl rfl (by rfl) (fun K hK => ?_); go_big_quiet_op; refine hK _ ?_; clear hK K) | (refine Mix.skip (by rfl) ?_; go_frame))
      refine Mix.lastR rfl (by rfl) (by decide) (fun x5 K5 hK5 => ?_)
      have hA5 := (hA3.later x4).later x5
      have hs5 : V3.w.heap.size ≤ x5.w.heap.size := Nat.le_trans x1.size (Nat.le_trans x2.size (Nat.le_trans q3.size (Nat.le_trans x4.size x5.size)))
      have hc5 : x5.w.cell? ⟨E4, 0, none⟩ = some (.int .i64 c) := by
        have h1 := (x5.le.block E4 (Array.getElem?_eq_some_iff.1 hx4).1).trans hx4
        simp [World.cell?, h1]
      obtain ⟨v6, w6, hr6, hA6, hg6⟩ := run_app_intM x5.w V3.w.heap.size _ cs E4 1 c hA5 hc5 (Nat.le_refl _) hs5 (by omega) 23
      obtain ⟨a6, n6, c6, rfl⟩ := hA6.form'
      refine Lib.wp_append_run_sl _ _ _ 23 rfl _ _ rfl rfl hr6 ?_
      refine hK5 _ _ ?_
      clear hK5 K5
      have hB6 : Below V3.w.heap.size V3.w w6 := (((((x1.step x2).step q3).step x4).step x5).le).trans (hA5.below hg6 hs5)
      obtain ⟨Z6, hZ6⟩ : ∃ Z : Later V3.w, Z.w = w6 := ⟨⟨w6, hB6⟩, rfl⟩
      rw [← hZ6] at hA6 ⊢
      clear hg6 hB6 hZ6 hr6 hA5 hs5 hc5 hA3 hE4 hx4 hE0 hx1
      try go_frame
      refine Mix.lastR rfl (by rfl) (by decide) (fun x7 K7 hK7 => ?_)
      go_wp2_with fail
      try go_frame
      refine Mix.last rfl (by rfl) (fun x8 K8 hK8 => ?_)
      obtain ⟨Z8, hZ8⟩ : ∃ Z : Later V3.w, Z.w = x8.w := ⟨(Z6.step x7).step x8, rfl⟩
      have hA8 := (hA6.later x7).later x8
      rw [← hZ8] at hA8 ⊢
      clear hZ8 hA6 x8 x7 Z6
      have lq8 := lq.later Z8
      have lr8 := lr.later Z8
      have u2 := lr8.cell (k := 2) rfl
      have g2 := lr8.frozen 2
      have ul := lr8.lt
      have HB8 := Lib.hid (show Below Y6.w.heap.size Y6.w (Z8.w.setCell ⟨T2, 2, none⟩ (.slice a6 n6 c6)) from (V3.step Z8).le.setCell (p := ⟨T2, 2, none⟩) hT2 (.slice a6 n6 c6))
      have HQ8 := Lib.hid (lq8.other (b := T2) (k := 2) hT12 (.slice a6 n6 c6))
      have HR8 := Lib.hid (lr8.set 2 (.slice a6 n6 c6))
      have HA8 := Lib.hid (hA8.past (T := T2) lr.lt 2 (.slice a6 n6 c6))
      clear lq8 lr8 hA8
      go_wp2_with fail
      clear u2 g2 ul
      refine Mix.done (fun x9 => ?_)
      obtain ⟨V8, hV8⟩ : ∃ V : Later Y6.w, V.w = x9.w := ⟨(⟨_, HB8.out⟩ : Later Y6.w).step x9, rfl⟩
      have lq8 := HQ8.out.later x9
      have lr8 := HR8.out.later x9
      have hA8 := HA8.out.later x9
      rw [← hV8] at lq8 lr8 hA8 ⊢
      clear hV8 x9 HQ8 HR8 HA8 HB8 lB p0 p2 pB Z8 lq lr
      have hSx : Sht V8.w (.slice am lm cm) (.slice ac lc cc) ms cs := ⟨hs.m.later V8, hs.c.later V8⟩
      have hSy : Sht V8.w (.slice am lm cm) (.slice a6 n6 c6) ms (cs ++ [(c : Int)]) := ⟨hs.m.later V8, hA8.ints (by simp; omega)⟩
      clear hA8
      replace hs := hs.later V8
      replace l1 := l1.later V8
      replace l3 := l3.later V8
      replace S := S.later V8
      obtain ⟨Y7, hZ⟩ : ∃ Z : Later W, Z.w = V8.w := ⟨Y6.step (V8), rfl⟩
      rw [← hZ] at S hs l1 l3 lq8 lr8 hSx hSy ⊢
      clear hZ
      have hmx : ∀ m ∈ mn, m ∈ mn := fun m hm => hm
      obtain ⟨p, q, r, hp, hq, hr, hqp, hrp, hp1, hn1, hn2, hn3, hse, hfin⟩ := fewer_facts HS.out HS.out HN.out HF0.out HFN.out hmx hcn hcn20 HMS.out (HMS.out) HCS.out
      clear hmx
      have HP_ := Lib.hid hp
      have HQ_ := Lib.hid hq
      have HR_ := Lib.hid hr
      have HN1_ := Lib.hid hn1
      have HN2_ := Lib.hid hn2
      have HN3_ := Lib.hid hn3
      clear hp hq hr hn1 hn2 hn3
      obtain ⟨E, hE⟩ : ∃ E, chnEI n ms cs (natV F) = E := ⟨_, rfl⟩
      rw [hE] at hfin
      have HE := Lib.hid hE
      clear hE
      obtain ⟨G, hG⟩ : ∃ G, setEI n ms cs (natV N) = G := ⟨_, rfl⟩
      rw [hG] at hse
      have HG := Lib.hid hG
      clear hG
      have e1 : decide ((p : Int) < q) = false := decide_eq_false (by omega)
      have e2 : decide ((p : Int) < r) = false := decide_eq_false (by omega)
      rcases hfin with h5 | ⟨h5, hp0, hch⟩
      by_cases hp0 : p = 0
      · subst h5
        rw [if_pos hp0] at hse
        obtain rfl : q = 0 := by omega
        obtain rfl : r = 0 := by omega
        subst hse hp0
        have q0_0 := l1.cell (k := 0) rfl
        have q0_1 := l1.cell (k := 1) rfl
        have q0_2 := l1.cell (k := 2) rfl
        have q0_l := l1.lt
        go_wp2_with fail
        clear q0_0 q0_1 q0_2 q0_l
        refine (Chain_any n _ _ _ ms cs (natV F) _ hs (S.at (v := .slice an2 nn2 cn2) (xs := (natV F)) (by simp))).mono ?_
        rintro e w' ⟨v, y, lq, rfl, rfl, hR, hC, hD⟩
        rw [HE.out] at hC hD ⊢
        clear hC hD
        replace hs := hs.later y
        replace l1 := l1.later y
        replace l3 := l3.later y
        replace lq8 := lq8.later y
        replace lr8 := lr8.later y
        replace hSx := hSx.later y
        replace hSy := hSy.later y
        replace S := S.later y
        obtain ⟨a8, n8, c8, rfl⟩ : ∃ a n c, v = .slice a n c := by obtain ⟨a, c, e⟩ := hR.form; exact ⟨a, _, c, e⟩
        replace S := S.cons hR
        obtain ⟨Y9, hZ⟩ : ∃ Z : Later W, Z.w = y.w := ⟨Y7.step (y), rfl⟩
        rw [← hZ] at S hs l1 l3 lq8 lr8 hSx hSy ⊢
        clear hZ
        clear y hR
        have q0_0 := l1.cell (k := 0) rfl
        have q0_1 := l1.cell (k := 1) rfl
        have q0_2 := l1.cell (k := 2) rfl
        have q0_l := l1.lt
        go_wp2_with fail
        clear q0_0 q0_1 q0_2 q0_l
        refine (Set_any n _ _ _ ms cs (natV N) _ hs (S.at (v := .slice an1 nn1 cn1) (xs := (natV N)) (by simp))).mono ?_
        rintro e w' ⟨v, y, rfl, rfl, hR⟩
        rw [HG.out]
        replace hs := hs.later y
        replace l1 := l1.later y
        replace l3 := l3.later y
        replace lq8 := lq8.later y
        replace lr8 := lr8.later y
        replace hSx := hSx.later y
        replace hSy := hSy.later y
        replace S := S.later y
        obtain ⟨a10, n10, c10, rfl⟩ : ∃ a n c, v = .slice a n c := by obtain ⟨a, c, e⟩ := hR.form; exact ⟨a, _, c, e⟩
        replace S := S.cons hR
        obtain ⟨Y11, hZ⟩ : ∃ Z : Later W, Z.w = y.w := ⟨Y9.step (y), rfl⟩
        rw [← hZ] at S hs l1 l3 lq8 lr8 hSx hSy ⊢
        clear hZ
        clear y hR
        have q0_0 := l1.cell (k := 0) rfl
        have q0_1 := l1.cell (k := 1) rfl
        have q0_2 := l1.cell (k := 2) rfl
        have q0_l := l1.lt
        go_wp2_with fail
        clear q0_0 q0_1 q0_2 q0_l
        refine (Count_any n _ _ _ ms cs (natV N) _ hs (S.at (v := .slice an1 nn1 cn1) (xs := (natV N)) (by simp))).mono ?_
        rintro e w' ⟨rfl, y, rfl⟩
        rw [HP_.out, HN1_.out]
        replace hs := hs.later y
        replace l1 := l1.later y
        replace l3 := l3.later y
        replace lq8 := lq8.later y
        replace lr8 := lr8.later y
        replace hSx := hSx.later y
        replace hSy := hSy.later y
        replace S := S.later y
        obtain ⟨Y12, hZ⟩ : ∃ Z : Later W, Z.w = y.w := ⟨Y11.step (y), rfl⟩
        rw [← hZ] at S hs l1 l3 lq8 lr8 hSx hSy ⊢
        clear hZ
        clear y
        have q0_0 := lq8.cell (k := 0) rfl
        have q0_1 := lq8.cell (k := 1) rfl
        have q0_2 := lq8.cell (k := 2) rfl
        have q0_l := lq8.lt
        go_wp2_with fail
        clear q0_0 q0_1 q0_2 q0_l
        refine (Count_any n _ _ _ ms cs (natV N) _ hSx (S.at (v := .slice an1 nn1 cn1) (xs := (natV N)) (by simp))).mono ?_
        rintro e w' ⟨rfl, y, rfl⟩
        rw [HQ_.out, HN2_.out]
        replace hs := hs.later y
        replace l1 := l1.later y
        replace l3 := l3.later y
        replace lq8 := lq8.later y
        replace lr8 := lr8.later y
        replace hSx := hSx.later y
        replace hSy := hSy.later y
        replace S := S.later y
        obtain ⟨Y13, hZ⟩ : ∃ Z : Later W, Z.w = y.w := ⟨Y12.step (y), rfl⟩
        rw [← hZ] at S hs l1 l3 lq8 lr8 hSx hSy ⊢
        clear hZ
        clear y
        have q0_0 := lr8.cell (k := 0) rfl
        have q0_1 := lr8.cell (k := 1) rfl
        have q0_2 := lr8.cell (k := 2) rfl
        have q0_l := lr8.lt
        go_wp2_with fail
        clear q0_0 q0_1 q0_2 q0_l
        refine (Count_any n _ _ _ ms _ (natV N) _ hSy (S.at (v := .slice an1 nn1 cn1) (xs := (natV N)) (by simp))).mono ?_
        rintro e w' ⟨rfl, y, rfl⟩
        rw [HR_.out, HN3_.out]
        replace hs := hs.later y
        replace l1 := l1.later y
        replace l3 := l3.later y
        replace lq8 := lq8.later y
        replace lr8 := lr8.later y
        replace hSx := hSx.later y
        replace hSy := hSy.later y
        replace S := S.later y
        obtain ⟨Y14, hZ⟩ : ∃ Z : Later W, Z.w = y.w := ⟨Y13.step (y), rfl⟩
        rw [← hZ] at S hs l1 l3 lq8 lr8 hSx hSy ⊢
        clear hZ
        clear y
        go_wp2_with fail
        refine (Works_calls _).mono ?_
        rintro e w' ⟨rfl, y, rfl⟩
        go_wp2
        go_ret
        exact ⟨rfl, Y14.step (y), rfl⟩
      · subst h5
        rw [if_neg hp0] at hse
        have hpp : 0 < p := by omega
        subst hse
        have q0_0 := l1.cell (k := 0) rfl
        have q0_1 := l1.cell (k := 1) rfl
        have q0_2 := l1.cell (k := 2) rfl
        have q0_l := l1.lt
        go_wp2_with fail
        clear q0_0 q0_1 q0_2 q0_l
        refine (Chain_any n _ _ _ ms cs (natV F) _ hs (S.at (v := .slice an2 nn2 cn2) (xs := (natV F)) (by simp))).mono ?_
        rintro e w' ⟨v, y, lq, rfl, rfl, hR, hC, hD⟩
        rw [HE.out] at hC hD ⊢
        clear hC hD
        replace hs := hs.later y
        replace l1 := l1.later y
        replace l3 := l3.later y
        replace lq8 := lq8.later y
        replace lr8 := lr8.later y
        replace hSx := hSx.later y
        replace hSy := hSy.later y
        replace S := S.later y
        obtain ⟨a8, n8, c8, rfl⟩ : ∃ a n c, v = .slice a n c := by obtain ⟨a, c, e⟩ := hR.form; exact ⟨a, _, c, e⟩
        replace S := S.cons hR
        obtain ⟨Y9, hZ⟩ : ∃ Z : Later W, Z.w = y.w := ⟨Y7.step (y), rfl⟩
        rw [← hZ] at S hs l1 l3 lq8 lr8 hSx hSy ⊢
        clear hZ
        clear y hR
        have q0_0 := l1.cell (k := 0) rfl
        have q0_1 := l1.cell (k := 1) rfl
        have q0_2 := l1.cell (k := 2) rfl
        have q0_l := l1.lt
        go_wp2_with fail
        clear q0_0 q0_1 q0_2 q0_l
        refine (Set_any n _ _ _ ms cs (natV N) _ hs (S.at (v := .slice an1 nn1 cn1) (xs := (natV N)) (by simp))).mono ?_
        rintro e w' ⟨v, y, rfl, rfl, hR⟩
        rw [HG.out]
        replace hs := hs.later y
        replace l1 := l1.later y
        replace l3 := l3.later y
        replace lq8 := lq8.later y
        replace lr8 := lr8.later y
        replace hSx := hSx.later y
        replace hSy := hSy.later y
        replace S := S.later y
        obtain ⟨a10, n10, c10, rfl⟩ : ∃ a n c, v = .slice a n c := by obtain ⟨a, c, e⟩ := hR.form; exact ⟨a, _, c, e⟩
        replace S := S.cons hR
        obtain ⟨Y11, hZ⟩ : ∃ Z : Later W, Z.w = y.w := ⟨Y9.step (y), rfl⟩
        rw [← hZ] at S hs l1 l3 lq8 lr8 hSx hSy ⊢
        clear hZ
        clear y hR
        have q0_0 := l1.cell (k := 0) rfl
        have q0_1 := l1.cell (k := 1) rfl
        have q0_2 := l1.cell (k := 2) rfl
        have q0_l := l1.lt
        go_wp2_with fail
        clear q0_0 q0_1 q0_2 q0_l
        refine (Count_any n _ _ _ ms cs (natV N) _ hs (S.at (v := .slice an1 nn1 cn1) (xs := (natV N)) (by simp))).mono ?_
        rintro e w' ⟨rfl, y, rfl⟩
        rw [HP_.out, HN1_.out]
        replace hs := hs.later y
        replace l1 := l1.later y
        replace l3 := l3.later y
        replace lq8 := lq8.later y
        replace lr8 := lr8.later y
        replace hSx := hSx.later y
        replace hSy := hSy.later y
        replace S := S.later y
        obtain ⟨Y12, hZ⟩ : ∃ Z : Later W, Z.w = y.w := ⟨Y11.step (y), rfl⟩
        rw [← hZ] at S hs l1 l3 lq8 lr8 hSx hSy ⊢
        clear hZ
        clear y
        have q0_0 := lq8.cell (k := 0) rfl
        have q0_1 := lq8.cell (k := 1) rfl
        have q0_2 := lq8.cell (k := 2) rfl
        have q0_l := lq8.lt
        go_wp2_with fail
        clear q0_0 q0_1 q0_2 q0_l
        refine (Count_any n _ _ _ ms cs (natV N) _ hSx (S.at (v := .slice an1 nn1 cn1) (xs := (natV N)) (by simp))).mono ?_
        rintro e w' ⟨rfl, y, rfl⟩
        rw [HQ_.out, HN2_.out]
        replace hs := hs.later y
        replace l1 := l1.later y
        replace l3 := l3.later y
        replace lq8 := lq8.later y
        replace lr8 := lr8.later y
        replace hSx := hSx.later y
        replace hSy := hSy.later y
        replace S := S.later y
        obtain ⟨Y13, hZ⟩ : ∃ Z : Later W, Z.w = y.w := ⟨Y12.step (y), rfl⟩
        rw [← hZ] at S hs l1 l3 lq8 lr8 hSx hSy ⊢
        clear hZ
        clear y
        have q0_0 := lr8.cell (k := 0) rfl
        have q0_1 := lr8.cell (k := 1) rfl
        have q0_2 := lr8.cell (k := 2) rfl
        have q0_l := lr8.lt
        go_wp2_with fail
        clear q0_0 q0_1 q0_2 q0_l
        refine (Count_any n _ _ _ ms _ (natV N) _ hSy (S.at (v := .slice an1 nn1 cn1) (xs := (natV N)) (by simp))).mono ?_
        rintro e w' ⟨rfl, y, rfl⟩
        rw [HR_.out, HN3_.out]
        replace hs := hs.later y
        replace l1 := l1.later y
        replace l3 := l3.later y
        replace lq8 := lq8.later y
        replace lr8 := lr8.later y
        replace hSx := hSx.later y
        replace hSy := hSy.later y
        replace S := S.later y
        obtain ⟨Y14, hZ⟩ : ∃ Z : Later W, Z.w = y.w := ⟨Y13.step (y), rfl⟩
        rw [← hZ] at S hs l1 l3 lq8 lr8 hSx hSy ⊢
        clear hZ
        clear y
        go_wp2_with fail
        refine (Works_calls _).mono ?_
        rintro e w' ⟨rfl, y, rfl⟩
        go_wp2
        go_ret
        exact ⟨rfl, Y14.step (y), rfl⟩
      · subst h5
        rw [if_pos hp0] at hse
        obtain rfl : q = 0 := by omega
        obtain rfl : r = 0 := by omega
        subst hse hp0
        have HCH := Lib.hid hch
        clear hch
        have q0_0 := l1.cell (k := 0) rfl
        have q0_1 := l1.cell (k := 1) rfl
        have q0_2 := l1.cell (k := 2) rfl
        have q0_l := l1.lt
        go_wp2_with fail
        clear q0_0 q0_1 q0_2 q0_l
        refine (Chain_any n _ _ _ ms cs (natV F) _ hs (S.at (v := .slice an2 nn2 cn2) (xs := (natV F)) (by simp))).mono ?_
        rintro e w' ⟨v, y, lq, rfl, rfl, hR, hC, hD⟩
        rw [HE.out] at hC hD ⊢
        have HCK := Lib.hid (HCH.out _ (hC rfl).1)
        clear hC hD
        replace hs := hs.later y
        replace l1 := l1.later y
        replace l3 := l3.later y
        replace lq8 := lq8.later y
        replace lr8 := lr8.later y
        replace hSx := hSx.later y
        replace hSy := hSy.later y
        replace S := S.later y
        obtain ⟨a8, n8, c8, rfl⟩ : ∃ a n c, v = .slice a n c := by obtain ⟨a, c, e⟩ := hR.form; exact ⟨a, _, c, e⟩
        replace S := S.cons hR
        obtain ⟨Y9, hZ⟩ : ∃ Z : Later W, Z.w = y.w := ⟨Y7.step (y), rfl⟩
        rw [← hZ] at S hs l1 l3 lq8 lr8 hSx hSy ⊢
        clear hZ
        clear y hR
        have q0_0 := l1.cell (k := 0) rfl
        have q0_1 := l1.cell (k := 1) rfl
        have q0_2 := l1.cell (k := 2) rfl
        have q0_l := l1.lt
        go_wp2_with fail
        clear q0_0 q0_1 q0_2 q0_l
        refine (Set_any n _ _ _ ms cs (natV N) _ hs (S.at (v := .slice an1 nn1 cn1) (xs := (natV N)) (by simp))).mono ?_
        rintro e w' ⟨v, y, rfl, rfl, hR⟩
        rw [HG.out]
        replace hs := hs.later y
        replace l1 := l1.later y
        replace l3 := l3.later y
        replace lq8 := lq8.later y
        replace lr8 := lr8.later y
        replace hSx := hSx.later y
        replace hSy := hSy.later y
        replace S := S.later y
        obtain ⟨a10, n10, c10, rfl⟩ : ∃ a n c, v = .slice a n c := by obtain ⟨a, c, e⟩ := hR.form; exact ⟨a, _, c, e⟩
        replace S := S.cons hR
        obtain ⟨Y11, hZ⟩ : ∃ Z : Later W, Z.w = y.w := ⟨Y9.step (y), rfl⟩
        rw [← hZ] at S hs l1 l3 lq8 lr8 hSx hSy ⊢
        clear hZ
        clear y hR
        have q0_0 := l1.cell (k := 0) rfl
        have q0_1 := l1.cell (k := 1) rfl
        have q0_2 := l1.cell (k := 2) rfl
        have q0_l := l1.lt
        go_wp2_with fail
        clear q0_0 q0_1 q0_2 q0_l
        refine (Count_any n _ _ _ ms cs (natV N) _ hs (S.at (v := .slice an1 nn1 cn1) (xs := (natV N)) (by simp))).mono ?_
        rintro e w' ⟨rfl, y, rfl⟩
        rw [HP_.out, HN1_.out]
        replace hs := hs.later y
        replace l1 := l1.later y
        replace l3 := l3.later y
        replace lq8 := lq8.later y
        replace lr8 := lr8.later y
        replace hSx := hSx.later y
        replace hSy := hSy.later y
        replace S := S.later y
        obtain ⟨Y12, hZ⟩ : ∃ Z : Later W, Z.w = y.w := ⟨Y11.step (y), rfl⟩
        rw [← hZ] at S hs l1 l3 lq8 lr8 hSx hSy ⊢
        clear hZ
        clear y
        have q0_0 := lq8.cell (k := 0) rfl
        have q0_1 := lq8.cell (k := 1) rfl
        have q0_2 := lq8.cell (k := 2) rfl
        have q0_l := lq8.lt
        go_wp2_with fail
        clear q0_0 q0_1 q0_2 q0_l
        refine (Count_any n _ _ _ ms cs (natV N) _ hSx (S.at (v := .slice an1 nn1 cn1) (xs := (natV N)) (by simp))).mono ?_
        rintro e w' ⟨rfl, y, rfl⟩
        rw [HQ_.out, HN2_.out]
        replace hs := hs.later y
        replace l1 := l1.later y
        replace l3 := l3.later y
        replace lq8 := lq8.later y
        replace lr8 := lr8.later y
        replace hSx := hSx.later y
        replace hSy := hSy.later y
        replace S := S.later y
        obtain ⟨Y13, hZ⟩ : ∃ Z : Later W, Z.w = y.w := ⟨Y12.step (y), rfl⟩
        rw [← hZ] at S hs l1 l3 lq8 lr8 hSx hSy ⊢
        clear hZ
        clear y
        have q0_0 := lr8.cell (k := 0) rfl
        have q0_1 := lr8.cell (k := 1) rfl
        have q0_2 := lr8.cell (k := 2) rfl
        have q0_l := lr8.lt
        go_wp2_with fail
        clear q0_0 q0_1 q0_2 q0_l
        refine (Count_any n _ _ _ ms _ (natV N) _ hSy (S.at (v := .slice an1 nn1 cn1) (xs := (natV N)) (by simp))).mono ?_
        rintro e w' ⟨rfl, y, rfl⟩
        rw [HR_.out, HN3_.out]
        replace hs := hs.later y
        replace l1 := l1.later y
        replace l3 := l3.later y
        replace lq8 := lq8.later y
        replace lr8 := lr8.later y
        replace hSx := hSx.later y
        replace hSy := hSy.later y
        replace S := S.later y
        obtain ⟨Y14, hZ⟩ : ∃ Z : Later W, Z.w = y.w := ⟨Y13.step (y), rfl⟩
        rw [← hZ] at S hs l1 l3 lq8 lr8 hSx hSy ⊢
        clear hZ
        clear y
        have q0_0 := l1.cell (k := 0) rfl
        have q0_1 := l1.cell (k := 1) rfl
        have q0_2 := l1.cell (k := 2) rfl
        have q0_l := l1.lt
        go_wp2_with fail
        clear q0_0 q0_1 q0_2 q0_l
        refine (CheckChain_any n _ _ _ ms cs (natV N) _ hs (S.at (v := .slice an1 nn1 cn1) (xs := (natV N)) (by simp)) _ lq (S.at (v := .slice a8 n8 c8) (xs := lq) (by simp))).mono ?_
        rintro e w' ⟨rfl, y, rfl⟩
        rw [HCK.out.1]
        replace hs := hs.later y
        replace l1 := l1.later y
        replace l3 := l3.later y
        replace lq8 := lq8.later y
        replace lr8 := lr8.later y
        replace hSx := hSx.later y
        replace hSy := hSy.later y
        replace S := S.later y
        obtain ⟨Y15, hZ⟩ : ∃ Z : Later W, Z.w = y.w := ⟨Y14.step (y), rfl⟩
        rw [← hZ] at S hs l1 l3 lq8 lr8 hSx hSy ⊢
        clear hZ
        clear y
        have q0_0 := lq8.cell (k := 0) rfl
        have q0_1 := lq8.cell (k := 1) rfl
        have q0_2 := lq8.cell (k := 2) rfl
        have q0_l := lq8.lt
        go_wp2_with fail
        clear q0_0 q0_1 q0_2 q0_l
        refine (CheckChain_any n _ _ _ ms cs (natV F) _ hSx (S.at (v := .slice an2 nn2 cn2) (xs := (natV F)) (by simp)) _ lq (S.at (v := .slice a8 n8 c8) (xs := lq) (by simp))).mono ?_
        rintro e w' ⟨rfl, y, rfl⟩
        rw [HCK.out.2.1]
        replace hs := hs.later y
        replace l1 := l1.later y
        replace l3 := l3.later y
        replace lq8 := lq8.later y
        replace lr8 := lr8.later y
        replace hSx := hSx.later y
        replace hSy := hSy.later y
        replace S := S.later y
        obtain ⟨Y16, hZ⟩ : ∃ Z : Later W, Z.w = y.w := ⟨Y15.step (y), rfl⟩
        rw [← hZ] at S hs l1 l3 lq8 lr8 hSx hSy ⊢
        clear hZ
        clear y
        have q0_0 := lr8.cell (k := 0) rfl
        have q0_1 := lr8.cell (k := 1) rfl
        have q0_2 := lr8.cell (k := 2) rfl
        have q0_l := lr8.lt
        go_wp2_with fail
        clear q0_0 q0_1 q0_2 q0_l
        refine (CheckChain_any n _ _ _ ms _ (natV F) _ hSy (S.at (v := .slice an2 nn2 cn2) (xs := (natV F)) (by simp)) _ lq (S.at (v := .slice a8 n8 c8) (xs := lq) (by simp))).mono ?_
        rintro e w' ⟨rfl, y, rfl⟩
        rw [HCK.out.2.2]
        replace hs := hs.later y
        replace l1 := l1.later y
        replace l3 := l3.later y
        replace lq8 := lq8.later y
        replace lr8 := lr8.later y
        replace hSx := hSx.later y
        replace hSy := hSy.later y
        replace S := S.later y
        obtain ⟨Y17, hZ⟩ : ∃ Z : Later W, Z.w = y.w := ⟨Y16.step (y), rfl⟩
        rw [← hZ] at S hs l1 l3 lq8 lr8 hSx hSy ⊢
        clear hZ
        clear y
        go_wp2_with fail
        refine (Works_calls _).mono ?_
        rintro e w' ⟨rfl, y, rfl⟩
        go_wp2
        go_ret
        exact ⟨rfl, Y17.step (y), rfl⟩
    · have hne : ((a : Int) / 2 != (b2 : Int) / 2) = true := by simp; omega
      have HAB := Lib.hid hab
      clear hab
      have hA1 := PrsM.empty V2.w (lo := V2.w.heap.size) rfl (Nat.le_refl _)
      have hO1 := (hs.m.later V2).later (Later.new V2.w (.cells #[] 55))
      rw [Later.new_w] at hO1
      obtain ⟨v1', q1, hr1, hA2, -⟩ := app_prs_step (W := V2.w) (Later.new V2.w (.cells #[] 55)).le hA1 hO1 (by simp; omega) 22
      obtain ⟨a1', n1', c1', rfl⟩ := hA2.form'
      rw [List.nil_append] at hA2
      obtain ⟨v2', q2, hr2, hA3, -⟩ := app_pair_step (W := V2.w) q1.le hA2 (a : Int) (b2 : Int) (by omega) 22
      obtain ⟨a2, n2, c2, rfl⟩ := hA3.form'
      have HR1 := Lib.hid hr1
      have HR2 := Lib.hid hr2
      clear hr1 hr2 hA1 hO1 hA2
      have lB := l1.later V2
      have p1 := lB.cell (k := 1) rfl
      have pB := lB.lt
      have lq2 := lq.later q2
      have t1' := lq2.cell (k := 1) rfl
      have f1 := lq2.frozen 1
      have tl := lq2.lt
      have HB3 := Lib.hid (show Below Y6.w.heap.size Y6.w (q2.w.setCell ⟨T1, 1, none⟩ (.slice a2 n2 c2)) from (V2.step q2).le.setCell (p := ⟨T1, 1, none⟩) hT1 (.slice a2 n2 c2))
      have HQ3 := Lib.hid (lq2.set 1 (.slice a2 n2 c2))
      have HR3 := Lib.hid ((lr.later q2).other (b := T1) (k := 1) hT12.symm (.slice a2 n2 c2))
      have HP3 := Lib.hid (hA3.past (T := T1) lq.lt 1 (.slice a2 n2 c2))
      have hTP := lr.lt
      clear hA3 lq2
      go_wp2_with (first | ((with_reducible show wpList _ _ _ (⟨some 75, _, _, _, _, _⟩ :: _) _ _); refine Lib.wpList_append_run_sl _ rfl _ _ 22 rfl _ _ rfl rfl HR1.out ?_) | ((with_reducible show wpList _ _ _ (⟨some 80, _, _, _, _, _⟩ :: _) _ _); refine Lib.wpList_append_run_sl _ rfl _ _ 22 rfl _ _ rfl rfl HR2.out ?_))
      obtain ⟨V3, hV3⟩ : ∃ V : Later Y6.w, V.w = (q2.w.setCell ⟨T1, 1, none⟩ (.slice a2 n2 c2)) := ⟨⟨_, HB3.out⟩, rfl⟩
      have lq := HQ3.out
      have lr := HR3.out
      have hP3 := HP3.out
      rw [← hV3] at lq lr hP3 ⊢
      clear hV3 HB3 HQ3 HR3 HP3 HR1 HR2 lB p1 pB t1' f1 tl
      go_wp2
      have lB := l1.later V3
      have p0 := lB.cell (k := 0) rfl
      have p2 := lB.cell (k := 2) rfl
      have pB := lB.lt
      refine Mix.region_mixL (Mix.kinds [0, 10] [3] [11, 12, 13]) (by kernel_rfl) (by kernel_rfl) ?_
      refine Mix.new rfl (by rfl) (fun b => .slice (some ⟨b, 0, none⟩) 0 0) (.cells #[] 3) (fun w => by simp [go_sem]) (fun E0 x1 hE0 hx1 => ?_)
      try go_frame
      repeat ((with_reducible refine Mix.atCons ?_); first | refine Mix.skipU (by rfl) rfl (by rfl) ?_ | (refine Mix.val rfl rfl (by rfl) (fun K hK => ?_); go_big_quiet_op; refine hK _ ?_; clear hK K) | (refine Mix.skip (by rfl) ?_; go_frame))
      refine Mix.loud rfl (by rfl) (fun x2 K2 hK2 => ?_)
      have hE2 : IntsM V3.w.heap.size x2.w (.slice (some ⟨E0, 0, none⟩) 0 0) [] := (IntsM.of_block hE0 hx1).later x2
      obtain ⟨a3, n3, c3, q3, hr3, hA3⟩ := app_emptyM hE2 (((hs.c.later V3).later x1).later x2) (Nat.le_trans x1.size x2.size) (by omega) 23
      refine Lib.wp_append_run_sl _ _ _ 23 rfl _ _ rfl rfl hr3 ?_
      refine hK2 _ q3 ?_
      clear hK2 K2 hr3 hE2
      try go_frame
      repeat ((with_reducible refine Mix.atCons ?_); first | refine Mix.skipU (by rfl) rfl (by rfl) ?_ | (refine Mix.val rfl rfl (by rfl) (fun K hK => ?_); go_big_quiet_op; refine hK _ ?_; clear hK K) | (refine Mix.skip (by rfl) ?_; go_frame))
      simp only [hcv]
      refine Mix.new rfl (by rfl) (fun b => .slice (some ⟨b, 0, none⟩) 1 1) (.cells #[.int .i64 c] 3) (fun w => by simp [go_sem]) (fun E4 x4 hE4 hx4 => ?_)
      try go_frame
      repeat ((with_reducible refine Mix.atCons ?_); first | refine Mix.skipU (by rfl) rfl (by rfl) ?_ | (refine Mix.val rfl rfl (by rfl) (fun K hK => ?_); go_big_quiet_op; refine hK _ ?_; clear hK K) | (refine Mix.skip (by rfl) ?_; go_frame))
      refine Mix.lastR rfl (by rfl) (by decide) (fun x5 K5 hK5 => ?_)
      have hA5 := (hA3.later x4).later x5
      have hs5 : V3.w.heap.size ≤ x5.w.heap.size := Nat.le_trans x1.size (Nat.le_trans x2.size (Nat.le_trans q3.size (Nat.le_trans x4.size x5.size)))
      have hc5 : x5.w.cell? ⟨E4, 0, none⟩ = some (.int .i64 c) := by
        have h1 := (x5.le.block E4 (Array.getElem?_eq_some_iff.1 hx4).1).trans hx4
        simp [World.cell?, h1]
      obtain ⟨v6, w6, hr6, hA6, hg6⟩ := run_app_intM x5.w V3.w.heap.size _ cs E4 1 c hA5 hc5 (Nat.le_refl _) hs5 (by omega) 23
      obtain ⟨a6, n6, c6, rfl⟩ := hA6.form'
      refine Lib.wp_append_run_sl _ _ _ 23 rfl _ _ rfl rfl hr6 ?_
      refine hK5 _ _ ?_
      clear hK5 K5
      have hB6 : Below V3.w.heap.size V3.w w6 := (((((x1.step x2).step q3).step x4).step x5).le).trans (hA5.below hg6 hs5)
      obtain ⟨Z6, hZ6⟩ : ∃ Z : Later V3.w, Z.w = w6 := ⟨⟨w6, hB6⟩, rfl⟩
      rw [← hZ6] at hA6 ⊢
      clear hg6 hB6 hZ6 hr6 hA5 hs5 hc5 hA3 hE4 hx4 hE0 hx1
      try go_frame
      refine Mix.lastR rfl (by rfl) (by decide) (fun x7 K7 hK7 => ?_)
      go_wp2_with fail
      try go_frame
      refine Mix.last rfl (by rfl) (fun x8 K8 hK8 => ?_)
      obtain ⟨Z8, hZ8⟩ : ∃ Z : Later V3.w, Z.w = x8.w := ⟨(Z6.step x7).step x8, rfl⟩
      have hA8 := (hA6.later x7).later x8
      rw [← hZ8] at hA8 ⊢
      clear hZ8 hA6 x8 x7 Z6
      have lq8 := lq.later Z8
      have lr8 := lr.later Z8
      have u2 := lr8.cell (k := 2) rfl
      have g2 := lr8.frozen 2
      have ul := lr8.lt
      have HB8 := Lib.hid (show Below Y6.w.heap.size Y6.w (Z8.w.setCell ⟨T2, 2, none⟩ (.slice a6 n6 c6)) from (V3.step Z8).le.setCell (p := ⟨T2, 2, none⟩) hT2 (.slice a6 n6 c6))
      have HQ8 := Lib.hid (lq8.other (b := T2) (k := 2) hT12 (.slice a6 n6 c6))
      have HR8 := Lib.hid (lr8.set 2 (.slice a6 n6 c6))
      have HA8 := Lib.hid (hA8.past (T := T2) lr.lt 2 (.slice a6 n6 c6))
      have HP8 := Lib.hid ((hP3.later Z8).past (T := T2) hTP 2 (.slice a6 n6 c6))
      clear lq8 lr8 hA8
      go_wp2_with fail
      clear u2 g2 ul
      refine Mix.done (fun x9 => ?_)
      obtain ⟨V8, hV8⟩ : ∃ V : Later Y6.w, V.w = x9.w := ⟨(⟨_, HB8.out⟩ : Later Y6.w).step x9, rfl⟩
      have lq8 := HQ8.out.later x9
      have lr8 := HR8.out.later x9
      have hA8 := HA8.out.later x9
      rw [← hV8] at lq8 lr8 hA8 ⊢
      have hP8 := HP8.out.later x9
      rw [← hV8] at hP8
      clear HP8 hP3
      clear hV8 x9 HQ8 HR8 HA8 HB8 lB p0 p2 pB Z8 lq lr
      have hSx : Sht V8.w (.slice a2 n2 c2) (.slice ac lc cc) (ms ++ [((a : Int), (b2 : Int))]) cs := ⟨hP8.prs (by simp; omega), hs.c.later V8⟩
      have hSy : Sht V8.w (.slice am lm cm) (.slice a6 n6 c6) ms (cs ++ [(c : Int)]) := ⟨hs.m.later V8, hA8.ints (by simp; omega)⟩
      clear hA8 hP8
      replace hs := hs.later V8
      replace l1 := l1.later V8
      replace l3 := l3.later V8
      replace S := S.later V8
      obtain ⟨Y7, hZ⟩ : ∃ Z : Later W, Z.w = V8.w := ⟨Y6.step (V8), rfl⟩
      rw [← hZ] at S hs l1 l3 lq8 lr8 hSx hSy ⊢
      clear hZ
      have hmx : ∀ m ∈ mn, m ∈ mn ++ [(a, b2)] := fun m hm => by simp [hm]
      obtain ⟨p, q, r, hp, hq, hr, hqp, hrp, hp1, hn1, hn2, hn3, hse, hfin⟩ := fewer_facts HS.out (HS.out.meetMore han hbn HAB.out hmn40) HN.out HF0.out HFN.out hmx hcn hcn20 HMS.out (show ms ++ [((a : Int), (b2 : Int))] = (mn ++ [(a, b2)]).map prI by rw [HMS.out]; simp [prI]) HCS.out
      clear hmx
      have HP_ := Lib.hid hp
      have HQ_ := Lib.hid hq
      have HR_ := Lib.hid hr
      have HN1_ := Lib.hid hn1
      have HN2_ := Lib.hid hn2
      have HN3_ := Lib.hid hn3
      clear hp hq hr hn1 hn2 hn3
      obtain ⟨E, hE⟩ : ∃ E, chnEI n ms cs (natV F) = E := ⟨_, rfl⟩
      rw [hE] at hfin
      have HE := Lib.hid hE
      clear hE
      obtain ⟨G, hG⟩ : ∃ G, setEI n ms cs (natV N) = G := ⟨_, rfl⟩
      rw [hG] at hse
      have HG := Lib.hid hG
      clear hG
      have e1 : decide ((p : Int) < q) = false := decide_eq_false (by omega)
      have e2 : decide ((p : Int) < r) = false := decide_eq_false (by omega)
      rcases hfin with h5 | ⟨h5, hp0, hch⟩
      by_cases hp0 : p = 0
      · subst h5
        rw [if_pos hp0] at hse
        obtain rfl : q = 0 := by omega
        obtain rfl : r = 0 := by omega
        subst hse hp0
        have q0_0 := l1.cell (k := 0) rfl
        have q0_1 := l1.cell (k := 1) rfl
        have q0_2 := l1.cell (k := 2) rfl
        have q0_l := l1.lt
        go_wp2_with fail
        clear q0_0 q0_1 q0_2 q0_l
        refine (Chain_any n _ _ _ ms cs (natV F) _ hs (S.at (v := .slice an2 nn2 cn2) (xs := (natV F)) (by simp))).mono ?_
        rintro e w' ⟨v, y, lq, rfl, rfl, hR, hC, hD⟩
        rw [HE.out] at hC hD ⊢
        clear hC hD
        replace hs := hs.later y
        replace l1 := l1.later y
        replace l3 := l3.later y
        replace lq8 := lq8.later y
        replace lr8 := lr8.later y
        replace hSx := hSx.later y
        replace hSy := hSy.later y
        replace S := S.later y
        obtain ⟨a8, n8, c8, rfl⟩ : ∃ a n c, v = .slice a n c := by obtain ⟨a, c, e⟩ := hR.form; exact ⟨a, _, c, e⟩
        replace S := S.cons hR
        obtain ⟨Y9, hZ⟩ : ∃ Z : Later W, Z.w = y.w := ⟨Y7.step (y), rfl⟩
        rw [← hZ] at S hs l1 l3 lq8 lr8 hSx hSy ⊢
        clear hZ
        clear y hR
        have q0_0 := l1.cell (k := 0) rfl
        have q0_1 := l1.cell (k := 1) rfl
        have q0_2 := l1.cell (k := 2) rfl
        have q0_l := l1.lt
        go_wp2_with fail
        clear q0_0 q0_1 q0_2 q0_l
        refine (Set_any n _ _ _ ms cs (natV N) _ hs (S.at (v := .slice an1 nn1 cn1) (xs := (natV N)) (by simp))).mono ?_
        rintro e w' ⟨v, y, rfl, rfl, hR⟩
        rw [HG.out]
        replace hs := hs.later y
        replace l1 := l1.later y
        replace l3 := l3.later y
        replace lq8 := lq8.later y
        replace lr8 := lr8.later y
        replace hSx := hSx.later y
        replace hSy := hSy.later y
        replace S := S.later y
        obtain ⟨a10, n10, c10, rfl⟩ : ∃ a n c, v = .slice a n c := by obtain ⟨a, c, e⟩ := hR.form; exact ⟨a, _, c, e⟩
        replace S := S.cons hR
        obtain ⟨Y11, hZ⟩ : ∃ Z : Later W, Z.w = y.w := ⟨Y9.step (y), rfl⟩
        rw [← hZ] at S hs l1 l3 lq8 lr8 hSx hSy ⊢
        clear hZ
        clear y hR
        have q0_0 := l1.cell (k := 0) rfl
        have q0_1 := l1.cell (k := 1) rfl
        have q0_2 := l1.cell (k := 2) rfl
        have q0_l := l1.lt
        go_wp2_with fail
        clear q0_0 q0_1 q0_2 q0_l
        refine (Count_any n _ _ _ ms cs (natV N) _ hs (S.at (v := .slice an1 nn1 cn1) (xs := (natV N)) (by simp))).mono ?_
        rintro e w' ⟨rfl, y, rfl⟩
        rw [HP_.out, HN1_.out]
        replace hs := hs.later y
        replace l1 := l1.later y
        replace l3 := l3.later y
        replace lq8 := lq8.later y
        replace lr8 := lr8.later y
        replace hSx := hSx.later y
        replace hSy := hSy.later y
        replace S := S.later y
        obtain ⟨Y12, hZ⟩ : ∃ Z : Later W, Z.w = y.w := ⟨Y11.step (y), rfl⟩
        rw [← hZ] at S hs l1 l3 lq8 lr8 hSx hSy ⊢
        clear hZ
        clear y
        have q0_0 := lq8.cell (k := 0) rfl
        have q0_1 := lq8.cell (k := 1) rfl
        have q0_2 := lq8.cell (k := 2) rfl
        have q0_l := lq8.lt
        go_wp2_with fail
        clear q0_0 q0_1 q0_2 q0_l
        refine (Count_any n _ _ _ (ms ++ [((a : Int), (b2 : Int))]) cs (natV N) _ hSx (S.at (v := .slice an1 nn1 cn1) (xs := (natV N)) (by simp))).mono ?_
        rintro e w' ⟨rfl, y, rfl⟩
        rw [HQ_.out, HN2_.out]
        replace hs := hs.later y
        replace l1 := l1.later y
        replace l3 := l3.later y
        replace lq8 := lq8.later y
        replace lr8 := lr8.later y
        replace hSx := hSx.later y
        replace hSy := hSy.later y
        replace S := S.later y
        obtain ⟨Y13, hZ⟩ : ∃ Z : Later W, Z.w = y.w := ⟨Y12.step (y), rfl⟩
        rw [← hZ] at S hs l1 l3 lq8 lr8 hSx hSy ⊢
        clear hZ
        clear y
        have q0_0 := lr8.cell (k := 0) rfl
        have q0_1 := lr8.cell (k := 1) rfl
        have q0_2 := lr8.cell (k := 2) rfl
        have q0_l := lr8.lt
        go_wp2_with fail
        clear q0_0 q0_1 q0_2 q0_l
        refine (Count_any n _ _ _ ms _ (natV N) _ hSy (S.at (v := .slice an1 nn1 cn1) (xs := (natV N)) (by simp))).mono ?_
        rintro e w' ⟨rfl, y, rfl⟩
        rw [HR_.out, HN3_.out]
        replace hs := hs.later y
        replace l1 := l1.later y
        replace l3 := l3.later y
        replace lq8 := lq8.later y
        replace lr8 := lr8.later y
        replace hSx := hSx.later y
        replace hSy := hSy.later y
        replace S := S.later y
        obtain ⟨Y14, hZ⟩ : ∃ Z : Later W, Z.w = y.w := ⟨Y13.step (y), rfl⟩
        rw [← hZ] at S hs l1 l3 lq8 lr8 hSx hSy ⊢
        clear hZ
        clear y
        go_wp2_with fail
        refine (Works_calls _).mono ?_
        rintro e w' ⟨rfl, y, rfl⟩
        go_wp2
        go_ret
        exact ⟨rfl, Y14.step (y), rfl⟩
      · subst h5
        rw [if_neg hp0] at hse
        have hpp : 0 < p := by omega
        subst hse
        have q0_0 := l1.cell (k := 0) rfl
        have q0_1 := l1.cell (k := 1) rfl
        have q0_2 := l1.cell (k := 2) rfl
        have q0_l := l1.lt
        go_wp2_with fail
        clear q0_0 q0_1 q0_2 q0_l
        refine (Chain_any n _ _ _ ms cs (natV F) _ hs (S.at (v := .slice an2 nn2 cn2) (xs := (natV F)) (by simp))).mono ?_
        rintro e w' ⟨v, y, lq, rfl, rfl, hR, hC, hD⟩
        rw [HE.out] at hC hD ⊢
        clear hC hD
        replace hs := hs.later y
        replace l1 := l1.later y
        replace l3 := l3.later y
        replace lq8 := lq8.later y
        replace lr8 := lr8.later y
        replace hSx := hSx.later y
        replace hSy := hSy.later y
        replace S := S.later y
        obtain ⟨a8, n8, c8, rfl⟩ : ∃ a n c, v = .slice a n c := by obtain ⟨a, c, e⟩ := hR.form; exact ⟨a, _, c, e⟩
        replace S := S.cons hR
        obtain ⟨Y9, hZ⟩ : ∃ Z : Later W, Z.w = y.w := ⟨Y7.step (y), rfl⟩
        rw [← hZ] at S hs l1 l3 lq8 lr8 hSx hSy ⊢
        clear hZ
        clear y hR
        have q0_0 := l1.cell (k := 0) rfl
        have q0_1 := l1.cell (k := 1) rfl
        have q0_2 := l1.cell (k := 2) rfl
        have q0_l := l1.lt
        go_wp2_with fail
        clear q0_0 q0_1 q0_2 q0_l
        refine (Set_any n _ _ _ ms cs (natV N) _ hs (S.at (v := .slice an1 nn1 cn1) (xs := (natV N)) (by simp))).mono ?_
        rintro e w' ⟨v, y, rfl, rfl, hR⟩
        rw [HG.out]
        replace hs := hs.later y
        replace l1 := l1.later y
        replace l3 := l3.later y
        replace lq8 := lq8.later y
        replace lr8 := lr8.later y
        replace hSx := hSx.later y
        replace hSy := hSy.later y
        replace S := S.later y
        obtain ⟨a10, n10, c10, rfl⟩ : ∃ a n c, v = .slice a n c := by obtain ⟨a, c, e⟩ := hR.form; exact ⟨a, _, c, e⟩
        replace S := S.cons hR
        obtain ⟨Y11, hZ⟩ : ∃ Z : Later W, Z.w = y.w := ⟨Y9.step (y), rfl⟩
        rw [← hZ] at S hs l1 l3 lq8 lr8 hSx hSy ⊢
        clear hZ
        clear y hR
        have q0_0 := l1.cell (k := 0) rfl
        have q0_1 := l1.cell (k := 1) rfl
        have q0_2 := l1.cell (k := 2) rfl
        have q0_l := l1.lt
        go_wp2_with fail
        clear q0_0 q0_1 q0_2 q0_l
        refine (Count_any n _ _ _ ms cs (natV N) _ hs (S.at (v := .slice an1 nn1 cn1) (xs := (natV N)) (by simp))).mono ?_
        rintro e w' ⟨rfl, y, rfl⟩
        rw [HP_.out, HN1_.out]
        replace hs := hs.later y
        replace l1 := l1.later y
        replace l3 := l3.later y
        replace lq8 := lq8.later y
        replace lr8 := lr8.later y
        replace hSx := hSx.later y
        replace hSy := hSy.later y
        replace S := S.later y
        obtain ⟨Y12, hZ⟩ : ∃ Z : Later W, Z.w = y.w := ⟨Y11.step (y), rfl⟩
        rw [← hZ] at S hs l1 l3 lq8 lr8 hSx hSy ⊢
        clear hZ
        clear y
        have q0_0 := lq8.cell (k := 0) rfl
        have q0_1 := lq8.cell (k := 1) rfl
        have q0_2 := lq8.cell (k := 2) rfl
        have q0_l := lq8.lt
        go_wp2_with fail
        clear q0_0 q0_1 q0_2 q0_l
        refine (Count_any n _ _ _ (ms ++ [((a : Int), (b2 : Int))]) cs (natV N) _ hSx (S.at (v := .slice an1 nn1 cn1) (xs := (natV N)) (by simp))).mono ?_
        rintro e w' ⟨rfl, y, rfl⟩
        rw [HQ_.out, HN2_.out]
        replace hs := hs.later y
        replace l1 := l1.later y
        replace l3 := l3.later y
        replace lq8 := lq8.later y
        replace lr8 := lr8.later y
        replace hSx := hSx.later y
        replace hSy := hSy.later y
        replace S := S.later y
        obtain ⟨Y13, hZ⟩ : ∃ Z : Later W, Z.w = y.w := ⟨Y12.step (y), rfl⟩
        rw [← hZ] at S hs l1 l3 lq8 lr8 hSx hSy ⊢
        clear hZ
        clear y
        have q0_0 := lr8.cell (k := 0) rfl
        have q0_1 := lr8.cell (k := 1) rfl
        have q0_2 := lr8.cell (k := 2) rfl
        have q0_l := lr8.lt
        go_wp2_with fail
        clear q0_0 q0_1 q0_2 q0_l
        refine (Count_any n _ _ _ ms _ (natV N) _ hSy (S.at (v := .slice an1 nn1 cn1) (xs := (natV N)) (by simp))).mono ?_
        rintro e w' ⟨rfl, y, rfl⟩
        rw [HR_.out, HN3_.out]
        replace hs := hs.later y
        replace l1 := l1.later y
        replace l3 := l3.later y
        replace lq8 := lq8.later y
        replace lr8 := lr8.later y
        replace hSx := hSx.later y
        replace hSy := hSy.later y
        replace S := S.later y
        obtain ⟨Y14, hZ⟩ : ∃ Z : Later W, Z.w = y.w := ⟨Y13.step (y), rfl⟩
        rw [← hZ] at S hs l1 l3 lq8 lr8 hSx hSy ⊢
        clear hZ
        clear y
        go_wp2_with fail
        refine (Works_calls _).mono ?_
        rintro e w' ⟨rfl, y, rfl⟩
        go_wp2
        go_ret
        exact ⟨rfl, Y14.step (y), rfl⟩
      · subst h5
        rw [if_pos hp0] at hse
        obtain rfl : q = 0 := by omega
        obtain rfl : r = 0 := by omega
        subst hse hp0
        have HCH := Lib.hid hch
        clear hch
        have q0_0 := l1.cell (k := 0) rfl
        have q0_1 := l1.cell (k := 1) rfl
        have q0_2 := l1.cell (k := 2) rfl
        have q0_l := l1.lt
        go_wp2_with fail
        clear q0_0 q0_1 q0_2 q0_l
        refine (Chain_any n _ _ _ ms cs (natV F) _ hs (S.at (v := .slice an2 nn2 cn2) (xs := (natV F)) (by simp))).mono ?_
        rintro e w' ⟨v, y, lq, rfl, rfl, hR, hC, hD⟩
        rw [HE.out] at hC hD ⊢
        have HCK := Lib.hid (HCH.out _ (hC rfl).1)
        clear hC hD
        replace hs := hs.later y
        replace l1 := l1.later y
        replace l3 := l3.later y
        replace lq8 := lq8.later y
        replace lr8 := lr8.later y
        replace hSx := hSx.later y
        replace hSy := hSy.later y
        replace S := S.later y
        obtain ⟨a8, n8, c8, rfl⟩ : ∃ a n c, v = .slice a n c := by obtain ⟨a, c, e⟩ := hR.form; exact ⟨a, _, c, e⟩
        replace S := S.cons hR
        obtain ⟨Y9, hZ⟩ : ∃ Z : Later W, Z.w = y.w := ⟨Y7.step (y), rfl⟩
        rw [← hZ] at S hs l1 l3 lq8 lr8 hSx hSy ⊢
        clear hZ
        clear y hR
        have q0_0 := l1.cell (k := 0) rfl
        have q0_1 := l1.cell (k := 1) rfl
        have q0_2 := l1.cell (k := 2) rfl
        have q0_l := l1.lt
        go_wp2_with fail
        clear q0_0 q0_1 q0_2 q0_l
        refine (Set_any n _ _ _ ms cs (natV N) _ hs (S.at (v := .slice an1 nn1 cn1) (xs := (natV N)) (by simp))).mono ?_
        rintro e w' ⟨v, y, rfl, rfl, hR⟩
        rw [HG.out]
        replace hs := hs.later y
        replace l1 := l1.later y
        replace l3 := l3.later y
        replace lq8 := lq8.later y
        replace lr8 := lr8.later y
        replace hSx := hSx.later y
        replace hSy := hSy.later y
        replace S := S.later y
        obtain ⟨a10, n10, c10, rfl⟩ : ∃ a n c, v = .slice a n c := by obtain ⟨a, c, e⟩ := hR.form; exact ⟨a, _, c, e⟩
        replace S := S.cons hR
        obtain ⟨Y11, hZ⟩ : ∃ Z : Later W, Z.w = y.w := ⟨Y9.step (y), rfl⟩
        rw [← hZ] at S hs l1 l3 lq8 lr8 hSx hSy ⊢
        clear hZ
        clear y hR
        have q0_0 := l1.cell (k := 0) rfl
        have q0_1 := l1.cell (k := 1) rfl
        have q0_2 := l1.cell (k := 2) rfl
        have q0_l := l1.lt
        go_wp2_with fail
        clear q0_0 q0_1 q0_2 q0_l
        refine (Count_any n _ _ _ ms cs (natV N) _ hs (S.at (v := .slice an1 nn1 cn1) (xs := (natV N)) (by simp))).mono ?_
        rintro e w' ⟨rfl, y, rfl⟩
        rw [HP_.out, HN1_.out]
        replace hs := hs.later y
        replace l1 := l1.later y
        replace l3 := l3.later y
        replace lq8 := lq8.later y
        replace lr8 := lr8.later y
        replace hSx := hSx.later y
        replace hSy := hSy.later y
        replace S := S.later y
        obtain ⟨Y12, hZ⟩ : ∃ Z : Later W, Z.w = y.w := ⟨Y11.step (y), rfl⟩
        rw [← hZ] at S hs l1 l3 lq8 lr8 hSx hSy ⊢
        clear hZ
        clear y
        have q0_0 := lq8.cell (k := 0) rfl
        have q0_1 := lq8.cell (k := 1) rfl
        have q0_2 := lq8.cell (k := 2) rfl
        have q0_l := lq8.lt
        go_wp2_with fail
        clear q0_0 q0_1 q0_2 q0_l
        refine (Count_any n _ _ _ (ms ++ [((a : Int), (b2 : Int))]) cs (natV N) _ hSx (S.at (v := .slice an1 nn1 cn1) (xs := (natV N)) (by simp))).mono ?_
        rintro e w' ⟨rfl, y, rfl⟩
        rw [HQ_.out, HN2_.out]
        replace hs := hs.later y
        replace l1 := l1.later y
        replace l3 := l3.later y
        replace lq8 := lq8.later y
        replace lr8 := lr8.later y
        replace hSx := hSx.later y
        replace hSy := hSy.later y
        replace S := S.later y
        obtain ⟨Y13, hZ⟩ : ∃ Z : Later W, Z.w = y.w := ⟨Y12.step (y), rfl⟩
        rw [← hZ] at S hs l1 l3 lq8 lr8 hSx hSy ⊢
        clear hZ
        clear y
        have q0_0 := lr8.cell (k := 0) rfl
        have q0_1 := lr8.cell (k := 1) rfl
        have q0_2 := lr8.cell (k := 2) rfl
        have q0_l := lr8.lt
        go_wp2_with fail
        clear q0_0 q0_1 q0_2 q0_l
        refine (Count_any n _ _ _ ms _ (natV N) _ hSy (S.at (v := .slice an1 nn1 cn1) (xs := (natV N)) (by simp))).mono ?_
        rintro e w' ⟨rfl, y, rfl⟩
        rw [HR_.out, HN3_.out]
        replace hs := hs.later y
        replace l1 := l1.later y
        replace l3 := l3.later y
        replace lq8 := lq8.later y
        replace lr8 := lr8.later y
        replace hSx := hSx.later y
        replace hSy := hSy.later y
        replace S := S.later y
        obtain ⟨Y14, hZ⟩ : ∃ Z : Later W, Z.w = y.w := ⟨Y13.step (y), rfl⟩
        rw [← hZ] at S hs l1 l3 lq8 lr8 hSx hSy ⊢
        clear hZ
        clear y
        have q0_0 := l1.cell (k := 0) rfl
        have q0_1 := l1.cell (k := 1) rfl
        have q0_2 := l1.cell (k := 2) rfl
        have q0_l := l1.lt
        go_wp2_with fail
        clear q0_0 q0_1 q0_2 q0_l
        refine (CheckChain_any n _ _ _ ms cs (natV N) _ hs (S.at (v := .slice an1 nn1 cn1) (xs := (natV N)) (by simp)) _ lq (S.at (v := .slice a8 n8 c8) (xs := lq) (by simp))).mono ?_
        rintro e w' ⟨rfl, y, rfl⟩
        rw [HCK.out.1]
        replace hs := hs.later y
        replace l1 := l1.later y
        replace l3 := l3.later y
        replace lq8 := lq8.later y
        replace lr8 := lr8.later y
        replace hSx := hSx.later y
        replace hSy := hSy.later y
        replace S := S.later y
        obtain ⟨Y15, hZ⟩ : ∃ Z : Later W, Z.w = y.w := ⟨Y14.step (y), rfl⟩
        rw [← hZ] at S hs l1 l3 lq8 lr8 hSx hSy ⊢
        clear hZ
        clear y
        have q0_0 := lq8.cell (k := 0) rfl
        have q0_1 := lq8.cell (k := 1) rfl
        have q0_2 := lq8.cell (k := 2) rfl
        have q0_l := lq8.lt
        go_wp2_with fail
        clear q0_0 q0_1 q0_2 q0_l
        refine (CheckChain_any n _ _ _ (ms ++ [((a : Int), (b2 : Int))]) cs (natV F) _ hSx (S.at (v := .slice an2 nn2 cn2) (xs := (natV F)) (by simp)) _ lq (S.at (v := .slice a8 n8 c8) (xs := lq) (by simp))).mono ?_
        rintro e w' ⟨rfl, y, rfl⟩
        rw [HCK.out.2.1]
        replace hs := hs.later y
        replace l1 := l1.later y
        replace l3 := l3.later y
        replace lq8 := lq8.later y
        replace lr8 := lr8.later y
        replace hSx := hSx.later y
        replace hSy := hSy.later y
        replace S := S.later y
        obtain ⟨Y16, hZ⟩ : ∃ Z : Later W, Z.w = y.w := ⟨Y15.step (y), rfl⟩
        rw [← hZ] at S hs l1 l3 lq8 lr8 hSx hSy ⊢
        clear hZ
        clear y
        have q0_0 := lr8.cell (k := 0) rfl
        have q0_1 := lr8.cell (k := 1) rfl
        have q0_2 := lr8.cell (k := 2) rfl
        have q0_l := lr8.lt
        go_wp2_with fail
        clear q0_0 q0_1 q0_2 q0_l
        refine (CheckChain_any n _ _ _ ms _ (natV F) _ hSy (S.at (v := .slice an2 nn2 cn2) (xs := (natV F)) (by simp)) _ lq (S.at (v := .slice a8 n8 c8) (xs := lq) (by simp))).mono ?_
        rintro e w' ⟨rfl, y, rfl⟩
        rw [HCK.out.2.2]
        replace hs := hs.later y
        replace l1 := l1.later y
        replace l3 := l3.later y
        replace lq8 := lq8.later y
        replace lr8 := lr8.later y
        replace hSx := hSx.later y
        replace hSy := hSy.later y
        replace S := S.later y
        obtain ⟨Y17, hZ⟩ : ∃ Z : Later W, Z.w = y.w := ⟨Y16.step (y), rfl⟩
        rw [← hZ] at S hs l1 l3 lq8 lr8 hSx hSy ⊢
        clear hZ
        clear y
        go_wp2_with fail
        refine (Works_calls _).mono ?_
        rintro e w' ⟨rfl, y, rfl⟩
        go_wp2
        go_ret
        exact ⟨rfl, Y17.step (y), rfl⟩
end Go.Proofs.Ytdhdpbnlhnodjaa
