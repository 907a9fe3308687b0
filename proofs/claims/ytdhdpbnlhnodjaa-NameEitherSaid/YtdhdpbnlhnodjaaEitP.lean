import Derived.Test.YtdhdpbnlhnodjaaKSom
/-  NameEither. -/
namespace Go.Proofs.Ytdhdpbnlhnodjaa
open Go.RowKit
open Sat (plc setL rightP)
theorem either_facts {n : Nat} {mn : List (Nat × Nat)} {cn N : List Nat} (hS : Shn n mn cn) (hN : Nms n N) (g : Nat) (ch : List Int) {ms : List (Int × Int)} {cs : List Int} (hms : ms = mn.map prI) (hcs : cs = cn.map fun (c : Nat) => (c : Int)) :
    (setEI n ms cs (natV N) = 0 ∧ chnEI n ms cs (natV N) = 5 ∧ chainEI n ms cs (natV N) ch ≠ 0 ∧ ∃ A, setVI n ms cs (natV N) = A ∧ n = A.length ∧ (∀ i, i < n → decide (0 ≤ nth A i) = decide (i ∈ N)) ∧ settE n ms cs A = 0 ∧ settN n ms cs A = N.length ∧
      ((settE n ms cs (sideL n N g) = 0 ∧ settN n ms cs (sideL n N g) = N.length) ∨ settE n ms cs (sideL n N g) = 18)) ∨
    (setEI n ms cs (natV N) = 18 ∧ setVI n ms cs (natV N) = [] ∧ chnEI n ms cs (natV N) = 0 ∧ settE n ms cs (sideL n N g) = 18) := by
  subst hms hcs
  rw [setEI_nat hS hN, setVI_nat hS hN, chnEI_nat hS hN]
  have hb := lowB_bs N g
  have hE := side_E hS hN hb
  by_cases h0 : settL n mn cn N = []
  · right
    refine ⟨by rw [h0]; rfl, by rw [h0]; rfl, by rw [h0]; rfl, ?_⟩
    rw [sideL, hE, if_neg fun h => right_ne hb h h0]
  · left
    obtain ⟨bs, hb2, h2, h3⟩ := head_good h0
    refine ⟨by rw [setE, if_neg h0], by rw [chnE, if_neg h0], fun h => h0 (chain_nil hS hN h), _, h3, by rw [Sat.setL_len], fun i hi => ?_, by rw [side_E hS hN hb2, if_pos h2], side_settN hS hN hb2 h2, ?_⟩
    · rw [Bool.eq_iff_iff, decide_eq_true_iff, decide_eq_true_iff]; exact side_ge hN hb2 hi
    · by_cases h4 : rightP mn cn (plc N (lowB N.length g)) = true
      · exact .inl ⟨by rw [sideL, hE, if_pos h4], side_settN hS hN hb h4⟩
      · exact .inr (by rw [sideL, hE, if_neg h4])
set_option maxRecDepth 100000 in
set_option maxHeartbeats 8000000 in
theorem NameEither_calls (ni : Int) (mv cv : Value) (ms : List (Int × Int)) (cs : List Int) (b : Nat) (g : Nat) (chv : Value) (ch : List Int) (W : World) (hs : Sht W mv cv ms cs) (hb : b ≤ 65535) (hg : g ≤ 65535) (hch : Ints W chv ch) :
    Calls Try.prog 8 #[.agg #[.int .i64 ni, mv, cv], .int .u16 (b : Int), .int .u16 (g : Int), chv] W (Gives (.bool true) W) := by
  have S : Ins W [] := Ins.nil _
  obtain ⟨am, lm, cm, rfl⟩ : ∃ a n c, mv = .slice a n c := by obtain ⟨a, c, e⟩ := hs.m.form; exact ⟨a, _, c, e⟩
  obtain ⟨ac, lc, cc, rfl⟩ : ∃ a n c, cv = .slice a n c := by obtain ⟨a, c, e⟩ := hs.c.form; exact ⟨a, _, c, e⟩
  obtain ⟨a1, n1, c1, rfl⟩ : ∃ a n c, chv = .slice a n c := by obtain ⟨a, c, e⟩ := hch.form; exact ⟨a, _, c, e⟩
  have HN1 := Lib.hid (show n1 = ch.length by obtain ⟨a, c, e⟩ := hch.form; cases e; rfl)
  have S := S.cons hch
  clear hch
  by_cases hv : vsheet ni ms cs = 0
  rotate_left
  · have HF := Lib.hid (show fineB ni ms cs = false from decide_eq_false hv)
    clear hv
    go_enter Try.func8, Try.ntmps8
    go_wp2_with fail
    obtain ⟨B1, hb⟩ : ∃ b, b = W.heap.size := ⟨_, rfl⟩
    have l1 : Lin (W.alloc (.cells #[.int .i64 ni, .slice am lm cm, .slice ac lc cc] 25)) B1 25 [.int .i64 ni, .slice am lm cm, .slice ac lc cc] := by rw [hb]; exact Lin.new _ _ [.int .i64 ni, .slice am lm cm, .slice ac lc cc]
    replace S := S.later (Later.new _ (.cells #[.int .i64 ni, .slice am lm cm, .slice ac lc cc] 25))
    rw [Later.new_w] at S
    replace hs := hs.later (Later.new _ (.cells #[.int .i64 ni, .slice am lm cm, .slice ac lc cc] 25))
    rw [Later.new_w] at hs
    have hsz : (W.alloc (.cells #[.int .i64 ni, .slice am lm cm, .slice ac lc cc] 25)).heap.size = B1 + 1 := by rw [hb]; simp
    obtain ⟨Y2, hZ⟩ : ∃ Z : Later W, Z.w = W.alloc (.cells #[.int .i64 ni, .slice am lm cm, .slice ac lc cc] 25) := ⟨Later.new _ _, rfl⟩
    rw [← hZ] at S hsz hs l1 ⊢
    clear hZ
    rw [← hb]
    clear hb
    clear hsz
    refine (fine_calls ni _ _ ms cs _ hs).mono ?_
    rintro e w' ⟨rfl, y, rfl⟩
    rw [HF.out]
    replace hs := hs.later y
    replace l1 := l1.later y
    replace S := S.later y
    obtain ⟨Y3, hZ⟩ : ∃ Z : Later W, Z.w = y.w := ⟨Y2.step (y), rfl⟩
    rw [← hZ] at S hs l1 ⊢
    clear hZ
    clear y
    go_wp2_with fail
    refine (Works_calls _).mono ?_
    rintro e w' ⟨rfl, y, rfl⟩
    go_wp2
    go_ret
    exact ⟨rfl, Y3.step (y), rfl⟩
  obtain ⟨n, mn, cn, rfl, hms, hcs, hS⟩ := vsheet_nat hv
  have HF := Lib.hid (show fineB n ms cs = true from decide_eq_true hv)
  have HS := Lib.hid hS
  have HMS := Lib.hid hms
  have HCS := Lib.hid hcs
  have h1 := hS.n1
  have h10 := hS.n10
  have HML := Lib.hid (show lm = ms.length by obtain ⟨a, c, e⟩ := hs.m.form; cases e; rfl)
  have HCL := Lib.hid (show lc = cs.length by obtain ⟨a, c, e⟩ := hs.c.form; cases e; rfl)
  clear hv hms hcs hS
  by_cases hg0 : 60 < n1
  · have d0 : decide ((60 : Int) < n1) = true := decide_eq_true (by omega)
    clear hg0
    go_enter Try.func8, Try.ntmps8
    go_wp2_with fail
    obtain ⟨B1, hb⟩ : ∃ b, b = W.heap.size := ⟨_, rfl⟩
    have l1 : Lin (W.alloc (.cells #[.int .i64 n, .slice am lm cm, .slice ac lc cc] 25)) B1 25 [.int .i64 n, .slice am lm cm, .slice ac lc cc] := by rw [hb]; exact Lin.new _ _ [.int .i64 n, .slice am lm cm, .slice ac lc cc]
    replace S := S.later (Later.new _ (.cells #[.int .i64 n, .slice am lm cm, .slice ac lc cc] 25))
    rw [Later.new_w] at S
    replace hs := hs.later (Later.new _ (.cells #[.int .i64 n, .slice am lm cm, .slice ac lc cc] 25))
    rw [Later.new_w] at hs
    have hsz : (W.alloc (.cells #[.int .i64 n, .slice am lm cm, .slice ac lc cc] 25)).heap.size = B1 + 1 := by rw [hb]; simp
    obtain ⟨Y2, hZ⟩ : ∃ Z : Later W, Z.w = W.alloc (.cells #[.int .i64 n, .slice am lm cm, .slice ac lc cc] 25) := ⟨Later.new _ _, rfl⟩
    rw [← hZ] at S hsz hs l1 ⊢
    clear hZ
    rw [← hb]
    clear hb
    clear hsz
    refine (fine_calls n _ _ ms cs _ hs).mono ?_
    rintro e w' ⟨rfl, y, rfl⟩
    rw [HF.out]
    replace hs := hs.later y
    replace l1 := l1.later y
    replace S := S.later y
    obtain ⟨Y3, hZ⟩ : ∃ Z : Later W, Z.w = y.w := ⟨Y2.step (y), rfl⟩
    rw [← hZ] at S hs l1 ⊢
    clear hZ
    clear y
    have q0_0 := l1.cell (k := 0) rfl
    have q0_1 := l1.cell (k := 1) rfl
    have q0_2 := l1.cell (k := 2) rfl
    have q0_l := l1.lt
    go_wp2_with fail
    clear q0_0 q0_1 q0_2 q0_l
    refine (Works_calls _).mono ?_
    rintro e w' ⟨rfl, y, rfl⟩
    go_wp2
    go_ret
    exact ⟨rfl, Y3.step (y), rfl⟩
  have d0 : decide ((60 : Int) < n1) = false := decide_eq_false (by omega)
  have HG0 := Lib.hid hg0
  clear hg0
  obtain ⟨N, hNd⟩ : ∃ N, someN n b = N := ⟨_, rfl⟩
  have HN := Lib.hid (show Nms n N from hNd ▸ someN_nms n b)
  have HND := Lib.hid hNd
  clear hNd
  have hfacts := either_facts HS.out HN.out g ch HMS.out HCS.out
  obtain ⟨st, hst⟩ : ∃ st, sideL n N g = st := ⟨_, rfl⟩
  have HST := Lib.hid hst
  rw [hst] at hfacts
  clear hst
  obtain ⟨nl, hnl⟩ : ∃ nl, N.length = nl := ⟨_, rfl⟩
  have HNL := Lib.hid hnl
  rw [hnl] at hfacts
  clear hnl
  rcases hfacts with hfacts | hfacts
  rotate_left
  · obtain ⟨he1, hA, he2, he3⟩ := hfacts
    have HE1 := Lib.hid he1
    have HA := Lib.hid hA
    have HE2 := Lib.hid he2
    have HE3 := Lib.hid he3
    clear he1 hA he2 he3
    obtain ⟨O, hO⟩ : ∃ O, chainEI n ms cs (natV N) ch = O := ⟨_, rfl⟩
    have HO := Lib.hid hO
    clear hO
    go_enter Try.func8, Try.ntmps8
    go_wp2_with fail
    obtain ⟨B1, hb⟩ : ∃ b, b = W.heap.size := ⟨_, rfl⟩
    have l1 : Lin (W.alloc (.cells #[.int .i64 n, .slice am lm cm, .slice ac lc cc] 25)) B1 25 [.int .i64 n, .slice am lm cm, .slice ac lc cc] := by rw [hb]; exact Lin.new _ _ [.int .i64 n, .slice am lm cm, .slice ac lc cc]
    replace S := S.later (Later.new _ (.cells #[.int .i64 n, .slice am lm cm, .slice ac lc cc] 25))
    rw [Later.new_w] at S
    replace hs := hs.later (Later.new _ (.cells #[.int .i64 n, .slice am lm cm, .slice ac lc cc] 25))
    rw [Later.new_w] at hs
    have hsz : (W.alloc (.cells #[.int .i64 n, .slice am lm cm, .slice ac lc cc] 25)).heap.size = B1 + 1 := by rw [hb]; simp
    obtain ⟨Y2, hZ⟩ : ∃ Z : Later W, Z.w = W.alloc (.cells #[.int .i64 n, .slice am lm cm, .slice ac lc cc] 25) := ⟨Later.new _ _, rfl⟩
    rw [← hZ] at S hsz hs l1 ⊢
    clear hZ
    rw [← hb]
    clear hb
    clear hsz
    refine (fine_calls n _ _ ms cs _ hs).mono ?_
    rintro e w' ⟨rfl, y, rfl⟩
    rw [HF.out]
    replace hs := hs.later y
    replace l1 := l1.later y
    replace S := S.later y
    obtain ⟨Y3, hZ⟩ : ∃ Z : Later W, Z.w = y.w := ⟨Y2.step (y), rfl⟩
    rw [← hZ] at S hs l1 ⊢
    clear hZ
    clear y
    have q0_0 := l1.cell (k := 0) rfl
    have q0_1 := l1.cell (k := 1) rfl
    have q0_2 := l1.cell (k := 2) rfl
    have q0_l := l1.lt
    go_wp2_with fail
    clear q0_0 q0_1 q0_2 q0_l
    refine (Some_calls n b _ _ ms cs h10 _ hs).mono ?_
    rintro e w' ⟨v, y, rfl, rfl, hR⟩
    rw [HND.out] at hR
    replace hs := hs.later y
    replace l1 := l1.later y
    replace S := S.later y
    obtain ⟨a4, n4, c4, rfl⟩ : ∃ a n c, v = .slice a n c := by obtain ⟨a, c, e⟩ := hR.form; exact ⟨a, _, c, e⟩
    replace S := S.cons hR
    obtain ⟨Y5, hZ⟩ : ∃ Z : Later W, Z.w = y.w := ⟨Y3.step (y), rfl⟩
    rw [← hZ] at S hs l1 ⊢
    clear hZ
    clear y hR
    obtain rfl : nl = n4 := by obtain ⟨a, c, e⟩ := (S.at (v := .slice a4 n4 c4) (xs := (natV N)) (by simp)).form; cases e; exact (by rw [natV_len, HNL.out])
    have q0_0 := l1.cell (k := 0) rfl
    have q0_1 := l1.cell (k := 1) rfl
    have q0_2 := l1.cell (k := 2) rfl
    have q0_l := l1.lt
    go_wp2_with fail
    clear q0_0 q0_1 q0_2 q0_l
    refine (Set_any n _ _ _ ms cs (natV N) _ hs (S.at (v := .slice a4 nl c4) (xs := (natV N)) (by simp))).mono ?_
    rintro e w' ⟨v, y, rfl, rfl, hR⟩
    rw [HA.out] at hR
    rw [HE1.out]
    replace hs := hs.later y
    replace l1 := l1.later y
    replace S := S.later y
    obtain ⟨a6, n6, c6, rfl⟩ : ∃ a n c, v = .slice a n c := by obtain ⟨a, c, e⟩ := hR.form; exact ⟨a, _, c, e⟩
    replace S := S.cons hR
    obtain ⟨Y7, hZ⟩ : ∃ Z : Later W, Z.w = y.w := ⟨Y5.step (y), rfl⟩
    rw [← hZ] at S hs l1 ⊢
    clear hZ
    clear y hR
    have q0_0 := l1.cell (k := 0) rfl
    have q0_1 := l1.cell (k := 1) rfl
    have q0_2 := l1.cell (k := 2) rfl
    have q0_l := l1.lt
    go_wp2_with fail
    clear q0_0 q0_1 q0_2 q0_l
    refine (Chain_any n _ _ _ ms cs (natV N) _ hs (S.at (v := .slice a4 nl c4) (xs := (natV N)) (by simp))).mono ?_
    rintro e w' ⟨v, y, lq, rfl, rfl, hR, hC, hD⟩
    rw [HE2.out] at hC hD ⊢
    have HCK := Lib.hid (hC rfl).1
    clear hC hD
    replace hs := hs.later y
    replace l1 := l1.later y
    replace S := S.later y
    obtain ⟨a8, n8, c8, rfl⟩ : ∃ a n c, v = .slice a n c := by obtain ⟨a, c, e⟩ := hR.form; exact ⟨a, _, c, e⟩
    replace S := S.cons hR
    obtain ⟨Y9, hZ⟩ : ∃ Z : Later W, Z.w = y.w := ⟨Y7.step (y), rfl⟩
    rw [← hZ] at S hs l1 ⊢
    clear hZ
    clear y hR
    have q0_0 := l1.cell (k := 0) rfl
    have q0_1 := l1.cell (k := 1) rfl
    have q0_2 := l1.cell (k := 2) rfl
    have q0_l := l1.lt
    go_wp2
    refine Mix.region_mixL (Mix.kinds [] [4, 5] []) (by kernel_rfl) (by kernel_rfl) ?_
    repeat ((with_reducible refine Mix.atCons ?_); first | refine Mix.skipU (by rfl) rfl (by rfl) ?_ | (refine Mix.val rfl rfl (by rfl) (fun K hK => ?_); go_big_quiet_op; refine hK _ ?_; clear hK K) | (refine Mix.skip (by rfl) ?_; go_frame))
    refine Mix.loud rfl (by rfl) (fun x1 K hK => ?_)
    go_wp2_with fail
    refine (sides_calls n g _ _ _ ms cs N HN.out h10 hg _ (hs.later x1) ((S.at (v := .slice a4 nl c4) (xs := (natV N)) (by simp)).later x1)).mono ?_
    rintro e w' ⟨v, y1, rfl, rfl, hR⟩
    rw [HST.out] at hR
    obtain ⟨asd, nsd, csd, rfl⟩ : ∃ a n c, v = .slice a n c := by obtain ⟨a, c, e⟩ := hR.form; exact ⟨a, _, c, e⟩
    refine hK _ y1 ?_
    clear hK K
    try go_frame
    repeat ((with_reducible refine Mix.atCons ?_); first | refine Mix.skipU (by rfl) rfl (by rfl) ?_ | (refine Mix.val rfl rfl (by rfl) (fun K hK => ?_); go_big_quiet_op; refine hK _ ?_; clear hK K) | (refine Mix.skip (by rfl) ?_; go_frame))
    refine Mix.loud rfl (by rfl) (fun x2 K hK => ?_)
    go_wp2_with fail
    refine (CheckSetting_any n _ _ ms cs _ (((hs.later x1).later y1).later x2) _ st (hR.later x2)).mono ?_
    rintro e w' ⟨rfl, y2, rfl⟩
    rw [HE3.out]
    refine hK _ y2 ?_
    clear hK K
    try go_frame
    repeat ((with_reducible refine Mix.atCons ?_); first | refine Mix.skipU (by rfl) rfl (by rfl) ?_ | (refine Mix.val rfl rfl (by rfl) (fun K hK => ?_); go_big_quiet_op; refine hK _ ?_; clear hK K) | (refine Mix.skip (by rfl) ?_; go_frame))
    refine Mix.done (fun x3 => ?_)
    clear q0_0 q0_1 q0_2 q0_l
    replace hs := (((((hs.later x1).later y1).later x2).later y2).later x3)
    replace l1 := (((((l1.later x1).later y1).later x2).later y2).later x3)
    replace S := (((((S.later x1).later y1).later x2).later y2).later x3)
    obtain ⟨Y10, hZ⟩ : ∃ Z : Later W, Z.w = x3.w := ⟨Y9.step (x1.step (y1.step (x2.step (y2.step (x3))))), rfl⟩
    rw [← hZ] at S hs l1 ⊢
    clear hZ
    clear hR
    have q0_0 := l1.cell (k := 0) rfl
    have q0_1 := l1.cell (k := 1) rfl
    have q0_2 := l1.cell (k := 2) rfl
    have q0_l := l1.lt
    go_wp2_with fail
    clear q0_0 q0_1 q0_2 q0_l
    refine (CheckChain_any n _ _ _ ms cs (natV N) _ hs (S.at (v := .slice a4 nl c4) (xs := (natV N)) (by simp)) _ ch (S.at (v := .slice a1 n1 c1) (xs := ch) (by simp))).mono ?_
    rintro e w' ⟨rfl, y, rfl⟩
    rw [HO.out]
    replace hs := hs.later y
    replace l1 := l1.later y
    replace S := S.later y
    obtain ⟨Y11, hZ⟩ : ∃ Z : Later W, Z.w = y.w := ⟨Y10.step (y), rfl⟩
    rw [← hZ] at S hs l1 ⊢
    clear hZ
    clear y
    have hlen : n6 = 0 := by have := (S.at (v := .slice a6 n6 c6) (xs := []) (by simp)).form; obtain ⟨a, c, e⟩ := this; cases e; rfl
    have q0_0 := l1.cell (k := 0) rfl
    have q0_1 := l1.cell (k := 1) rfl
    have q0_2 := l1.cell (k := 2) rfl
    have q0_l := l1.lt
    go_wp2_with fail
    clear q0_0 q0_1 q0_2 q0_l
    refine (CheckChain_any n _ _ _ ms cs (natV N) _ hs (S.at (v := .slice a4 nl c4) (xs := (natV N)) (by simp)) _ lq (S.at (v := .slice a8 n8 c8) (xs := lq) (by simp))).mono ?_
    rintro e w' ⟨rfl, y, rfl⟩
    rw [HCK.out]
    replace hs := hs.later y
    replace l1 := l1.later y
    replace S := S.later y
    obtain ⟨Y12, hZ⟩ : ∃ Z : Later W, Z.w = y.w := ⟨Y11.step (y), rfl⟩
    rw [← hZ] at S hs l1 ⊢
    clear hZ
    clear y
    have q0_0 := l1.cell (k := 0) rfl
    have q0_1 := l1.cell (k := 1) rfl
    have q0_2 := l1.cell (k := 2) rfl
    have q0_l := l1.lt
    go_wp2_with fail
    clear q0_0 q0_1 q0_2 q0_l
    refine (refCheckChain_any n _ _ _ ms cs (natV N) _ hs (S.at (v := .slice a4 nl c4) (xs := (natV N)) (by simp)) _ lq (S.at (v := .slice a8 n8 c8) (xs := lq) (by simp))).mono ?_
    rintro e w' ⟨rfl, y, rfl⟩
    rw [HCK.out]
    replace hs := hs.later y
    replace l1 := l1.later y
    replace S := S.later y
    obtain ⟨Y13, hZ⟩ : ∃ Z : Later W, Z.w = y.w := ⟨Y12.step (y), rfl⟩
    rw [← hZ] at S hs l1 ⊢
    clear hZ
    clear y
    go_wp2_with fail
    refine (Works_calls _).mono ?_
    rintro e w' ⟨rfl, y, rfl⟩
    replace hs := hs.later y
    replace l1 := l1.later y
    replace S := S.later y
    obtain ⟨Y14, hZ⟩ : ∃ Z : Later W, Z.w = y.w := ⟨Y13.step (y), rfl⟩
    rw [← hZ] at S hs l1 ⊢
    clear hZ
    clear y
    go_wp2
    go_ret
    exact ⟨rfl, Y14, rfl⟩
  obtain ⟨he1, he2, hO, A, hA, hAL, hge, hAE, hAN, he3⟩ := hfacts
  have HE1 := Lib.hid he1
  have HA := Lib.hid hA
  have HE2 := Lib.hid he2
  have HAL := Lib.hid hAL
  have HGE := Lib.hid hge
  have HAE := Lib.hid hAE
  have HAN := Lib.hid hAN
  clear he1 hA he2 hAL hge hAE hAN
  obtain ⟨O, hOd⟩ : ∃ O, chainEI n ms cs (natV N) ch = O := ⟨_, rfl⟩
  rw [hOd] at hO
  have hOb : (O == 0) = false := by simpa using hO
  clear hO
  have hO := hOd
  clear hOd
  rcases he3 with ⟨he3, hn3⟩ | he3
  · have HO := Lib.hid hO
    have HE3 := Lib.hid he3
    clear hO he3
    have HN3 := Lib.hid hn3
    clear hn3
    go_enter Try.func8, Try.ntmps8
    go_wp2_with fail
    obtain ⟨B1, hb⟩ : ∃ b, b = W.heap.size := ⟨_, rfl⟩
    have l1 : Lin (W.alloc (.cells #[.int .i64 n, .slice am lm cm, .slice ac lc cc] 25)) B1 25 [.int .i64 n, .slice am lm cm, .slice ac lc cc] := by rw [hb]; exact Lin.new _ _ [.int .i64 n, .slice am lm cm, .slice ac lc cc]
    replace S := S.later (Later.new _ (.cells #[.int .i64 n, .slice am lm cm, .slice ac lc cc] 25))
    rw [Later.new_w] at S
    replace hs := hs.later (Later.new _ (.cells #[.int .i64 n, .slice am lm cm, .slice ac lc cc] 25))
    rw [Later.new_w] at hs
    have hsz : (W.alloc (.cells #[.int .i64 n, .slice am lm cm, .slice ac lc cc] 25)).heap.size = B1 + 1 := by rw [hb]; simp
    obtain ⟨Y2, hZ⟩ : ∃ Z : Later W, Z.w = W.alloc (.cells #[.int .i64 n, .slice am lm cm, .slice ac lc cc] 25) := ⟨Later.new _ _, rfl⟩
    rw [← hZ] at S hsz hs l1 ⊢
    clear hZ
    rw [← hb]
    clear hb
    clear hsz
    refine (fine_calls n _ _ ms cs _ hs).mono ?_
    rintro e w' ⟨rfl, y, rfl⟩
    rw [HF.out]
    replace hs := hs.later y
    replace l1 := l1.later y
    replace S := S.later y
    obtain ⟨Y3, hZ⟩ : ∃ Z : Later W, Z.w = y.w := ⟨Y2.step (y), rfl⟩
    rw [← hZ] at S hs l1 ⊢
    clear hZ
    clear y
    have q0_0 := l1.cell (k := 0) rfl
    have q0_1 := l1.cell (k := 1) rfl
    have q0_2 := l1.cell (k := 2) rfl
    have q0_l := l1.lt
    go_wp2_with fail
    clear q0_0 q0_1 q0_2 q0_l
    refine (Some_calls n b _ _ ms cs h10 _ hs).mono ?_
    rintro e w' ⟨v, y, rfl, rfl, hR⟩
    rw [HND.out] at hR
    replace hs := hs.later y
    replace l1 := l1.later y
    replace S := S.later y
    obtain ⟨a4, n4, c4, rfl⟩ : ∃ a n c, v = .slice a n c := by obtain ⟨a, c, e⟩ := hR.form; exact ⟨a, _, c, e⟩
    replace S := S.cons hR
    obtain ⟨Y5, hZ⟩ : ∃ Z : Later W, Z.w = y.w := ⟨Y3.step (y), rfl⟩
    rw [← hZ] at S hs l1 ⊢
    clear hZ
    clear y hR
    obtain rfl : nl = n4 := by obtain ⟨a, c, e⟩ := (S.at (v := .slice a4 n4 c4) (xs := (natV N)) (by simp)).form; cases e; exact (by rw [natV_len, HNL.out])
    have q0_0 := l1.cell (k := 0) rfl
    have q0_1 := l1.cell (k := 1) rfl
    have q0_2 := l1.cell (k := 2) rfl
    have q0_l := l1.lt
    go_wp2_with fail
    clear q0_0 q0_1 q0_2 q0_l
    refine (Set_any n _ _ _ ms cs (natV N) _ hs (S.at (v := .slice a4 nl c4) (xs := (natV N)) (by simp))).mono ?_
    rintro e w' ⟨v, y, rfl, rfl, hR⟩
    rw [HA.out] at hR
    rw [HE1.out]
    replace hs := hs.later y
    replace l1 := l1.later y
    replace S := S.later y
    obtain ⟨a6, n6, c6, rfl⟩ : ∃ a n c, v = .slice a n c := by obtain ⟨a, c, e⟩ := hR.form; exact ⟨a, _, c, e⟩
    replace S := S.cons hR
    obtain ⟨Y7, hZ⟩ : ∃ Z : Later W, Z.w = y.w := ⟨Y5.step (y), rfl⟩
    rw [← hZ] at S hs l1 ⊢
    clear hZ
    clear y hR
    obtain rfl : n = n6 := by obtain ⟨a, c, e⟩ := (S.at (v := .slice a6 n6 c6) (xs := A) (by simp)).form; cases e; exact HAL.out
    have q0_0 := l1.cell (k := 0) rfl
    have q0_1 := l1.cell (k := 1) rfl
    have q0_2 := l1.cell (k := 2) rfl
    have q0_l := l1.lt
    go_wp2_with fail
    clear q0_0 q0_1 q0_2 q0_l
    refine (Chain_any n _ _ _ ms cs (natV N) _ hs (S.at (v := .slice a4 nl c4) (xs := (natV N)) (by simp))).mono ?_
    rintro e w' ⟨v, y, lq, rfl, rfl, hR, hC, hD⟩
    rw [HE2.out] at hC hD ⊢
    clear hC hD
    replace hs := hs.later y
    replace l1 := l1.later y
    replace S := S.later y
    obtain ⟨a8, n8, c8, rfl⟩ : ∃ a n c, v = .slice a n c := by obtain ⟨a, c, e⟩ := hR.form; exact ⟨a, _, c, e⟩
    replace S := S.cons hR
    obtain ⟨Y9, hZ⟩ : ∃ Z : Later W, Z.w = y.w := ⟨Y7.step (y), rfl⟩
    rw [← hZ] at S hs l1 ⊢
    clear hZ
    clear y hR
    have q0_0 := l1.cell (k := 0) rfl
    have q0_1 := l1.cell (k := 1) rfl
    have q0_2 := l1.cell (k := 2) rfl
    have q0_l := l1.lt
    go_wp2
    refine Mix.region_mixL (Mix.kinds [] [4, 5] []) (by kernel_rfl) (by kernel_rfl) ?_
    repeat ((with_reducible refine Mix.atCons ?_); first | refine Mix.skipU (by rfl) rfl (by rfl) ?_ | (refine Mix.val rfl rfl (by rfl) (fun K hK => ?_); go_big_quiet_op; refine hK _ ?_; clear hK K) | (refine Mix.skip (by rfl) ?_; go_frame))
    refine Mix.loud rfl (by rfl) (fun x1 K hK => ?_)
    go_wp2_with fail
    refine (sides_calls n g _ _ _ ms cs N HN.out h10 hg _ (hs.later x1) ((S.at (v := .slice a4 nl c4) (xs := (natV N)) (by simp)).later x1)).mono ?_
    rintro e w' ⟨v, y1, rfl, rfl, hR⟩
    rw [HST.out] at hR
    obtain ⟨asd, nsd, csd, rfl⟩ : ∃ a n c, v = .slice a n c := by obtain ⟨a, c, e⟩ := hR.form; exact ⟨a, _, c, e⟩
    refine hK _ y1 ?_
    clear hK K
    try go_frame
    repeat ((with_reducible refine Mix.atCons ?_); first | refine Mix.skipU (by rfl) rfl (by rfl) ?_ | (refine Mix.val rfl rfl (by rfl) (fun K hK => ?_); go_big_quiet_op; refine hK _ ?_; clear hK K) | (refine Mix.skip (by rfl) ?_; go_frame))
    refine Mix.loud rfl (by rfl) (fun x2 K hK => ?_)
    go_wp2_with fail
    refine (CheckSetting_any n _ _ ms cs _ (((hs.later x1).later y1).later x2) _ st (hR.later x2)).mono ?_
    rintro e w' ⟨rfl, y2, rfl⟩
    rw [HE3.out, HN3.out]
    refine hK _ y2 ?_
    clear hK K
    try go_frame
    repeat ((with_reducible refine Mix.atCons ?_); first | refine Mix.skipU (by rfl) rfl (by rfl) ?_ | (refine Mix.val rfl rfl (by rfl) (fun K hK => ?_); go_big_quiet_op; refine hK _ ?_; clear hK K) | (refine Mix.skip (by rfl) ?_; go_frame))
    refine Mix.done (fun x3 => ?_)
    clear q0_0 q0_1 q0_2 q0_l
    replace hs := (((((hs.later x1).later y1).later x2).later y2).later x3)
    replace l1 := (((((l1.later x1).later y1).later x2).later y2).later x3)
    replace S := (((((S.later x1).later y1).later x2).later y2).later x3)
    obtain ⟨Y10, hZ⟩ : ∃ Z : Later W, Z.w = x3.w := ⟨Y9.step (x1.step (y1.step (x2.step (y2.step (x3))))), rfl⟩
    rw [← hZ] at S hs l1 ⊢
    clear hZ
    clear hR
    have q0_0 := l1.cell (k := 0) rfl
    have q0_1 := l1.cell (k := 1) rfl
    have q0_2 := l1.cell (k := 2) rfl
    have q0_l := l1.lt
    go_wp2_with fail
    clear q0_0 q0_1 q0_2 q0_l
    refine (CheckChain_any n _ _ _ ms cs (natV N) _ hs (S.at (v := .slice a4 nl c4) (xs := (natV N)) (by simp)) _ ch (S.at (v := .slice a1 n1 c1) (xs := ch) (by simp))).mono ?_
    rintro e w' ⟨rfl, y, rfl⟩
    rw [HO.out]
    replace hs := hs.later y
    replace l1 := l1.later y
    replace S := S.later y
    obtain ⟨Y11, hZ⟩ : ∃ Z : Later W, Z.w = y.w := ⟨Y10.step (y), rfl⟩
    rw [← hZ] at S hs l1 ⊢
    clear hZ
    clear y
    have p_0 := l1.cell (k := 0) rfl
    have p_1 := l1.cell (k := 1) rfl
    have p_2 := l1.cell (k := 2) rfl
    have p_l := l1.lt
    go_wp2
    clear p_0 p_1 p_2 p_l
    go_loopw [17] (fun i0 wr => ∃ (k : Nat) (u : Later Y11.w), wr = u.w ∧ k ≤ n ∧ i0 = .int .i64 k) (fun i0 _ => n - (intOf i0).toNat)
    case atStart => exact ⟨0, Later.self _, rfl, Nat.zero_le _, rfl⟩
    obtain ⟨k, u, rfl, hk, rfl⟩ := hrel
    replace hs := hs.later u
    replace l1 := l1.later u
    replace S := S.later u
    obtain ⟨Y12, hZ⟩ : ∃ Z : Later Y11.w, Z.w = u.w := ⟨u, rfl⟩
    rw [← hZ] at S hs l1 ⊢
    clear hZ
    by_cases hlt : k < n
    · have hge := HGE.out k hlt
      have hhas := has_nat N k
      obtain ⟨P, hP⟩ : ∃ P, decide (k ∈ N) = P := ⟨_, rfl⟩
      rw [hP] at hge hhas
      have HH := Lib.hid hhas
      clear hP hhas
      obtain ⟨ba, oa, ka, e, hka, hba, hga⟩ := (S.at (v := .slice a6 n c6) (xs := A) (by simp)).at (k := k) (by rw [← HAL.out]; exact hlt)
      injection e with e1 e2 e3
      subst e1 e3
      have qa := hga k (by rw [← HAL.out]; exact hlt)
      clear hga e2
      obtain ⟨av, hav⟩ : ∃ v, nth A k = v := ⟨_, rfl⟩
      rw [hav] at qa
      rw [hav] at hge
      clear hav
      have p_0 := l1.cell (k := 0) rfl
      have p_1 := l1.cell (k := 1) rfl
      have p_2 := l1.cell (k := 2) rfl
      have p_l := l1.lt
      go_wp2
      refine Mix.region_mixL (Mix.kinds [] [7] []) (by kernel_rfl) (by kernel_rfl) ?_
      repeat ((with_reducible refine Mix.atCons ?_); first | refine Mix.skipU (by rfl) rfl (by rfl) ?_ | (refine Mix.val rfl rfl (by rfl) (fun K hK => ?_); go_big_quiet_op; refine hK _ ?_; clear hK K) | (refine Mix.skip (by rfl) ?_; go_frame))
      refine Mix.loud rfl (by rfl) (fun x1 K hK => ?_)
      go_wp2_with fail
      refine (Has_calls _ (natV N) k _ ((S.at (v := .slice a4 nl c4) (xs := (natV N)) (by simp)).later x1)).mono ?_
      rintro e w' ⟨rfl, hw⟩
      rw [hw]
      rw [HH.out]
      refine hK _ (Later.self _) ?_
      clear hK K hw w'
      simp only [Later.self_w]
      try go_frame
      repeat ((with_reducible refine Mix.atCons ?_); first | refine Mix.skipU (by rfl) rfl (by rfl) ?_ | (refine Mix.val rfl rfl (by rfl) (fun K hK => ?_); go_big_quiet_op; refine hK _ ?_; clear hK K) | (refine Mix.skip (by rfl) ?_; go_frame))
      clear p_0 p_1 p_2 p_l
      refine Mix.done (fun x2 => ?_)
      replace hs := ((hs.later x1).later x2)
      replace l1 := ((l1.later x1).later x2)
      replace S := ((S.later x1).later x2)
      obtain ⟨Y13, hZ⟩ : ∃ Z : Later Y11.w, Z.w = x2.w := ⟨Y12.step (x1.step (x2)), rfl⟩
      rw [← hZ] at S hs l1 ⊢
      clear hZ
      go_wp2
      go_roundw
      case rel => exact ⟨k + 1, Y13, rfl, by omega, by go_num⟩
      case measure => simp [intOf]; omega
    obtain rfl : n = k := by omega
    have q0_0 := l1.cell (k := 0) rfl
    have q0_1 := l1.cell (k := 1) rfl
    have q0_2 := l1.cell (k := 2) rfl
    have q0_l := l1.lt
    go_wp2_with fail
    clear q0_0 q0_1 q0_2 q0_l
    refine (refCheckSetting_calls n _ _ _ ms cs A _ hs (S.at (v := .slice a6 n c6) (xs := A) (by simp))).mono ?_
    rintro e w' ⟨rfl, y, rfl⟩
    rw [HAE.out, HAN.out]
    replace hs := hs.later y
    replace l1 := l1.later y
    replace S := S.later y
    obtain ⟨Y13, hZ⟩ : ∃ Z : Later Y11.w, Z.w = y.w := ⟨Y12.step (y), rfl⟩
    rw [← hZ] at S hs l1 ⊢
    clear hZ
    clear y
    have q0_0 := l1.cell (k := 0) rfl
    have q0_1 := l1.cell (k := 1) rfl
    have q0_2 := l1.cell (k := 2) rfl
    have q0_l := l1.lt
    go_wp2_with fail
    clear q0_0 q0_1 q0_2 q0_l
    refine (CheckSetting_any n _ _ ms cs _ hs _ A (S.at (v := .slice a6 n c6) (xs := A) (by simp))).mono ?_
    rintro e w' ⟨rfl, y, rfl⟩
    rw [HAE.out, HAN.out]
    replace hs := hs.later y
    replace l1 := l1.later y
    replace S := S.later y
    obtain ⟨Y14, hZ⟩ : ∃ Z : Later Y11.w, Z.w = y.w := ⟨Y13.step (y), rfl⟩
    rw [← hZ] at S hs l1 ⊢
    clear hZ
    clear y
    go_wp2_with fail
    refine (Works_calls _).mono ?_
    rintro e w' ⟨rfl, y, rfl⟩
    replace hs := hs.later y
    replace l1 := l1.later y
    replace S := S.later y
    obtain ⟨Y15, hZ⟩ : ∃ Z : Later Y11.w, Z.w = y.w := ⟨Y14.step (y), rfl⟩
    rw [← hZ] at S hs l1 ⊢
    clear hZ
    clear y
    go_wp2
    go_ret
    exact ⟨rfl, Y11.step (Y15), rfl⟩
  · have HO := Lib.hid hO
    have HE3 := Lib.hid he3
    clear hO he3
    go_enter Try.func8, Try.ntmps8
    go_wp2_with fail
    obtain ⟨B1, hb⟩ : ∃ b, b = W.heap.size := ⟨_, rfl⟩
    have l1 : Lin (W.alloc (.cells #[.int .i64 n, .slice am lm cm, .slice ac lc cc] 25)) B1 25 [.int .i64 n, .slice am lm cm, .slice ac lc cc] := by rw [hb]; exact Lin.new _ _ [.int .i64 n, .slice am lm cm, .slice ac lc cc]
    replace S := S.later (Later.new _ (.cells #[.int .i64 n, .slice am lm cm, .slice ac lc cc] 25))
    rw [Later.new_w] at S
    replace hs := hs.later (Later.new _ (.cells #[.int .i64 n, .slice am lm cm, .slice ac lc cc] 25))
    rw [Later.new_w] at hs
    have hsz : (W.alloc (.cells #[.int .i64 n, .slice am lm cm, .slice ac lc cc] 25)).heap.size = B1 + 1 := by rw [hb]; simp
    obtain ⟨Y2, hZ⟩ : ∃ Z : Later W, Z.w = W.alloc (.cells #[.int .i64 n, .slice am lm cm, .slice ac lc cc] 25) := ⟨Later.new _ _, rfl⟩
    rw [← hZ] at S hsz hs l1 ⊢
    clear hZ
    rw [← hb]
    clear hb
    clear hsz
    refine (fine_calls n _ _ ms cs _ hs).mono ?_
    rintro e w' ⟨rfl, y, rfl⟩
    rw [HF.out]
    replace hs := hs.later y
    replace l1 := l1.later y
    replace S := S.later y
    obtain ⟨Y3, hZ⟩ : ∃ Z : Later W, Z.w = y.w := ⟨Y2.step (y), rfl⟩
    rw [← hZ] at S hs l1 ⊢
    clear hZ
    clear y
    have q0_0 := l1.cell (k := 0) rfl
    have q0_1 := l1.cell (k := 1) rfl
    have q0_2 := l1.cell (k := 2) rfl
    have q0_l := l1.lt
    go_wp2_with fail
    clear q0_0 q0_1 q0_2 q0_l
    refine (Some_calls n b _ _ ms cs h10 _ hs).mono ?_
    rintro e w' ⟨v, y, rfl, rfl, hR⟩
    rw [HND.out] at hR
    replace hs := hs.later y
    replace l1 := l1.later y
    replace S := S.later y
    obtain ⟨a4, n4, c4, rfl⟩ : ∃ a n c, v = .slice a n c := by obtain ⟨a, c, e⟩ := hR.form; exact ⟨a, _, c, e⟩
    replace S := S.cons hR
    obtain ⟨Y5, hZ⟩ : ∃ Z : Later W, Z.w = y.w := ⟨Y3.step (y), rfl⟩
    rw [← hZ] at S hs l1 ⊢
    clear hZ
    clear y hR
    obtain rfl : nl = n4 := by obtain ⟨a, c, e⟩ := (S.at (v := .slice a4 n4 c4) (xs := (natV N)) (by simp)).form; cases e; exact (by rw [natV_len, HNL.out])
    have q0_0 := l1.cell (k := 0) rfl
    have q0_1 := l1.cell (k := 1) rfl
    have q0_2 := l1.cell (k := 2) rfl
    have q0_l := l1.lt
    go_wp2_with fail
    clear q0_0 q0_1 q0_2 q0_l
    refine (Set_any n _ _ _ ms cs (natV N) _ hs (S.at (v := .slice a4 nl c4) (xs := (natV N)) (by simp))).mono ?_
    rintro e w' ⟨v, y, rfl, rfl, hR⟩
    rw [HA.out] at hR
    rw [HE1.out]
    replace hs := hs.later y
    replace l1 := l1.later y
    replace S := S.later y
    obtain ⟨a6, n6, c6, rfl⟩ : ∃ a n c, v = .slice a n c := by obtain ⟨a, c, e⟩ := hR.form; exact ⟨a, _, c, e⟩
    replace S := S.cons hR
    obtain ⟨Y7, hZ⟩ : ∃ Z : Later W, Z.w = y.w := ⟨Y5.step (y), rfl⟩
    rw [← hZ] at S hs l1 ⊢
    clear hZ
    clear y hR
    obtain rfl : n = n6 := by obtain ⟨a, c, e⟩ := (S.at (v := .slice a6 n6 c6) (xs := A) (by simp)).form; cases e; exact HAL.out
    have q0_0 := l1.cell (k := 0) rfl
    have q0_1 := l1.cell (k := 1) rfl
    have q0_2 := l1.cell (k := 2) rfl
    have q0_l := l1.lt
    go_wp2_with fail
    clear q0_0 q0_1 q0_2 q0_l
    refine (Chain_any n _ _ _ ms cs (natV N) _ hs (S.at (v := .slice a4 nl c4) (xs := (natV N)) (by simp))).mono ?_
    rintro e w' ⟨v, y, lq, rfl, rfl, hR, hC, hD⟩
    rw [HE2.out] at hC hD ⊢
    clear hC hD
    replace hs := hs.later y
    replace l1 := l1.later y
    replace S := S.later y
    obtain ⟨a8, n8, c8, rfl⟩ : ∃ a n c, v = .slice a n c := by obtain ⟨a, c, e⟩ := hR.form; exact ⟨a, _, c, e⟩
    replace S := S.cons hR
    obtain ⟨Y9, hZ⟩ : ∃ Z : Later W, Z.w = y.w := ⟨Y7.step (y), rfl⟩
    rw [← hZ] at S hs l1 ⊢
    clear hZ
    clear y hR
    have q0_0 := l1.cell (k := 0) rfl
    have q0_1 := l1.cell (k := 1) rfl
    have q0_2 := l1.cell (k := 2) rfl
    have q0_l := l1.lt
    go_wp2
    refine Mix.region_mixL (Mix.kinds [] [4, 5] []) (by kernel_rfl) (by kernel_rfl) ?_
    repeat ((with_reducible refine Mix.atCons ?_); first | refine Mix.skipU (by rfl) rfl (by rfl) ?_ | (refine Mix.val rfl rfl (by rfl) (fun K hK => ?_); go_big_quiet_op; refine hK _ ?_; clear hK K) | (refine Mix.skip (by rfl) ?_; go_frame))
    refine Mix.loud rfl (by rfl) (fun x1 K hK => ?_)
    go_wp2_with fail
    refine (sides_calls n g _ _ _ ms cs N HN.out h10 hg _ (hs.later x1) ((S.at (v := .slice a4 nl c4) (xs := (natV N)) (by simp)).later x1)).mono ?_
    rintro e w' ⟨v, y1, rfl, rfl, hR⟩
    rw [HST.out] at hR
    obtain ⟨asd, nsd, csd, rfl⟩ : ∃ a n c, v = .slice a n c := by obtain ⟨a, c, e⟩ := hR.form; exact ⟨a, _, c, e⟩
    refine hK _ y1 ?_
    clear hK K
    try go_frame
    repeat ((with_reducible refine Mix.atCons ?_); first | refine Mix.skipU (by rfl) rfl (by rfl) ?_ | (refine Mix.val rfl rfl (by rfl) (fun K hK => ?_); go_big_quiet_op; refine hK _ ?_; clear hK K) | (refine Mix.skip (by rfl) ?_; go_frame))
    refine Mix.loud rfl (by rfl) (fun x2 K hK => ?_)
    go_wp2_with fail
    refine (CheckSetting_any n _ _ ms cs _ (((hs.later x1).later y1).later x2) _ st (hR.later x2)).mono ?_
    rintro e w' ⟨rfl, y2, rfl⟩
    rw [HE3.out]
    refine hK _ y2 ?_
    clear hK K
    try go_frame
    repeat ((with_reducible refine Mix.atCons ?_); first | refine Mix.skipU (by rfl) rfl (by rfl) ?_ | (refine Mix.val rfl rfl (by rfl) (fun K hK => ?_); go_big_quiet_op; refine hK _ ?_; clear hK K) | (refine Mix.skip (by rfl) ?_; go_frame))
    refine Mix.done (fun x3 => ?_)
    clear q0_0 q0_1 q0_2 q0_l
    replace hs := (((((hs.later x1).later y1).later x2).later y2).later x3)
    replace l1 := (((((l1.later x1).later y1).later x2).later y2).later x3)
    replace S := (((((S.later x1).later y1).later x2).later y2).later x3)
    obtain ⟨Y10, hZ⟩ : ∃ Z : Later W, Z.w = x3.w := ⟨Y9.step (x1.step (y1.step (x2.step (y2.step (x3))))), rfl⟩
    rw [← hZ] at S hs l1 ⊢
    clear hZ
    clear hR
    have q0_0 := l1.cell (k := 0) rfl
    have q0_1 := l1.cell (k := 1) rfl
    have q0_2 := l1.cell (k := 2) rfl
    have q0_l := l1.lt
    go_wp2_with fail
    clear q0_0 q0_1 q0_2 q0_l
    refine (CheckChain_any n _ _ _ ms cs (natV N) _ hs (S.at (v := .slice a4 nl c4) (xs := (natV N)) (by simp)) _ ch (S.at (v := .slice a1 n1 c1) (xs := ch) (by simp))).mono ?_
    rintro e w' ⟨rfl, y, rfl⟩
    rw [HO.out]
    replace hs := hs.later y
    replace l1 := l1.later y
    replace S := S.later y
    obtain ⟨Y11, hZ⟩ : ∃ Z : Later W, Z.w = y.w := ⟨Y10.step (y), rfl⟩
    rw [← hZ] at S hs l1 ⊢
    clear hZ
    clear y
    have p_0 := l1.cell (k := 0) rfl
    have p_1 := l1.cell (k := 1) rfl
    have p_2 := l1.cell (k := 2) rfl
    have p_l := l1.lt
    go_wp2
    clear p_0 p_1 p_2 p_l
    go_loopw [17] (fun i0 wr => ∃ (k : Nat) (u : Later Y11.w), wr = u.w ∧ k ≤ n ∧ i0 = .int .i64 k) (fun i0 _ => n - (intOf i0).toNat)
    case atStart => exact ⟨0, Later.self _, rfl, Nat.zero_le _, rfl⟩
    obtain ⟨k, u, rfl, hk, rfl⟩ := hrel
    replace hs := hs.later u
    replace l1 := l1.later u
    replace S := S.later u
    obtain ⟨Y12, hZ⟩ : ∃ Z : Later Y11.w, Z.w = u.w := ⟨u, rfl⟩
    rw [← hZ] at S hs l1 ⊢
    clear hZ
    by_cases hlt : k < n
    · have hge := HGE.out k hlt
      have hhas := has_nat N k
      obtain ⟨P, hP⟩ : ∃ P, decide (k ∈ N) = P := ⟨_, rfl⟩
      rw [hP] at hge hhas
      have HH := Lib.hid hhas
      clear hP hhas
      obtain ⟨ba, oa, ka, e, hka, hba, hga⟩ := (S.at (v := .slice a6 n c6) (xs := A) (by simp)).at (k := k) (by rw [← HAL.out]; exact hlt)
      injection e with e1 e2 e3
      subst e1 e3
      have qa := hga k (by rw [← HAL.out]; exact hlt)
      clear hga e2
      obtain ⟨av, hav⟩ : ∃ v, nth A k = v := ⟨_, rfl⟩
      rw [hav] at qa
      rw [hav] at hge
      clear hav
      have p_0 := l1.cell (k := 0) rfl
      have p_1 := l1.cell (k := 1) rfl
      have p_2 := l1.cell (k := 2) rfl
      have p_l := l1.lt
      go_wp2
      refine Mix.region_mixL (Mix.kinds [] [7] []) (by kernel_rfl) (by kernel_rfl) ?_
      repeat ((with_reducible refine Mix.atCons ?_); first | refine Mix.skipU (by rfl) rfl (by rfl) ?_ | (refine Mix.val rfl rfl (by rfl) (fun K hK => ?_); go_big_quiet_op; refine hK _ ?_; clear hK K) | (refine Mix.skip (by rfl) ?_; go_frame))
      refine Mix.loud rfl (by rfl) (fun x1 K hK => ?_)
      go_wp2_with fail
      refine (Has_calls _ (natV N) k _ ((S.at (v := .slice a4 nl c4) (xs := (natV N)) (by simp)).later x1)).mono ?_
      rintro e w' ⟨rfl, hw⟩
      rw [hw]
      rw [HH.out]
      refine hK _ (Later.self _) ?_
      clear hK K hw w'
      simp only [Later.self_w]
      try go_frame
      repeat ((with_reducible refine Mix.atCons ?_); first | refine Mix.skipU (by rfl) rfl (by rfl) ?_ | (refine Mix.val rfl rfl (by rfl) (fun K hK => ?_); go_big_quiet_op; refine hK _ ?_; clear hK K) | (refine Mix.skip (by rfl) ?_; go_frame))
      clear p_0 p_1 p_2 p_l
      refine Mix.done (fun x2 => ?_)
      replace hs := ((hs.later x1).later x2)
      replace l1 := ((l1.later x1).later x2)
      replace S := ((S.later x1).later x2)
      obtain ⟨Y13, hZ⟩ : ∃ Z : Later Y11.w, Z.w = x2.w := ⟨Y12.step (x1.step (x2)), rfl⟩
      rw [← hZ] at S hs l1 ⊢
      clear hZ
      go_wp2
      go_roundw
      case rel => exact ⟨k + 1, Y13, rfl, by omega, by go_num⟩
      case measure => simp [intOf]; omega
    obtain rfl : n = k := by omega
    have q0_0 := l1.cell (k := 0) rfl
    have q0_1 := l1.cell (k := 1) rfl
    have q0_2 := l1.cell (k := 2) rfl
    have q0_l := l1.lt
    go_wp2_with fail
    clear q0_0 q0_1 q0_2 q0_l
    refine (refCheckSetting_calls n _ _ _ ms cs A _ hs (S.at (v := .slice a6 n c6) (xs := A) (by simp))).mono ?_
    rintro e w' ⟨rfl, y, rfl⟩
    rw [HAE.out, HAN.out]
    replace hs := hs.later y
    replace l1 := l1.later y
    replace S := S.later y
    obtain ⟨Y13, hZ⟩ : ∃ Z : Later Y11.w, Z.w = y.w := ⟨Y12.step (y), rfl⟩
    rw [← hZ] at S hs l1 ⊢
    clear hZ
    clear y
    have q0_0 := l1.cell (k := 0) rfl
    have q0_1 := l1.cell (k := 1) rfl
    have q0_2 := l1.cell (k := 2) rfl
    have q0_l := l1.lt
    go_wp2_with fail
    clear q0_0 q0_1 q0_2 q0_l
    refine (CheckSetting_any n _ _ ms cs _ hs _ A (S.at (v := .slice a6 n c6) (xs := A) (by simp))).mono ?_
    rintro e w' ⟨rfl, y, rfl⟩
    rw [HAE.out, HAN.out]
    replace hs := hs.later y
    replace l1 := l1.later y
    replace S := S.later y
    obtain ⟨Y14, hZ⟩ : ∃ Z : Later Y11.w, Z.w = y.w := ⟨Y13.step (y), rfl⟩
    rw [← hZ] at S hs l1 ⊢
    clear hZ
    clear y
    go_wp2_with fail
    refine (Works_calls _).mono ?_
    rintro e w' ⟨rfl, y, rfl⟩
    replace hs := hs.later y
    replace l1 := l1.later y
    replace S := S.later y
    obtain ⟨Y15, hZ⟩ : ∃ Z : Later Y11.w, Z.w = y.w := ⟨Y14.step (y), rfl⟩
    rw [← hZ] at S hs l1 ⊢
    clear hZ
    clear y
    go_wp2
    go_ret
    exact ⟨rfl, Y11.step (Y15), rfl⟩
end Go.Proofs.Ytdhdpbnlhnodjaa
